/- Proved here: calls of functions of the program answer as the plain functions beside them say. Conditions: each theorem names its own. Written by a program of this session (hprint.py) out of the translation. -/
import Derived.Test.YtfpomjnhgcmgoaaQcPLcdx0
import Derived.Test.YtfpomjnhgcmgoaaQcPLcdx4
import Derived.Test.YtfpomjnhgcmgoaaQcPLcdx5
namespace Go.Proofs.Ytfpomjnhgcmgoaa.P
open Go.RowKit Go.Proofs.YtfpomjnhgcmgoaaW.PrintWords Go.Proofs.YtfpomjnhgcmgoaaW.PrintLast Go.Proofs.YtfpomjnhgcmgoaaW.PrintMore
attribute [local go_sem] max2_int min2_int max_two min_two max_three min_three max_four min_four   -- for this text's walks alone
set_option linter.unusedVariables false
set_option linter.unusedSimpArgs false

mutual
def spec_l03Tree.l0 : Nat → Int → List Int → Int → List Int → Int → Int → Int → Int → Int → Int → Int → Option (Int × Int × Int × Int × Int)
 | 0, _, _, _, _, _, _, _, _, _, _, _ => none
 | k + 1, x6, x7, x8, x1000, x1001, x1002, x216000, x216001, x218000, x218001, x218002 => if x8 < (x7.length : Int) then (if 0 ≤ x8 then (spec_l03Tree.l0 k x6 (x7.set (x8 : Int).toNat x8) (wrap64 (x8 + 1)) x1000 x1001 x1002 x216000 x216001 x218000 x218001 x218002) else (none)) else (if x6 = 0 then (some (x218000, x218001, x218002, x1001, x1002)) else ((spec_l01Below.f x1000 x1001 x1002 x6).bind fun bt224 => ((spec_l01Below.f x1000 bt224.2.1 bt224.2.2 x6).bind fun bt227 => (spec_l03Tree.l1 k x6 x7 bt224.1 (wrap64 (1 + bt227.1)) x1000 bt227.2.1 bt227.2.2 x216000 x216001 x218000 x218001 x218002))))
def spec_l03Tree.l1 : Nat → Int → List Int → Int → Int → List Int → Int → Int → Int → Int → Int → Int → Int → Option (Int × Int × Int × Int × Int)
 | 0, _, _, _, _, _, _, _, _, _, _, _, _ => none
 | k + 1, x6, x7, x9, x10, x1000, x1001, x1002, x216000, x216001, x218000, x218001, x218002 => (spec_l03Common.f k x10 x6).bind fun t230 => (if t230 = true then (spec_l03Tree.l1 k x6 x7 x9 (wrap64 (x10 + 1)) x1000 x1001 x1002 x216000 x216001 x218000 x218001 x218002) else (spec_l03Tree.l2 k x6 x7 x9 x10 0 x1000 x1001 x1002 x216000 x216001 x218000 x218001 x218002))
def spec_l03Tree.l2 : Nat → Int → List Int → Int → Int → Int → List Int → Int → Int → Int → Int → Int → Int → Int → Option (Int × Int × Int × Int × Int)
 | 0, _, _, _, _, _, _, _, _, _, _, _, _, _ => none
 | k + 1, x6, x7, x9, x10, x11, x1000, x1001, x1002, x216000, x216001, x218000, x218001, x218002 => if x11 < x6 then (if x6 = 0 then (none) else ((spec_EndsOf.f x216000 x216001 (Int.tmod (wrap64 (x9 + (wrap64 (x11 * x10)))) x6)).bind fun bt231 => (if 0 ≤ bt231.1 then (if bt231.1 < (x7.length : Int) then (if 0 ≤ bt231.2 then (if bt231.2 < (x7.length : Int) then (if (rd x7 bt231.1) = (rd x7 bt231.2) then (spec_l03Tree.l2 k x6 x7 x9 x10 (wrap64 (x11 + 1)) x1000 x1001 x1002 x216000 x216001 x218000 x218001 x218002) else (if 0 ≤ (Int.tmod (wrap64 (x9 + (wrap64 (x11 * x10)))) x6) then (spec_l03Tree.l3 k x6 x7 x9 x10 x11 bt231.1 (rd x7 bt231.2) 0 x1000 x1001 x1002 x216000 x216001 x218000 x218001 (Go.bits .or .i64 x218002 (shl .i64 1 (Int.tmod (wrap64 (x9 + (wrap64 (x11 * x10)))) x6)))) else (none))) else (none)) else (none)) else (none)) else (none)))) else (some (x218000, x218001, x218002, x1001, x1002))
def spec_l03Tree.l3 : Nat → Int → List Int → Int → Int → Int → Int → Int → Int → List Int → Int → Int → Int → Int → Int → Int → Int → Option (Int × Int × Int × Int × Int)
 | 0, _, _, _, _, _, _, _, _, _, _, _, _, _, _, _, _ => none
 | k + 1, x6, x7, x9, x10, x11, x13, x15, x16, x1000, x1001, x1002, x216000, x216001, x218000, x218001, x218002 => if x16 < (x7.length : Int) then (if 0 ≤ x16 then (if (rd x7 x16) = x15 then (if 0 ≤ x13 then (if x13 < (x7.length : Int) then (spec_l03Tree.l3 k x6 (x7.set (x16 : Int).toNat (rd x7 x13)) x9 x10 x11 x13 x15 (wrap64 (x16 + 1)) x1000 x1001 x1002 x216000 x216001 x218000 x218001 x218002) else (none)) else (none)) else (spec_l03Tree.l3 k x6 x7 x9 x10 x11 x13 x15 (wrap64 (x16 + 1)) x1000 x1001 x1002 x216000 x216001 x218000 x218001 x218002)) else (none)) else (spec_l03Tree.l2 k x6 x7 x9 x10 (wrap64 (x11 + 1)) x1000 x1001 x1002 x216000 x216001 x218000 x218001 x218002)
end
def spec_l03Tree.f (k : Nat) (s0_0 : List Int) (s0_1 : Int) (s0_2 : Int) (a1_0 : Int) (a1_1 : Int) : Option (Int × Int × Int × Int × Int) := (spec_CountGaps.f a1_0 a1_1).bind fun t218 => ((spec_CountCells.f a1_0 a1_1).bind fun t219 => (if 0 ≤ t219 then (if (t219 : Int).toNat ≤ 35184372088832 then (spec_l03Tree.l0 k t218 (List.replicate (t219 : Int).toNat 0) 0 s0_0 s0_1 s0_2 a1_0 a1_1 a1_0 a1_1 0) else (none)) else (none)))
theorem spec_l03Tree.mono_l : ∀ k, (∀ y0 y1 y2 y3 y4 y5 y6 y7 y8 y9 y10, LeO (spec_l03Tree.l0 k y0 y1 y2 y3 y4 y5 y6 y7 y8 y9 y10) (spec_l03Tree.l0 (k + 1) y0 y1 y2 y3 y4 y5 y6 y7 y8 y9 y10)) ∧ (∀ y0 y1 y2 y3 y4 y5 y6 y7 y8 y9 y10 y11, LeO (spec_l03Tree.l1 k y0 y1 y2 y3 y4 y5 y6 y7 y8 y9 y10 y11) (spec_l03Tree.l1 (k + 1) y0 y1 y2 y3 y4 y5 y6 y7 y8 y9 y10 y11)) ∧ (∀ y0 y1 y2 y3 y4 y5 y6 y7 y8 y9 y10 y11 y12, LeO (spec_l03Tree.l2 k y0 y1 y2 y3 y4 y5 y6 y7 y8 y9 y10 y11 y12) (spec_l03Tree.l2 (k + 1) y0 y1 y2 y3 y4 y5 y6 y7 y8 y9 y10 y11 y12)) ∧ (∀ y0 y1 y2 y3 y4 y5 y6 y7 y8 y9 y10 y11 y12 y13 y14 y15, LeO (spec_l03Tree.l3 k y0 y1 y2 y3 y4 y5 y6 y7 y8 y9 y10 y11 y12 y13 y14 y15) (spec_l03Tree.l3 (k + 1) y0 y1 y2 y3 y4 y5 y6 y7 y8 y9 y10 y11 y12 y13 y14 y15))
 | 0 => ⟨fun _ _ _ _ _ _ _ _ _ _ _ r h => by simp [spec_l03Tree.l0] at h, fun _ _ _ _ _ _ _ _ _ _ _ _ r h => by simp [spec_l03Tree.l1] at h, fun _ _ _ _ _ _ _ _ _ _ _ _ _ r h => by simp [spec_l03Tree.l2] at h, fun _ _ _ _ _ _ _ _ _ _ _ _ _ _ _ _ r h => by simp [spec_l03Tree.l3] at h⟩
 | k + 1 => by
  obtain ⟨ih0, ih1, ih2, ih3⟩ := spec_l03Tree.mono_l k
  refine ⟨?_, ?_, ?_, ?_⟩
  ·intro y0 y1 y2 y3 y4 y5 y6 y7 y8 y9 y10
   unfold spec_l03Tree.l0
   repeat' first
   | (with_reducible exact ih0 _ _ _ _ _ _ _ _ _ _ _)
   | (with_reducible exact ih1 _ _ _ _ _ _ _ _ _ _ _ _)
   | (with_reducible exact ih2 _ _ _ _ _ _ _ _ _ _ _ _ _)
   | (with_reducible exact ih3 _ _ _ _ _ _ _ _ _ _ _ _ _ _ _ _)
   | (with_reducible exact spec_l03Common.mono _ _ _)
   | (with_reducible exact LeO.refl _)
   | (with_reducible exact LeO.none _)
   | (with_reducible refine LeO.ite ?_ ?_)
   | (with_reducible refine LeO.bind ?_ (fun _ => ?_))
   | exact ih0 _ _ _ _ _ _ _ _ _ _ _
   | exact ih1 _ _ _ _ _ _ _ _ _ _ _ _
   | exact ih2 _ _ _ _ _ _ _ _ _ _ _ _ _
   | exact ih3 _ _ _ _ _ _ _ _ _ _ _ _ _ _ _ _
   | exact spec_l03Common.mono _ _ _
   | exact LeO.none _
   | refine LeO.ite ?_ ?_
   | refine LeO.bind ?_ (fun _ => ?_)
  ·intro y0 y1 y2 y3 y4 y5 y6 y7 y8 y9 y10 y11
   unfold spec_l03Tree.l1
   repeat' first
   | (with_reducible exact ih0 _ _ _ _ _ _ _ _ _ _ _)
   | (with_reducible exact ih1 _ _ _ _ _ _ _ _ _ _ _ _)
   | (with_reducible exact ih2 _ _ _ _ _ _ _ _ _ _ _ _ _)
   | (with_reducible exact ih3 _ _ _ _ _ _ _ _ _ _ _ _ _ _ _ _)
   | (with_reducible exact spec_l03Common.mono _ _ _)
   | (with_reducible exact LeO.refl _)
   | (with_reducible exact LeO.none _)
   | (with_reducible refine LeO.ite ?_ ?_)
   | (with_reducible refine LeO.bind ?_ (fun _ => ?_))
   | exact ih0 _ _ _ _ _ _ _ _ _ _ _
   | exact ih1 _ _ _ _ _ _ _ _ _ _ _ _
   | exact ih2 _ _ _ _ _ _ _ _ _ _ _ _ _
   | exact ih3 _ _ _ _ _ _ _ _ _ _ _ _ _ _ _ _
   | exact spec_l03Common.mono _ _ _
   | exact LeO.none _
   | refine LeO.ite ?_ ?_
   | refine LeO.bind ?_ (fun _ => ?_)
  ·intro y0 y1 y2 y3 y4 y5 y6 y7 y8 y9 y10 y11 y12
   unfold spec_l03Tree.l2
   repeat' first
   | (with_reducible exact ih0 _ _ _ _ _ _ _ _ _ _ _)
   | (with_reducible exact ih1 _ _ _ _ _ _ _ _ _ _ _ _)
   | (with_reducible exact ih2 _ _ _ _ _ _ _ _ _ _ _ _ _)
   | (with_reducible exact ih3 _ _ _ _ _ _ _ _ _ _ _ _ _ _ _ _)
   | (with_reducible exact spec_l03Common.mono _ _ _)
   | (with_reducible exact LeO.refl _)
   | (with_reducible exact LeO.none _)
   | (with_reducible refine LeO.ite ?_ ?_)
   | (with_reducible refine LeO.bind ?_ (fun _ => ?_))
   | exact ih0 _ _ _ _ _ _ _ _ _ _ _
   | exact ih1 _ _ _ _ _ _ _ _ _ _ _ _
   | exact ih2 _ _ _ _ _ _ _ _ _ _ _ _ _
   | exact ih3 _ _ _ _ _ _ _ _ _ _ _ _ _ _ _ _
   | exact spec_l03Common.mono _ _ _
   | exact LeO.none _
   | refine LeO.ite ?_ ?_
   | refine LeO.bind ?_ (fun _ => ?_)
  ·intro y0 y1 y2 y3 y4 y5 y6 y7 y8 y9 y10 y11 y12 y13 y14 y15
   unfold spec_l03Tree.l3
   repeat' first
   | (with_reducible exact ih0 _ _ _ _ _ _ _ _ _ _ _)
   | (with_reducible exact ih1 _ _ _ _ _ _ _ _ _ _ _ _)
   | (with_reducible exact ih2 _ _ _ _ _ _ _ _ _ _ _ _ _)
   | (with_reducible exact ih3 _ _ _ _ _ _ _ _ _ _ _ _ _ _ _ _)
   | (with_reducible exact spec_l03Common.mono _ _ _)
   | (with_reducible exact LeO.refl _)
   | (with_reducible exact LeO.none _)
   | (with_reducible refine LeO.ite ?_ ?_)
   | (with_reducible refine LeO.bind ?_ (fun _ => ?_))
   | exact ih0 _ _ _ _ _ _ _ _ _ _ _
   | exact ih1 _ _ _ _ _ _ _ _ _ _ _ _
   | exact ih2 _ _ _ _ _ _ _ _ _ _ _ _ _
   | exact ih3 _ _ _ _ _ _ _ _ _ _ _ _ _ _ _ _
   | exact spec_l03Common.mono _ _ _
   | exact LeO.none _
   | refine LeO.ite ?_ ?_
   | refine LeO.bind ?_ (fun _ => ?_)
theorem spec_l03Tree.mono : ∀ a0 a1 a2 a3 a4 k, LeO (spec_l03Tree.f k a0 a1 a2 a3 a4) (spec_l03Tree.f (k + 1) a0 a1 a2 a3 a4) := by
 intro a0 a1 a2 a3 a4 k
 obtain ⟨ih0, ih1, ih2, ih3⟩ := spec_l03Tree.mono_l k
 unfold spec_l03Tree.f
 repeat' first
   | (with_reducible exact ih0 _ _ _ _ _ _ _ _ _ _ _)
   | (with_reducible exact ih1 _ _ _ _ _ _ _ _ _ _ _ _)
   | (with_reducible exact ih2 _ _ _ _ _ _ _ _ _ _ _ _ _)
   | (with_reducible exact ih3 _ _ _ _ _ _ _ _ _ _ _ _ _ _ _ _)
   | (with_reducible exact spec_l03Common.mono _ _ _)
   | (with_reducible exact LeO.refl _)
   | (with_reducible exact LeO.none _)
   | (with_reducible refine LeO.ite ?_ ?_)
   | (with_reducible refine LeO.bind ?_ (fun _ => ?_))
   | exact ih0 _ _ _ _ _ _ _ _ _ _ _
   | exact ih1 _ _ _ _ _ _ _ _ _ _ _ _
   | exact ih2 _ _ _ _ _ _ _ _ _ _ _ _ _
   | exact ih3 _ _ _ _ _ _ _ _ _ _ _ _ _ _ _ _
   | exact spec_l03Common.mono _ _ _
   | exact LeO.none _
   | refine LeO.ite ?_ ?_
   | refine LeO.bind ?_ (fun _ => ?_)
def spec_l03Tree.T19 : Bool × List (List Nat × List Nat) := (true, [([], []), ([], []), ([0, 1], [0, 1]), ([2], [2]), ([], []), ([], []), ([4, 5], [4, 5]), ([6], [6]), ([3, 7], [3, 7])])
def spec_l03Tree.B19 : List Nat := [0, 0, 3, 7, 0, 0, 48, 112, 255]
theorem spec_l03Tree.tab19 : rtab .any (opsOf Try.f80 19) = spec_l03Tree.T19 := by kernel_rfl
theorem spec_l03Tree.bits19 : waitsOk spec_l03Tree.T19.2 spec_l03Tree.B19 = true := by kernel_rfl
set_option maxHeartbeats 8000000 in
set_option maxRecDepth 100000 in
theorem spec_l03Tree.calls (k : Nat) (g : Nat) (s0_0 : List Int) (s0_1 : Int) (s0_2 : Int) (a1_0 : Int) (a1_1 : Int) (r1 : Int) (r2 : Int) (r3 : Int) (r4 : Int) (r5 : Int) (w0 w : World) (hI : IsS94 w0 w g s0_0 s0_1 s0_2) (hB : Below w0.heap.size w0 w) (h : spec_l03Tree.f k s0_0 s0_1 s0_2 a1_0 a1_1 = some (r1, r2, r3, r4, r5)) :
  Calls Try.prog 80 #[.pointer (some ⟨g, 0, none⟩), .agg #[.int .i64 a1_0, .int .i64 a1_1]] w fun e w' => e = .returned (.agg #[.int .i64 r1, .int .i64 r2, .int .i64 r3]) ∧ IsS94 w0 w' g s0_0 r4 r5 ∧ Below w0.heap.size w0 w' ∧ KeepBut w w' g none := by
 have hu28 := Try.underlying28
 have hu30 := Try.underlying30
 have HI0 := Aside0.mk hI
 have HK := Aside0.mk (KeepBut.refl w g none)
 have HL := Aside0.mk hB.size
 clear hI
 have HW0 := Aside0.mk hB.size
 have HB := Aside0.mk hB
 clear hB
 have H := h
 unfold spec_l03Tree.f at H
 clear h
 obtain ⟨t218, A3, H⟩ := BD H
 obtain ⟨t219, A4, H⟩ := BD H
 by_cases c5 : 0 ≤ t219
 ·as_aux_lemma =>
   rw [if_pos c5] at H
   have c5b0 := eq_true c5
   have c5b1 := decide_eq_true c5
   clear c5
   by_cases c6 : (t219 : Int).toNat ≤ 35184372088832
   ·as_aux_lemma =>
     rw [if_pos c6] at H
     have c6b0 := eq_true c6
     have c6b1 := decide_eq_true c6
     clear c6
     generalize hy220 : ((List.replicate (t219 : Int).toNat 0) : List Int) = y220 at H
     have Ny220 := Aside0.mk hy220.symm
     clear hy220
     have H' := Aside0.mk H
     clear H
     go_enter Try.func80, Try.ntmps80
     go_wp2_with (first | ((with_reducible refine gate_dst (N := 3) rfl ?_); refine BX 3 28 #[.int .i64 a1_0, .int .i64 a1_1] ?_; intro gb215 hg w7 hbox hb; have n0_ := Aside0.mk (IsS94.below (by repeat (first | (with_reducible first | exact HI0.out | apply IsS94.alloc | apply IsS94.drewN | apply IsS94.drew | apply IsS94.set_1 | apply IsS94.set_2) | exact HI0.out)) hb); have n1_ := Aside0.mk (KeepBut.trans (by repeat (first | (with_reducible first | exact HK.out | apply KeepBut.set_ | apply keep_drewN | apply keep_drew | apply keep_alloc) | exact HK.out)) (KeepBut.of_below hb g none) (.inl rfl)); have n2_ := Aside0.mk (below_step (by repeat (first | (with_reducible first | exact HB.out | apply below_alloc | apply pw_below_drewN | apply below_drew1 | refine below_set ?_ (IsS94.ge HI0.out)) | exact HB.out)) hb); have n3_ := Aside0.mk (hbox); have n4_ := Aside0.mk ((by rw [hg]; exact (keep_size (w := w) (g := g) (row := none) (by repeat (first | (with_reducible first | exact HK.out | apply KeepBut.set_ | apply keep_drewN | apply keep_drew | apply keep_alloc) | exact HK.out))) : w.heap.size ≤ gb215)); have n5_ := Aside0.mk ((Nat.le_trans HW0.out (by rw [hg]; exact (keep_size (w := w) (g := g) (row := none) (by repeat (first | (with_reducible first | exact HK.out | apply KeepBut.set_ | apply keep_drewN | apply keep_drew | apply keep_alloc) | exact HK.out))) : w.heap.size ≤ gb215) : w0.heap.size ≤ gb215)); have n6_ := Aside0.mk ((by rw [hg]; exact Nat.ne_of_lt (IsS94.lt (show IsS94 w0 _ g s0_0 s0_1 s0_2 from by repeat (first | (with_reducible first | exact HI0.out | apply IsS94.alloc | apply IsS94.drewN | apply IsS94.drew | apply IsS94.set_1 | apply IsS94.set_2) | exact HI0.out))) : g ≠ gb215)); have n7_ := Aside0.mk ((by rw [hg]; exact Nat.ne_of_gt (IsS94.lt (show IsS94 w0 _ g s0_0 s0_1 s0_2 from by repeat (first | (with_reducible first | exact HI0.out | apply IsS94.alloc | apply IsS94.drewN | apply IsS94.drew | apply IsS94.set_1 | apply IsS94.set_2) | exact HI0.out))) : gb215 ≠ g)); clear HI0; clear HK; clear HB; have HI0 := n0_; have HK := n1_; have HB := n2_; have BK215 := n3_; have GW215 := n4_; have GE215 := n5_; have NB0_215 := n6_; have NB215_0 := n7_; clear n0_ n1_ n2_ n3_ n4_ n5_ n6_ n7_; clear hb hbox hg) | ((with_reducible refine gate_dst (N := 4) rfl ?_); refine BX 4 30 #[.int .i64 0, .int .i64 0, .int .i64 0] ?_; intro gb216 hg w8 hbox hb; have n0_ := Aside0.mk (IsS94.below (by repeat (first | (with_reducible first | exact HI0.out | apply IsS94.alloc | apply IsS94.drewN | apply IsS94.drew | apply IsS94.set_1 | apply IsS94.set_2 | refine IsS94.far ?_ NB0_215.out _) | exact HI0.out)) hb); have n1_ := Aside0.mk (blk_below (g := gb215) (o := .cells #[.int .i64 a1_0, .int .i64 a1_1] 28 (0, 0)) BKZ hb); have n2_ := Aside0.mk (KeepBut.trans (by repeat (first | (with_reducible first | exact HK.out | apply KeepBut.set_ | apply keep_drewN | apply keep_drew | apply keep_alloc | refine keep_far ?_ GW215.out _) | exact HK.out)) (KeepBut.of_below hb g none) (.inl rfl)); have n3_ := Aside0.mk (below_step (by repeat (first | (with_reducible first | exact HB.out | apply below_alloc | apply pw_below_drewN | apply below_drew1 | refine below_set ?_ (IsS94.ge HI0.out) | refine below_set ?_ GE215.out) | exact HB.out)) hb); have n4_ := Aside0.mk (hbox); have n5_ := Aside0.mk ((by rw [hg]; exact (keep_size (w := w) (g := g) (row := none) (by repeat (first | (with_reducible first | exact HK.out | apply KeepBut.set_ | apply keep_drewN | apply keep_drew | apply keep_alloc | refine keep_far ?_ GW215.out _) | exact HK.out))) : w.heap.size ≤ gb216)); have n6_ := Aside0.mk ((Nat.le_trans HW0.out (by rw [hg]; exact (keep_size (w := w) (g := g) (row := none) (by repeat (first | (with_reducible first | exact HK.out | apply KeepBut.set_ | apply keep_drewN | apply keep_drew | apply keep_alloc | refine keep_far ?_ GW215.out _) | exact HK.out))) : w.heap.size ≤ gb216) : w0.heap.size ≤ gb216)); have n7_ := Aside0.mk ((by rw [hg]; exact Nat.ne_of_lt (blk_lt (g := gb215) (o := .cells #[.int .i64 a1_0, .int .i64 a1_1] 28 (0, 0)) BKZ) : gb215 ≠ gb216)); have n8_ := Aside0.mk ((by rw [hg]; exact Nat.ne_of_gt (blk_lt (g := gb215) (o := .cells #[.int .i64 a1_0, .int .i64 a1_1] 28 (0, 0)) BKZ) : gb216 ≠ gb215)); have n9_ := Aside0.mk ((by rw [hg]; exact Nat.ne_of_lt (IsS94.lt (show IsS94 w0 _ g s0_0 s0_1 s0_2 from by repeat (first | (with_reducible first | exact HI0.out | apply IsS94.alloc | apply IsS94.drewN | apply IsS94.drew | apply IsS94.set_1 | apply IsS94.set_2 | refine IsS94.far ?_ NB0_215.out _) | exact HI0.out))) : g ≠ gb216)); have n10_ := Aside0.mk ((by rw [hg]; exact Nat.ne_of_gt (IsS94.lt (show IsS94 w0 _ g s0_0 s0_1 s0_2 from by repeat (first | (with_reducible first | exact HI0.out | apply IsS94.alloc | apply IsS94.drewN | apply IsS94.drew | apply IsS94.set_1 | apply IsS94.set_2 | refine IsS94.far ?_ NB0_215.out _) | exact HI0.out))) : gb216 ≠ g)); clear HI0; clear BK215; clear HK; clear HB; have HI0 := n0_; have BK215 := n1_; have HK := n2_; have HB := n3_; have BK216 := n4_; have GW216 := n5_; have GE216 := n6_; have NB215_216 := n7_; have NB216_215 := n8_; have NB0_216 := n9_; have NB216_0 := n10_; clear n0_ n1_ n2_ n3_ n4_ n5_ n6_ n7_ n8_ n9_ n10_; clear hb hbox hg; have hnb9 := NB215_216.out; have hnc9 := NB216_215.out; have hnb10 := NB215_0.out; have hnc10 := NB0_215.out; obtain ⟨hcz11_0, hcz11_1, hfz11_0, hfz11_1⟩ := CZ2 BK215) | ((with_reducible refine gate_dst (N := 5) rfl ?_); refine BX 5 30 #[.int .i64 0, .int .i64 0, .int .i64 0] ?_; intro gb217 hg w12 hbox hb; have n0_ := Aside0.mk (IsS94.below (by repeat (first | (with_reducible first | exact HI0.out | apply IsS94.alloc | apply IsS94.drewN | apply IsS94.drew | apply IsS94.set_1 | apply IsS94.set_2 | refine IsS94.far ?_ NB0_215.out _ | refine IsS94.far ?_ NB0_216.out _) | exact HI0.out)) hb); have n1_ := Aside0.mk (blk_below (g := gb215) (o := .cells #[.int .i64 a1_0, .int .i64 a1_1] 28 (0, 0)) BKZ hb); have n2_ := Aside0.mk (blk_below (g := gb216) (o := .cells #[.int .i64 0, .int .i64 0, .int .i64 0] 30 (0, 0)) BKZ hb); have n3_ := Aside0.mk (KeepBut.trans (by repeat (first | (with_reducible first | exact HK.out | apply KeepBut.set_ | apply keep_drewN | apply keep_drew | apply keep_alloc | refine keep_far ?_ GW215.out _ | refine keep_far ?_ GW216.out _) | exact HK.out)) (KeepBut.of_below hb g none) (.inl rfl)); have n4_ := Aside0.mk (below_step (by repeat (first | (with_reducible first | exact HB.out | apply below_alloc | apply pw_below_drewN | apply below_drew1 | refine below_set ?_ (IsS94.ge HI0.out) | refine below_set ?_ GE215.out | refine below_set ?_ GE216.out) | exact HB.out)) hb); have n5_ := Aside0.mk (hbox); have n6_ := Aside0.mk ((by rw [hg]; exact (keep_size (w := w) (g := g) (row := none) (by repeat (first | (with_reducible first | exact HK.out | apply KeepBut.set_ | apply keep_drewN | apply keep_drew | apply keep_alloc | refine keep_far ?_ GW215.out _ | refine keep_far ?_ GW216.out _) | exact HK.out))) : w.heap.size ≤ gb217)); have n7_ := Aside0.mk ((Nat.le_trans HW0.out (by rw [hg]; exact (keep_size (w := w) (g := g) (row := none) (by repeat (first | (with_reducible first | exact HK.out | apply KeepBut.set_ | apply keep_drewN | apply keep_drew | apply keep_alloc | refine keep_far ?_ GW215.out _ | refine keep_far ?_ GW216.out _) | exact HK.out))) : w.heap.size ≤ gb217) : w0.heap.size ≤ gb217)); have n8_ := Aside0.mk ((by rw [hg]; exact Nat.ne_of_lt (blk_lt (g := gb215) (o := .cells #[.int .i64 a1_0, .int .i64 a1_1] 28 (0, 0)) BKZ) : gb215 ≠ gb217)); have n9_ := Aside0.mk ((by rw [hg]; exact Nat.ne_of_gt (blk_lt (g := gb215) (o := .cells #[.int .i64 a1_0, .int .i64 a1_1] 28 (0, 0)) BKZ) : gb217 ≠ gb215)); have n10_ := Aside0.mk ((by rw [hg]; exact Nat.ne_of_lt (blk_lt (g := gb216) (o := .cells #[.int .i64 0, .int .i64 0, .int .i64 0] 30 (0, 0)) BKZ) : gb216 ≠ gb217)); have n11_ := Aside0.mk ((by rw [hg]; exact Nat.ne_of_gt (blk_lt (g := gb216) (o := .cells #[.int .i64 0, .int .i64 0, .int .i64 0] 30 (0, 0)) BKZ) : gb217 ≠ gb216)); have n12_ := Aside0.mk ((by rw [hg]; exact Nat.ne_of_lt (IsS94.lt (show IsS94 w0 _ g s0_0 s0_1 s0_2 from by repeat (first | (with_reducible first | exact HI0.out | apply IsS94.alloc | apply IsS94.drewN | apply IsS94.drew | apply IsS94.set_1 | apply IsS94.set_2 | refine IsS94.far ?_ NB0_215.out _ | refine IsS94.far ?_ NB0_216.out _) | exact HI0.out))) : g ≠ gb217)); have n13_ := Aside0.mk ((by rw [hg]; exact Nat.ne_of_gt (IsS94.lt (show IsS94 w0 _ g s0_0 s0_1 s0_2 from by repeat (first | (with_reducible first | exact HI0.out | apply IsS94.alloc | apply IsS94.drewN | apply IsS94.drew | apply IsS94.set_1 | apply IsS94.set_2 | refine IsS94.far ?_ NB0_215.out _ | refine IsS94.far ?_ NB0_216.out _) | exact HI0.out))) : gb217 ≠ g)); clear HI0; clear BK215; clear BK216; clear HK; clear HB; have HI0 := n0_; have BK215 := n1_; have BK216 := n2_; have HK := n3_; have HB := n4_; have BK217 := n5_; have GW217 := n6_; have GE217 := n7_; have NB215_217 := n8_; have NB217_215 := n9_; have NB216_217 := n10_; have NB217_216 := n11_; have NB0_217 := n12_; have NB217_0 := n13_; clear n0_ n1_ n2_ n3_ n4_ n5_ n6_ n7_ n8_ n9_ n10_ n11_ n12_ n13_; clear hb hbox hg; have hnb13 := NB217_215.out; have hnc13 := NB215_217.out; have hnb14 := NB217_216.out; have hnc14 := NB216_217.out; have hnb15 := NB217_0.out; have hnc15 := NB0_217.out; obtain ⟨hcz16_0, hcz16_1, hcz16_2, hfz16_0, hfz16_1, hfz16_2⟩ := CZ3 BK217; obtain ⟨hcz17_0, hcz17_1, hfz17_0, hfz17_1⟩ := CZ2 BK215) | ((with_reducible refine GC 68 rfl ?_); refine GL 20 Try.func68 (spec_CountGaps.calls a1_0 a1_1 t218 _ A3.out) ?_; rintro e w18 ⟨rfl, hb⟩; refine ⟨_, rfl, ?_⟩; have n0_ := Aside0.mk (IsS94.below (show IsS94 w0 (S3W w12 gb217 (.int .i64 a1_0) (.int .i64 a1_1) (.int .i64 0)) g s0_0 s0_1 s0_2 from by repeat (first | (with_reducible first | exact HI0.out | apply IsS94.alloc | apply IsS94.drewN | apply IsS94.drew | apply IsS94.set_1 | apply IsS94.set_2 | refine IsS94.far ?_ NB0_215.out _ | refine IsS94.far ?_ NB0_216.out _ | refine IsS94.far ?_ NB0_217.out _) | exact HI0.out)) hb); have n1_ := Aside0.mk (blk_below (BF3 NB215_217 BK215) hb); have n2_ := Aside0.mk (blk_below (BF3 NB216_217 BK216) hb); have n3_ := Aside0.mk (blk_below (g := gb217) (o := .cells #[.int .i64 a1_0, .int .i64 a1_1, .int .i64 0] 30 (0, 0)) (PQ3 BK217) hb); have n4_ := Aside0.mk (KeepBut.trans (by repeat (first | (with_reducible first | exact HK.out | apply KeepBut.set_ | apply keep_drewN | apply keep_drew | apply keep_alloc | refine keep_far ?_ GW215.out _ | refine keep_far ?_ GW216.out _ | refine keep_far ?_ GW217.out _) | exact HK.out)) (KeepBut.of_below hb g none) (.inl rfl)); have n5_ := Aside0.mk (below_step (by repeat (first | (with_reducible first | exact HB.out | apply below_alloc | apply pw_below_drewN | apply below_drew1 | refine below_set ?_ (IsS94.ge HI0.out) | refine below_set ?_ GE215.out | refine below_set ?_ GE216.out | refine below_set ?_ GE217.out) | exact HB.out)) hb); clear HI0; clear BK215; clear BK216; clear BK217; clear HK; clear HB; have HI0 := n0_; have BK215 := n1_; have BK216 := n2_; have BK217 := n3_; have HK := n4_; have HB := n5_; clear n0_ n1_ n2_ n3_ n4_ n5_; clear hb; obtain ⟨hcz19_0, hcz19_1, hfz19_0, hfz19_1⟩ := CZ2 BK215) | ((with_reducible refine GC 22 rfl ?_); refine GL 22 Try.func22 (spec_CountCells.calls a1_0 a1_1 t219 _ A4.out) ?_; rintro e w20 ⟨rfl, hb⟩; refine ⟨_, rfl, ?_⟩; have n0_ := Aside0.mk (IsS94.below (by repeat (first | (with_reducible first | exact HI0.out | apply IsS94.alloc | apply IsS94.drewN | apply IsS94.drew | apply IsS94.set_1 | apply IsS94.set_2 | refine IsS94.far ?_ NB0_215.out _ | refine IsS94.far ?_ NB0_216.out _ | refine IsS94.far ?_ NB0_217.out _) | exact HI0.out)) hb); have n1_ := Aside0.mk (blk_below (g := gb215) (o := .cells #[.int .i64 a1_0, .int .i64 a1_1] 28 (0, 0)) BKZ hb); have n2_ := Aside0.mk (blk_below (g := gb216) (o := .cells #[.int .i64 0, .int .i64 0, .int .i64 0] 30 (0, 0)) BKZ hb); have n3_ := Aside0.mk (blk_below (g := gb217) (o := .cells #[.int .i64 a1_0, .int .i64 a1_1, .int .i64 0] 30 (0, 0)) BKZ hb); have n4_ := Aside0.mk (KeepBut.trans (by repeat (first | (with_reducible first | exact HK.out | apply KeepBut.set_ | apply keep_drewN | apply keep_drew | apply keep_alloc | refine keep_far ?_ GW215.out _ | refine keep_far ?_ GW216.out _ | refine keep_far ?_ GW217.out _) | exact HK.out)) (KeepBut.of_below hb g none) (.inl rfl)); have n5_ := Aside0.mk (below_step (by repeat (first | (with_reducible first | exact HB.out | apply below_alloc | apply pw_below_drewN | apply below_drew1 | refine below_set ?_ (IsS94.ge HI0.out) | refine below_set ?_ GE215.out | refine below_set ?_ GE216.out | refine below_set ?_ GE217.out) | exact HB.out)) hb); clear HI0; clear BK215; clear BK216; clear BK217; clear HK; clear HB; have HI0 := n0_; have BK215 := n1_; have BK216 := n2_; have BK217 := n3_; have HK := n4_; have HB := n5_; clear n0_ n1_ n2_ n3_ n4_ n5_; clear hb) | ((with_reducible refine gate_dst (N := 23) rfl ?_); refine Kd.R_make (Kd.int .i64) _ 3 rfl (N := 23) rfl 26 _ _ rfl t219 rfl rfl Try.underlying26 (.int .i64 0) 8 info3 rfl (by decide) (by omega) 0 (ok := fun _ => True) (okp := fun _ => True) rfl (fun _ hk => hk) trivial (of_decide_eq_true PZ) (Nat.le_trans (Nat.mul_le_mul_right _ (of_decide_eq_true PZ : t219.toNat ≤ 35184372088832)) (by omega)) (Below.refl _ _) (Nat.le_refl _) ?_; intro v221 w21 ho22 hb hg_ hnew_; clear hg_ hnew_; (first | rw [← Ny220.out] at ho22 | (simp only [Int.reduceToNat] at ho22; rw [← Ny220.out] at ho22)); have n0_ := Aside0.mk (Kd.R_lower ho22 (keep_size (w := w) (g := g) (row := none) (by repeat (first | (with_reducible first | exact HK.out | apply KeepBut.set_ | apply keep_drewN | apply keep_drew | apply keep_alloc | refine keep_far ?_ GW215.out _ | refine keep_far ?_ GW216.out _ | refine keep_far ?_ GW217.out _) | exact HK.out)))); have n1_ := Aside0.mk (IsS94.below (by repeat (first | (with_reducible first | exact HI0.out | apply IsS94.alloc | apply IsS94.drewN | apply IsS94.drew | apply IsS94.set_1 | apply IsS94.set_2 | refine IsS94.far ?_ NB0_215.out _ | refine IsS94.far ?_ NB0_216.out _ | refine IsS94.far ?_ NB0_217.out _) | exact HI0.out)) hb); have n2_ := Aside0.mk (blk_below (g := gb215) (o := .cells #[.int .i64 a1_0, .int .i64 a1_1] 28 (0, 0)) BKZ hb); have n3_ := Aside0.mk (blk_below (g := gb216) (o := .cells #[.int .i64 0, .int .i64 0, .int .i64 0] 30 (0, 0)) BKZ hb); have n4_ := Aside0.mk (blk_below (g := gb217) (o := .cells #[.int .i64 a1_0, .int .i64 a1_1, .int .i64 0] 30 (0, 0)) BKZ hb); have n5_ := Aside0.mk (KeepBut.trans (by repeat (first | (with_reducible first | exact HK.out | apply KeepBut.set_ | apply keep_drewN | apply keep_drew | apply keep_alloc | refine keep_far ?_ GW215.out _ | refine keep_far ?_ GW216.out _ | refine keep_far ?_ GW217.out _) | exact HK.out)) (KeepBut.of_below hb g none) (.inl rfl)); have n6_ := Aside0.mk (below_step (by repeat (first | (with_reducible first | exact HB.out | apply below_alloc | apply pw_below_drewN | apply below_drew1 | refine below_set ?_ (IsS94.ge HI0.out) | refine below_set ?_ GE215.out | refine below_set ?_ GE216.out | refine below_set ?_ GE217.out) | exact HB.out)) hb); clear HI0; clear BK215; clear BK216; clear BK217; clear HK; clear HB; have HO222 := n0_; have HI0 := n1_; have BK215 := n2_; have BK216 := n3_; have BK217 := n4_; have HK := n5_; have HB := n6_; clear n0_ n1_ n2_ n3_ n4_ n5_ n6_; clear hb ho22))
     go_loopg [8] k (fun kq v8 w' => ∃ (x7_1 : List Int) (x8_1 : Int), v8 = .int .i64 x8_1 ∧ Aside0 (spec_l03Tree.l0 kq t218 x7_1 x8_1 s0_0 s0_1 s0_2 a1_0 a1_1 a1_0 a1_1 0 = some (r1, r2, r3, r4, r5)) ∧ Aside0 (kq ≤ k) ∧ Aside0 (Kd.R (Kd.int .i64) 3 w' w.heap.size (fun _ => True) v221 x7_1) ∧ Aside0 (w'.heap[gb215]? = some (.cells #[.int .i64 a1_0, .int .i64 a1_1] 28 (0, 0))) ∧ Aside0 (w'.heap[gb216]? = some (.cells #[.int .i64 0, .int .i64 0, .int .i64 0] 30 (0, 0))) ∧ Aside0 (w'.heap[gb217]? = some (.cells #[.int .i64 a1_0, .int .i64 a1_1, .int .i64 0] 30 (0, 0))) ∧ Aside0 (IsS94 w0 w' g s0_0 s0_1 s0_2) ∧ Aside0 (KeepBut w w' g none) ∧ Aside0 (Below w0.heap.size w0 w'))
     case atStart => exact ⟨(y220), (0), VZ, H', ⟨Nat.le_refl _⟩, ⟨KR HO222⟩, ⟨BKZ⟩, ⟨BKZ⟩, ⟨BKZ⟩, ⟨by repeat (first | (with_reducible first | exact HI0.out | apply IsS94.alloc | apply IsS94.drewN | apply IsS94.drew | apply IsS94.set_1 | apply IsS94.set_2 | refine IsS94.far ?_ NB0_215.out _ | refine IsS94.far ?_ NB0_216.out _ | refine IsS94.far ?_ NB0_217.out _) | exact HI0.out)⟩, ⟨by repeat (first | (with_reducible first | exact HK.out | apply KeepBut.set_ | apply keep_drewN | apply keep_drew | apply keep_alloc | refine keep_far ?_ GW215.out _ | refine keep_far ?_ GW216.out _ | refine keep_far ?_ GW217.out _) | exact HK.out)⟩, ⟨by repeat (first | (with_reducible first | exact HB.out | apply below_alloc | apply pw_below_drewN | apply below_drew1 | refine below_set ?_ (IsS94.ge HI0.out) | refine below_set ?_ GE215.out | refine below_set ?_ GE216.out | refine below_set ?_ GE217.out) | exact HB.out)⟩⟩
     case round =>
      clear H'
      (try clear c6); (try clear c6b0); (try clear c6b1); (try clear hcz11_0); (try clear hcz11_1); (try clear hcz16_0); (try clear hcz16_1); (try clear hcz16_2); (try clear hcz17_0); (try clear hcz17_1); (try clear hcz19_0); (try clear hcz19_1); (try clear hfz11_0); (try clear hfz11_1); (try clear hfz16_0); (try clear hfz16_1); (try clear hfz16_2); (try clear hfz17_0); (try clear hfz17_1); (try clear hfz19_0); (try clear hfz19_1)
      obtain ⟨x7_1, x8_1, rfl, HA, HK1, HO_7, BK215, BK216, BK217, HI0, HK, HB⟩ := hrel
      cases gk with
      | zero => exact absurd HA.out (by simp [spec_l03Tree.l0])
      | succ k1 =>
       have H := HA.out
       clear HA
       simp only [spec_l03Tree.l0] at H
       by_cases c23 : x8_1 < (x7_1.length : Int)
       ·rw [if_pos c23] at H
        have c23b0 := decide_eq_true c23
        clear c23
        by_cases c24 : 0 ≤ x8_1
        ·rw [if_pos c24] at H
         have c24b0 := decide_eq_true c24
         clear c24
         (first | (have HG_ := GB (x := ((x7_1.set (x8_1 : Int).toNat x8_1) : List Int)) H; obtain ⟨y223, Ny223, H⟩ := HG_) | (generalize hy223 : ((x7_1.set (x8_1 : Int).toNat x8_1) : List Int) = y223 at H; have Ny223 := Aside0.mk hy223.symm; clear hy223))
         have H' := Aside0.mk H
         clear H
         obtain ⟨Ao26, co26, eo26⟩ := Kd.R_slice HO_7.out
         subst eo26
         have p25 : 0 ≤ (x8_1 : Int) := of_decide_eq_true PZ
         have q25 : (x8_1 : Int) < ((x7_1.length : Int) : Int) := of_decide_eq_true PZ
         obtain ⟨go25, co25, eo25, gb25, gl25, cl25, HG25⟩ := Kd.R_form HO_7.out (by omega)
         (first | cases eo25 | (injection eo25 with ea_ en_ ec_; (first | subst ea_ | (injection ea_ with ea_; subst ea_)); subst ec_; clear en_))
         have GB25 := Aside0.mk gb25
         have GG25 := Aside0.mk HG25
         clear gb25 gl25 HG25
         obtain ⟨hx25_0, hf25_0⟩ := Kd.R_celln 0 HO_7.out (x8_1 : Int) p25 q25
         replace p25 := eq_true p25
         replace q25 := eq_true q25
         have HP27 := Kd.R_putg HO_7.out (x8_1 : Int) x8_1
         go_wp2_with (first | ((with_reducible refine gate_store (t := 3) (p := 33) rfl ?_); refine store_event (t := 3) (p := 33) (v := ?vo_w28) (w1 := (wr.setCell ⟨go25, (x8_1 : Int).toNat, none⟩ (.int .i64 x8_1))) ?hg ?ho ?hn ?hr ?_; (case ho => rfl); (case hg => rfl); (case hn => rfl); (case hr => first | (go_simp; done) | (go_simp; rfl)); intro w28 hw; have hg : wr.grownBy w28 (some go25) := (by rw [hw]; exact HP27.2); have hp_ : Kd.R (Kd.int .i64) 3 w28 w.heap.size (fun _ => True) (.slice (some ⟨go25, 0, none⟩) x7_1.length co26) y223 := (by rw [hw, Ny223.out]; exact HP27.1); clear HP27; have n0_ := Aside0.mk (hp_); have n1_ := Aside0.mk (blk_grown (g := gb215) (o := .cells #[.int .i64 a1_0, .int .i64 a1_1] 28 (0, 0)) BKZ hg (Kd.R_ne HO_7.out BK215.out (by decide))); have n2_ := Aside0.mk (blk_grown (g := gb216) (o := .cells #[.int .i64 0, .int .i64 0, .int .i64 0] 30 (0, 0)) BKZ hg (Kd.R_ne HO_7.out BK216.out (by decide))); have n3_ := Aside0.mk (blk_grown (g := gb217) (o := .cells #[.int .i64 a1_0, .int .i64 a1_1, .int .i64 0] 30 (0, 0)) BKZ hg (Kd.R_ne HO_7.out BK217.out (by decide))); have n4_ := Aside0.mk (IsS94.grown (by repeat (first | (with_reducible first | exact HI0.out | apply IsS94.alloc | apply IsS94.drewN | apply IsS94.drew | apply IsS94.set_1 | apply IsS94.set_2 | refine IsS94.far ?_ NB0_215.out _ | refine IsS94.far ?_ NB0_216.out _ | refine IsS94.far ?_ NB0_217.out _) | exact HI0.out)) hg (IsS94.own_ne HI0.out HO_7.out (by decide))); have n5_ := Aside0.mk ((by rw [hw]; exact below_set (HB.out) (Nat.le_trans HL.out GB25.out) : Below w0.heap.size w0 w28)); have n6_ := Aside0.mk (KeepBut.trans (by repeat (first | (with_reducible first | exact HK.out | apply KeepBut.set_ | apply keep_drewN | apply keep_drew | apply keep_alloc | refine keep_far ?_ GW215.out _ | refine keep_far ?_ GW216.out _ | refine keep_far ?_ GW217.out _) | exact HK.out)) (KeepBut.of_grown hg g) (Kd.R_base2 HO_7.out)); clear HO_7; clear BK215; clear BK216; clear BK217; clear HI0; clear HB; clear HK; have HO_7 := n0_; have BK215 := n1_; have BK216 := n2_; have BK217 := n3_; have HI0 := n4_; have HB := n5_; have HK := n6_; clear n0_ n1_ n2_ n3_ n4_ n5_ n6_; clear hg hw hp_))
         go_roundg k1
         case measure => have := HK1.out; omega
         case rel => exact ⟨(y223), (wrap64 (x8_1 + 1)), VZ, H', ⟨by have := HK1.out; omega⟩, ⟨KR HO_7⟩, ⟨BKZ⟩, ⟨BKZ⟩, ⟨BKZ⟩, ⟨by repeat (first | (with_reducible first | exact HI0.out | apply IsS94.alloc | apply IsS94.drewN | apply IsS94.drew | apply IsS94.set_1 | apply IsS94.set_2 | refine IsS94.far ?_ NB0_215.out _ | refine IsS94.far ?_ NB0_216.out _ | refine IsS94.far ?_ NB0_217.out _) | exact HI0.out)⟩, ⟨by repeat (first | (with_reducible first | exact HK.out | apply KeepBut.set_ | apply keep_drewN | apply keep_drew | apply keep_alloc | refine keep_far ?_ GW215.out _ | refine keep_far ?_ GW216.out _ | refine keep_far ?_ GW217.out _) | exact HK.out)⟩, ⟨by repeat (first | (with_reducible first | exact HB.out | apply below_alloc | apply pw_below_drewN | apply below_drew1 | refine below_set ?_ (IsS94.ge HI0.out) | refine below_set ?_ GE215.out | refine below_set ?_ GE216.out | refine below_set ?_ GE217.out) | exact HB.out)⟩⟩
        ·rw [if_neg c24] at H
         exact absurd H (by simp)
       ·as_aux_lemma =>
         rw [if_neg c23] at H
         have c23b0 := decide_eq_false c23
         clear c23
         by_cases c29 : t218 = 0
         ·rw [if_pos c29] at H
          obtain ⟨c29b0, c29b1⟩ := QT c29
          clear c29
          simp only [Option.some.injEq, Prod.mk.injEq] at H
          obtain ⟨rfl, rfl, rfl, rfl, rfl⟩ := H
          obtain ⟨Ao30, co30, eo30⟩ := Kd.R_slice HO_7.out
          subst eo30
          have hnb31 := NB217_215.out
          have hnc31 := NB215_217.out
          have hnb32 := NB217_216.out
          have hnc32 := NB216_217.out
          have hnb33 := NB217_0.out
          have hnc33 := NB0_217.out
          obtain ⟨hcz34_0, hcz34_1, hcz34_2, hfz34_0, hfz34_1, hfz34_2⟩ := CZ3 BK217
          have hnb35 := NB216_215.out
          have hnc35 := NB215_216.out
          have hnb36 := NB216_0.out
          have hnc36 := NB0_216.out
          obtain ⟨hcz37_0, hcz37_1, hcz37_2, hfz37_0, hfz37_1, hfz37_2⟩ := CZ3 BK216
          go_wp2
          refine bodyPost_ret (results_cell_row rfl _ _ gb216 30 #[.int .i64 a1_0, .int .i64 a1_1, .int .i64 0] (0, 0) _ rfl (PQ3 BK216) Try.underlying30 rfl (by kernel_rfl)) rfl ?_
          exact ⟨RZ, by repeat (first | (with_reducible first | exact HI0.out | apply IsS94.alloc | apply IsS94.drewN | apply IsS94.drew | apply IsS94.set_1 | apply IsS94.set_2 | refine IsS94.far ?_ NB0_215.out _ | refine IsS94.far ?_ NB0_216.out _ | refine IsS94.far ?_ NB0_217.out _) | exact HI0.out), by repeat (first | (with_reducible first | exact HB.out | apply below_alloc | apply pw_below_drewN | apply below_drew1 | refine below_set ?_ (IsS94.ge HI0.out) | refine below_set ?_ GE215.out | refine below_set ?_ GE216.out | refine below_set ?_ GE217.out) | exact HB.out), by repeat (first | (with_reducible first | exact HK.out | apply KeepBut.set_ | apply keep_drewN | apply keep_drew | apply keep_alloc | refine keep_far ?_ GW215.out _ | refine keep_far ?_ GW216.out _ | refine keep_far ?_ GW217.out _) | exact HK.out)⟩
         ·as_aux_lemma =>
           rw [if_neg c29] at H
           obtain ⟨c29b0, c29b1⟩ := QF c29
           obtain ⟨⟨t224, t225, t226⟩, A38, H⟩ := BD H
           dsimp only at H
           obtain ⟨⟨t227, t228, t229⟩, A39, H⟩ := BD H
           dsimp only at H
           have H' := Aside0.mk H
           clear H
           obtain ⟨Ao40, co40, eo40⟩ := Kd.R_slice HO_7.out
           subst eo40
           go_wp2_with (first | ((with_reducible refine GC 58 rfl ?_); refine GL 39 Try.func58 (spec_l01Below.calls g s0_0 s0_1 s0_2 t218 t224 t225 t226 w0 _ ?side1 ?side2 A38.out) ?_; (case side1 => repeat (first | (with_reducible first | exact HI0.out | apply IsS94.alloc | apply IsS94.drewN | apply IsS94.drew | apply IsS94.set_1 | apply IsS94.set_2 | refine IsS94.far ?_ NB0_215.out _ | refine IsS94.far ?_ NB0_216.out _ | refine IsS94.far ?_ NB0_217.out _) | exact HI0.out)); (case side2 => repeat (first | (with_reducible first | exact HB.out | apply below_alloc | apply pw_below_drewN | apply below_drew1 | refine below_set ?_ (IsS94.ge HI0.out) | refine below_set ?_ GE215.out | refine below_set ?_ GE216.out | refine below_set ?_ GE217.out) | exact HB.out)); rintro e w41 ⟨rfl, hi, hb, hk⟩; refine ⟨_, rfl, ?_⟩; replace HO_7 := Aside0.mk (Kd.R_mono (Kd.R_keep (IsS94.apart (show IsS94 w0 _ g s0_0 s0_1 s0_2 from by repeat (first | (with_reducible first | exact HI0.out | apply IsS94.alloc | apply IsS94.drewN | apply IsS94.drew | apply IsS94.set_1 | apply IsS94.set_2 | refine IsS94.far ?_ NB0_215.out _ | refine IsS94.far ?_ NB0_216.out _ | refine IsS94.far ?_ NB0_217.out _) | exact HI0.out)) (KR HO_7) (by decide)) hk (fun _ h => h.2)) (fun _ h => h.1)); replace BK215 := Aside0.mk (KeepBut.blk hk (g' := gb215) (o := .cells #[.int .i64 a1_0, .int .i64 a1_1] 28 (0, 0)) BKZ NB215_0.out (by simp)); replace BK216 := Aside0.mk (KeepBut.blk hk (g' := gb216) (o := .cells #[.int .i64 0, .int .i64 0, .int .i64 0] 30 (0, 0)) BKZ NB216_0.out (by simp)); replace BK217 := Aside0.mk (KeepBut.blk hk (g' := gb217) (o := .cells #[.int .i64 a1_0, .int .i64 a1_1, .int .i64 0] 30 (0, 0)) BKZ NB217_0.out (by simp)); replace HK := Aside0.mk (KeepBut.trans (by repeat (first | (with_reducible first | exact HK.out | apply KeepBut.set_ | apply keep_drewN | apply keep_drew | apply keep_alloc | refine keep_far ?_ GW215.out _ | refine keep_far ?_ GW216.out _ | refine keep_far ?_ GW217.out _) | exact HK.out)) hk (.inl rfl)); replace HI0 := Aside0.mk (hi); replace HB := Aside0.mk (hb); clear hb hk hi) | ((with_reducible refine GC 58 rfl ?_); refine GL 42 Try.func58 (spec_l01Below.calls g s0_0 t225 t226 t218 t227 t228 t229 w0 _ ?side1 ?side2 A39.out) ?_; (case side1 => repeat (first | (with_reducible first | exact HI0.out | apply IsS94.alloc | apply IsS94.drewN | apply IsS94.drew | apply IsS94.set_1 | apply IsS94.set_2 | refine IsS94.far ?_ NB0_215.out _ | refine IsS94.far ?_ NB0_216.out _ | refine IsS94.far ?_ NB0_217.out _) | exact HI0.out)); (case side2 => repeat (first | (with_reducible first | exact HB.out | apply below_alloc | apply pw_below_drewN | apply below_drew1 | refine below_set ?_ (IsS94.ge HI0.out) | refine below_set ?_ GE215.out | refine below_set ?_ GE216.out | refine below_set ?_ GE217.out) | exact HB.out)); rintro e w42 ⟨rfl, hi, hb, hk⟩; refine ⟨_, rfl, ?_⟩; replace HO_7 := Aside0.mk (Kd.R_mono (Kd.R_keep (IsS94.apart (show IsS94 w0 _ g s0_0 t225 t226 from by repeat (first | (with_reducible first | exact HI0.out | apply IsS94.alloc | apply IsS94.drewN | apply IsS94.drew | apply IsS94.set_1 | apply IsS94.set_2 | refine IsS94.far ?_ NB0_215.out _ | refine IsS94.far ?_ NB0_216.out _ | refine IsS94.far ?_ NB0_217.out _) | exact HI0.out)) (KR HO_7) (by decide)) hk (fun _ h => h.2)) (fun _ h => h.1)); replace BK215 := Aside0.mk (KeepBut.blk hk (g' := gb215) (o := .cells #[.int .i64 a1_0, .int .i64 a1_1] 28 (0, 0)) BKZ NB215_0.out (by simp)); replace BK216 := Aside0.mk (KeepBut.blk hk (g' := gb216) (o := .cells #[.int .i64 0, .int .i64 0, .int .i64 0] 30 (0, 0)) BKZ NB216_0.out (by simp)); replace BK217 := Aside0.mk (KeepBut.blk hk (g' := gb217) (o := .cells #[.int .i64 a1_0, .int .i64 a1_1, .int .i64 0] 30 (0, 0)) BKZ NB217_0.out (by simp)); replace HK := Aside0.mk (KeepBut.trans (by repeat (first | (with_reducible first | exact HK.out | apply KeepBut.set_ | apply keep_drewN | apply keep_drew | apply keep_alloc | refine keep_far ?_ GW215.out _ | refine keep_far ?_ GW216.out _ | refine keep_far ?_ GW217.out _) | exact HK.out)) hk (.inl rfl)); replace HI0 := Aside0.mk (hi); replace HB := Aside0.mk (hb); clear hb hk hi))
           go_loopg [10] k1 (fun kq v10 w' => ∃ (x10_2 : Int), v10 = .int .i64 x10_2 ∧ Aside0 (spec_l03Tree.l1 kq t218 x7_1 t224 x10_2 s0_0 t228 t229 a1_0 a1_1 a1_0 a1_1 0 = some (r1, r2, r3, r4, r5)) ∧ Aside0 (kq ≤ k1) ∧ Aside0 (Kd.R (Kd.int .i64) 3 w' w.heap.size (fun _ => True) (.slice Ao40 x7_1.length co40) x7_1) ∧ Aside0 (w'.heap[gb215]? = some (.cells #[.int .i64 a1_0, .int .i64 a1_1] 28 (0, 0))) ∧ Aside0 (w'.heap[gb216]? = some (.cells #[.int .i64 0, .int .i64 0, .int .i64 0] 30 (0, 0))) ∧ Aside0 (w'.heap[gb217]? = some (.cells #[.int .i64 a1_0, .int .i64 a1_1, .int .i64 0] 30 (0, 0))) ∧ Aside0 (IsS94 w0 w' g s0_0 t228 t229) ∧ Aside0 (KeepBut w w' g none) ∧ Aside0 (Below w0.heap.size w0 w'))
           case atStart => exact ⟨(wrap64 (1 + t227)), VZ, H', ⟨Nat.le_refl _⟩, ⟨KR HO_7⟩, ⟨BKZ⟩, ⟨BKZ⟩, ⟨BKZ⟩, ⟨by repeat (first | (with_reducible first | exact HI0.out | apply IsS94.alloc | apply IsS94.drewN | apply IsS94.drew | apply IsS94.set_1 | apply IsS94.set_2 | refine IsS94.far ?_ NB0_215.out _ | refine IsS94.far ?_ NB0_216.out _ | refine IsS94.far ?_ NB0_217.out _) | exact HI0.out)⟩, ⟨by repeat (first | (with_reducible first | exact HK.out | apply KeepBut.set_ | apply keep_drewN | apply keep_drew | apply keep_alloc | refine keep_far ?_ GW215.out _ | refine keep_far ?_ GW216.out _ | refine keep_far ?_ GW217.out _) | exact HK.out)⟩, ⟨by repeat (first | (with_reducible first | exact HB.out | apply below_alloc | apply pw_below_drewN | apply below_drew1 | refine below_set ?_ (IsS94.ge HI0.out) | refine below_set ?_ GE215.out | refine below_set ?_ GE216.out | refine below_set ?_ GE217.out) | exact HB.out)⟩⟩
           case round =>
            clear H'
            (try clear c6); (try clear c6b0); (try clear c6b1); (try clear c29); (try clear c29b0); (try clear c29b1); (try clear hcz11_0); (try clear hcz11_1); (try clear hcz16_0); (try clear hcz16_1); (try clear hcz16_2); (try clear hcz17_0); (try clear hcz17_1); (try clear hcz19_0); (try clear hcz19_1); (try clear hfz11_0); (try clear hfz11_1); (try clear hfz16_0); (try clear hfz16_1); (try clear hfz16_2); (try clear hfz17_0); (try clear hfz17_1); (try clear hfz19_0); (try clear hfz19_1)
            obtain ⟨x10_2, rfl, HA, HK2, HO_7, BK215, BK216, BK217, HI0, HK, HB⟩ := hrel
            cases gk with
            | zero => exact absurd HA.out (by simp [spec_l03Tree.l1])
            | succ k2 =>
             have H := HA.out
             clear HA
             simp only [spec_l03Tree.l1] at H
             obtain ⟨t230, A43, H⟩ := BD H
             by_cases c44 : t230 = true
             ·subst c44
              replace H := IT H
              have H' := Aside0.mk H
              clear H
              go_wp2_with (first | ((with_reducible refine GC 113 rfl ?_); refine GL 46 Try.func113 (spec_l03Common.calls k2 x10_2 t218 true _ A43.out) ?_; rintro e w' ⟨rfl, ⟨nd, rfl⟩⟩; refine ⟨_, rfl, ?_⟩))
              go_roundg k2
              case measure => have := HK1.out; have := HK2.out; omega
              case rel => exact ⟨(wrap64 (x10_2 + 1)), VZ, H', ⟨by have := HK1.out; have := HK2.out; omega⟩, ⟨KR HO_7⟩, ⟨BKZ⟩, ⟨BKZ⟩, ⟨BKZ⟩, ⟨by repeat (first | (with_reducible first | exact HI0.out | apply IsS94.alloc | apply IsS94.drewN | apply IsS94.drew | apply IsS94.set_1 | apply IsS94.set_2 | refine IsS94.far ?_ NB0_215.out _ | refine IsS94.far ?_ NB0_216.out _ | refine IsS94.far ?_ NB0_217.out _) | exact HI0.out)⟩, ⟨by repeat (first | (with_reducible first | exact HK.out | apply KeepBut.set_ | apply keep_drewN | apply keep_drew | apply keep_alloc | refine keep_far ?_ GW215.out _ | refine keep_far ?_ GW216.out _ | refine keep_far ?_ GW217.out _) | exact HK.out)⟩, ⟨by repeat (first | (with_reducible first | exact HB.out | apply below_alloc | apply pw_below_drewN | apply below_drew1 | refine below_set ?_ (IsS94.ge HI0.out) | refine below_set ?_ GE215.out | refine below_set ?_ GE216.out | refine below_set ?_ GE217.out) | exact HB.out)⟩⟩
             ·as_aux_lemma =>
               replace c44 := Bool.eq_false_iff.mpr c44
               subst c44
               replace H := IE H
               have H' := Aside0.mk H
               clear H
               go_wp2_with (first | ((with_reducible refine GC 113 rfl ?_); refine GL 46 Try.func113 (spec_l03Common.calls k2 x10_2 t218 false _ A43.out) ?_; rintro e w' ⟨rfl, ⟨nd, rfl⟩⟩; refine ⟨_, rfl, ?_⟩))
               go_loopg [11] k2 (fun kq v11 w' => ∃ (x7_3 : List Int) (x11_3 : Int) (x218002_3 : Int), v11 = .int .i64 x11_3 ∧ Aside0 (spec_l03Tree.l2 kq t218 x7_3 t224 x10_2 x11_3 s0_0 t228 t229 a1_0 a1_1 a1_0 a1_1 x218002_3 = some (r1, r2, r3, r4, r5)) ∧ Aside0 (kq ≤ k2) ∧ Aside0 (Kd.R (Kd.int .i64) 3 w' w.heap.size (fun _ => True) (.slice Ao40 x7_1.length co40) x7_3) ∧ Aside0 (w'.heap[gb215]? = some (.cells #[.int .i64 a1_0, .int .i64 a1_1] 28 (0, 0))) ∧ Aside0 (w'.heap[gb216]? = some (.cells #[.int .i64 0, .int .i64 0, .int .i64 0] 30 (0, 0))) ∧ Aside0 (w'.heap[gb217]? = some (.cells #[.int .i64 a1_0, .int .i64 a1_1, .int .i64 x218002_3] 30 (0, 0))) ∧ Aside0 (IsS94 w0 w' g s0_0 t228 t229) ∧ Aside0 (KeepBut w w' g none) ∧ Aside0 (Below w0.heap.size w0 w'))
               case atStart => exact ⟨(x7_1), (0), (0), VZ, H', ⟨Nat.le_refl _⟩, ⟨KR HO_7⟩, ⟨BKZ⟩, ⟨BKZ⟩, ⟨BKZ⟩, ⟨by repeat (first | (with_reducible first | exact HI0.out | apply IsS94.alloc | apply IsS94.drewN | apply IsS94.drew | apply IsS94.set_1 | apply IsS94.set_2 | refine IsS94.far ?_ NB0_215.out _ | refine IsS94.far ?_ NB0_216.out _ | refine IsS94.far ?_ NB0_217.out _) | exact HI0.out)⟩, ⟨by repeat (first | (with_reducible first | exact HK.out | apply KeepBut.set_ | apply keep_drewN | apply keep_drew | apply keep_alloc | refine keep_far ?_ GW215.out _ | refine keep_far ?_ GW216.out _ | refine keep_far ?_ GW217.out _) | exact HK.out)⟩, ⟨by repeat (first | (with_reducible first | exact HB.out | apply below_alloc | apply pw_below_drewN | apply below_drew1 | refine below_set ?_ (IsS94.ge HI0.out) | refine below_set ?_ GE215.out | refine below_set ?_ GE216.out | refine below_set ?_ GE217.out) | exact HB.out)⟩⟩
               case round =>
                clear H'
                (try clear c6); (try clear c6b0); (try clear c6b1); (try clear c29); (try clear c29b0); (try clear c29b1); (try clear c44); (try clear hcz11_0); (try clear hcz11_1); (try clear hcz16_0); (try clear hcz16_1); (try clear hcz16_2); (try clear hcz17_0); (try clear hcz17_1); (try clear hcz19_0); (try clear hcz19_1); (try clear hfz11_0); (try clear hfz11_1); (try clear hfz16_0); (try clear hfz16_1); (try clear hfz16_2); (try clear hfz17_0); (try clear hfz17_1); (try clear hfz19_0); (try clear hfz19_1)
                obtain ⟨x7_3, x11_3, x218002_3, rfl, HA, HK3, HO_7, BK215, BK216, BK217, HI0, HK, HB⟩ := hrel
                have hl7_3 := (Kd.R_reads' HO_7.out).1
                rw [hl7_3] at HO_7
                (try simp only [hl7_3])
                (try simp only [hl7_3] at BK215)
                (try simp only [hl7_3] at BK216)
                (try simp only [hl7_3] at BK217)
                cases gk with
                | zero => exact absurd HA.out (by simp [spec_l03Tree.l2])
                | succ k3 =>
                 have H := HA.out
                 clear HA
                 simp only [spec_l03Tree.l2] at H
                 by_cases c45 : x11_3 < t218
                 ·as_aux_lemma =>
                   rw [if_pos c45] at H
                   have c45b0 := decide_eq_true c45
                   clear c45
                   by_cases c46 : t218 = 0
                   ·rw [if_pos c46] at H
                    exact absurd H (by simp)
                   ·as_aux_lemma =>
                     rw [if_neg c46] at H
                     obtain ⟨c46b0, c46b1⟩ := QF c46
                     obtain ⟨⟨t231, t232⟩, A47, H⟩ := BD H
                     dsimp only at H
                     by_cases c48 : 0 ≤ t231
                     ·as_aux_lemma =>
                       rw [if_pos c48] at H
                       have c48b0 := decide_eq_true c48
                       clear c48
                       by_cases c49 : t231 < (x7_3.length : Int)
                       ·as_aux_lemma =>
                         rw [if_pos c49] at H
                         have c49b0 := decide_eq_true c49
                         clear c49
                         by_cases c50 : 0 ≤ t232
                         ·as_aux_lemma =>
                           rw [if_pos c50] at H
                           have c50b0 := decide_eq_true c50
                           clear c50
                           by_cases c51 : t232 < (x7_3.length : Int)
                           ·as_aux_lemma =>
                             rw [if_pos c51] at H
                             have c51b0 := decide_eq_true c51
                             clear c51
                             by_cases c52 : (rd x7_3 t231) = (rd x7_3 t232)
                             ·as_aux_lemma =>
                               rw [if_pos c52] at H
                               obtain ⟨c52b0, c52b1⟩ := QT c52
                               clear c52
                               have H' := Aside0.mk H
                               clear H
                               have hnb53 := NB215_216.out
                               have hnc53 := NB216_215.out
                               have hnb54 := NB215_217.out
                               have hnc54 := NB217_215.out
                               have hnb55 := NB215_0.out
                               have hnc55 := NB0_215.out
                               obtain ⟨hcz56_0, hcz56_1, hfz56_0, hfz56_1⟩ := CZ2 BK215
                               try go_wp2_with (first | ((with_reducible refine GC 114 rfl ?_); refine GL 64 Try.func114 (spec_EndsOf.calls a1_0 a1_1 (Int.tmod (wrap64 (t224 + (wrap64 (x11_3 * x10_2)))) t218) t231 t232 _ A47.out) ?_; rintro e w57 ⟨rfl, hb⟩; refine ⟨_, rfl, ?_⟩; have n0_ := Aside0.mk (Kd.R_below (KR HO_7) hb); have n1_ := Aside0.mk (blk_below (g := gb215) (o := .cells #[.int .i64 a1_0, .int .i64 a1_1] 28 (0, 0)) BKZ hb); have n2_ := Aside0.mk (blk_below (g := gb216) (o := .cells #[.int .i64 0, .int .i64 0, .int .i64 0] 30 (0, 0)) BKZ hb); have n3_ := Aside0.mk (blk_below (g := gb217) (o := .cells #[.int .i64 a1_0, .int .i64 a1_1, .int .i64 x218002_3] 30 (0, 0)) BKZ hb); have n4_ := Aside0.mk (IsS94.below (by repeat (first | (with_reducible first | exact HI0.out | apply IsS94.alloc | apply IsS94.drewN | apply IsS94.drew | apply IsS94.set_1 | apply IsS94.set_2 | refine IsS94.far ?_ NB0_215.out _ | refine IsS94.far ?_ NB0_216.out _ | refine IsS94.far ?_ NB0_217.out _) | exact HI0.out)) hb); have n5_ := Aside0.mk (KeepBut.trans (by repeat (first | (with_reducible first | exact HK.out | apply KeepBut.set_ | apply keep_drewN | apply keep_drew | apply keep_alloc | refine keep_far ?_ GW215.out _ | refine keep_far ?_ GW216.out _ | refine keep_far ?_ GW217.out _) | exact HK.out)) (KeepBut.of_below hb g none) (.inl rfl)); have n6_ := Aside0.mk (below_step (by repeat (first | (with_reducible first | exact HB.out | apply below_alloc | apply pw_below_drewN | apply below_drew1 | refine below_set ?_ (IsS94.ge HI0.out) | refine below_set ?_ GE215.out | refine below_set ?_ GE216.out | refine below_set ?_ GE217.out) | exact HB.out)) hb); clear HO_7; clear BK215; clear BK216; clear BK217; clear HI0; clear HK; clear HB; have HO_7 := n0_; have BK215 := n1_; have BK216 := n2_; have BK217 := n3_; have HI0 := n4_; have HK := n5_; have HB := n6_; clear n0_ n1_ n2_ n3_ n4_ n5_ n6_; clear hb))
                               replace HO_7 := Aside0.mk (Kd.R_drew HO_7.out)
                               replace BK215 := Aside0.mk (blk_drew BK215.out)
                               replace BK216 := Aside0.mk (blk_drew BK216.out)
                               replace BK217 := Aside0.mk (blk_drew BK217.out)
                               replace HI0 := Aside0.mk (IsS94.drew HI0.out)
                               replace HK := Aside0.mk (keep_drew HK.out)
                               replace HB := Aside0.mk (below_drew1 HB.out)
                               have p233 : 0 ≤ (t231 : Int) := of_decide_eq_true PZ
                               have q233 : t231 < (x7_3.length : Int) := of_decide_eq_true PZ
                               obtain ⟨ad233, e233, hx233_0⟩ := Kd.at_int (Kd.R_reads' HO_7.out).2.2 t231 p233 q233
                               cases e233
                               replace p233 := eq_true p233
                               replace q233 := eq_true q233
                               have p234 : 0 ≤ (t232 : Int) := of_decide_eq_true PZ
                               have q234 : t232 < (x7_3.length : Int) := of_decide_eq_true PZ
                               obtain ⟨ad234, e234, hx234_0⟩ := Kd.at_int (Kd.R_reads' HO_7.out).2.2 t232 p234 q234
                               obtain rfl : ad233 = ad234 := (by injection e234)
                               replace p234 := eq_true p234
                               replace q234 := eq_true q234
                               refine ST 9 (fun w' => w'.cell? (ad233.add (t231).toNat) = some (.int .i64 (rd x7_3 t231)) ∧ w'.cell? (ad233.add (t232).toNat) = some (.int .i64 (rd x7_3 t232))) [] spec_l03Tree.tab19 spec_l03Tree.bits19 ⟨hx233_0, hx234_0⟩ (fun hHeld HT_ HW_ => ?_)
                               generalize w57.drew = w58 at HO_7 BK215 BK216 BK217 HI0 HK HB hx233_0 hx234_0 hHeld ⊢
                               refine PU 0 67 HT_ ?_
                               refine PU 1 68 HT_ ?_
                               refine PU 2 69 HT_ ?_
                               refine PU 4 71 HT_ ?_
                               refine PU 5 72 HT_ ?_
                               refine PU 6 73 HT_ ?_
                               refine TA 3 70 HT_ HW_ hHeld ?_
                               refine TA 7 74 HT_ HW_ hHeld ?_
                               refine PU 8 75 HT_ ?_
                               refine done_ (done_of HT_.out (by kernel_rfl)) ?_
                               try go_wp2
                               (try simp only [← hl7_3])
                               go_roundg k3
                               case measure => have := HK1.out; have := HK2.out; have := HK3.out; omega
                               case rel => exact ⟨(x7_3), (wrap64 (x11_3 + 1)), (x218002_3), VZ, H', ⟨by have := HK1.out; have := HK2.out; have := HK3.out; omega⟩, ⟨by (try simp only [hl7_3]); (with_reducible repeat (first | apply Kd.R_alloc | apply Kd.R_drewN | apply Kd.R_drew)); exact HO_7.out⟩, ⟨by (try simp only [hl7_3]); refine BT ?_; exact BK215.out⟩, ⟨by (try simp only [hl7_3]); refine BT ?_; exact BK216.out⟩, ⟨by (try simp only [hl7_3]); refine BT ?_; exact BK217.out⟩, ⟨by repeat (first | (with_reducible first | exact HI0.out | apply IsS94.alloc | apply IsS94.drewN | apply IsS94.drew | apply IsS94.set_1 | apply IsS94.set_2 | refine IsS94.far ?_ NB0_215.out _ | refine IsS94.far ?_ NB0_216.out _ | refine IsS94.far ?_ NB0_217.out _) | exact HI0.out)⟩, ⟨by repeat (first | (with_reducible first | exact HK.out | apply KeepBut.set_ | apply keep_drewN | apply keep_drew | apply keep_alloc | refine keep_far ?_ GW215.out _ | refine keep_far ?_ GW216.out _ | refine keep_far ?_ GW217.out _) | exact HK.out)⟩, ⟨by repeat (first | (with_reducible first | exact HB.out | apply below_alloc | apply pw_below_drewN | apply below_drew1 | refine below_set ?_ (IsS94.ge HI0.out) | refine below_set ?_ GE215.out | refine below_set ?_ GE216.out | refine below_set ?_ GE217.out) | exact HB.out)⟩⟩
                             ·as_aux_lemma =>
                               rw [if_neg c52] at H
                               obtain ⟨c52b0, c52b1⟩ := QF c52
                               obtain ⟨ji59, hji59⟩ : ∃ j_ : Int, (Int.tmod (wrap64 (t224 + (wrap64 (x11_3 * x10_2)))) t218) = j_ := ⟨_, rfl⟩
                               replace H : (if 0 ≤ (ji59) then (spec_l03Tree.l3 k3 t218 x7_3 t224 x10_2 x11_3 t231 (rd x7_3 t232) 0 s0_0 t228 t229 a1_0 a1_1 a1_0 a1_1 (Go.bits .or .i64 x218002_3 (shl .i64 1 (ji59)))) else (none)) = some (r1, r2, r3, r4, r5) := by first | (rw [hji59] at H; exact H) | (simp only [hji59] at H ⊢; exact H)
                               (try rw [hji59] at A47)
                               by_cases c60 : 0 ≤ (ji59)
                               ·as_aux_lemma =>
                                 rw [if_pos c60] at H
                                 have c60b0 := eq_true c60
                                 have c60b1 := decide_eq_true c60
                                 clear c60
                                 obtain ⟨ji61, hji61⟩ : ∃ j_ : Int, (shl .i64 1 (ji59)) = j_ := ⟨_, rfl⟩
                                 replace H : (spec_l03Tree.l3 k3 t218 x7_3 t224 x10_2 x11_3 t231 (rd x7_3 t232) 0 s0_0 t228 t229 a1_0 a1_1 a1_0 a1_1 (Go.bits .or .i64 x218002_3 (ji61))) = some (r1, r2, r3, r4, r5) := by first | (rw [hji61] at H; exact H) | (simp only [hji61] at H ⊢; exact H)
                                 (try rw [hji61] at A47)
                                 have hji61_ : (IntKind.i64.wrap (1 * 2 ^ min (ji59).toNat 64)) = ji61 := hji61
                                 have hji61z : (ji59) ≤ 64 → (IntKind.i64.wrap (1 * 2 ^ (ji59).toNat)) = ji61 := shl_small hji61
                                 have hji61u : (IntKind.i64.wrap (2 ^ min (ji59).toNat 64)) = ji61 := by have h_ := hji61_; rw [Int.one_mul] at h_; exact h_
                                 have hji61v : (ji59) ≤ 64 → (IntKind.i64.wrap (2 ^ (ji59).toNat)) = ji61 := fun hle_ => by have h_ := hji61z hle_; rw [Int.one_mul] at h_; exact h_
                                 have hji61y : (wrap64 (1 * 2 ^ min (ji59).toNat 64)) = ji61 := (i64_w _).symm.trans hji61_
                                 have hji61x : (ji59) ≤ 64 → (wrap64 (1 * 2 ^ (ji59).toNat)) = ji61 := fun h_ => (i64_w _).symm.trans (hji61z h_)
                                 have H' := Aside0.mk H
                                 clear H
                                 have hnb62 := NB215_216.out
                                 have hnc62 := NB216_215.out
                                 have hnb63 := NB215_217.out
                                 have hnc63 := NB217_215.out
                                 have hnb64 := NB215_0.out
                                 have hnc64 := NB0_215.out
                                 obtain ⟨hcz65_0, hcz65_1, hfz65_0, hfz65_1⟩ := CZ2 BK215
                                 try go_wp2_with (first | ((with_reducible refine GC 114 rfl ?_); refine goesL_ (some 64) rfl rfl Try.func114 (by kernel_rfl) rfl #[.agg #[.int .i64 a1_0, .int .i64 a1_1], .int .i64 ji59] rfl (by (try simp only [List.map_toArray, List.map_cons, List.map_nil]); first | done | (simp only [hji59]; rfl) | rfl | (simp only [List.length_drop, List.length_take]; rfl)) ?_; (with_reducible refine (spec_EndsOf.calls a1_0 a1_1 ji59 t231 t232 _ A47.out).mono ?_); rintro e w66 ⟨rfl, hb⟩; refine ⟨_, rfl, ?_⟩; have n0_ := Aside0.mk (Kd.R_below (KR HO_7) hb); have n1_ := Aside0.mk (blk_below (g := gb215) (o := .cells #[.int .i64 a1_0, .int .i64 a1_1] 28 (0, 0)) BKZ hb); have n2_ := Aside0.mk (blk_below (g := gb216) (o := .cells #[.int .i64 0, .int .i64 0, .int .i64 0] 30 (0, 0)) BKZ hb); have n3_ := Aside0.mk (blk_below (g := gb217) (o := .cells #[.int .i64 a1_0, .int .i64 a1_1, .int .i64 x218002_3] 30 (0, 0)) BKZ hb); have n4_ := Aside0.mk (IsS94.below (by repeat (first | (with_reducible first | exact HI0.out | apply IsS94.alloc | apply IsS94.drewN | apply IsS94.drew | apply IsS94.set_1 | apply IsS94.set_2 | refine IsS94.far ?_ NB0_215.out _ | refine IsS94.far ?_ NB0_216.out _ | refine IsS94.far ?_ NB0_217.out _) | exact HI0.out)) hb); have n5_ := Aside0.mk (KeepBut.trans (by repeat (first | (with_reducible first | exact HK.out | apply KeepBut.set_ | apply keep_drewN | apply keep_drew | apply keep_alloc | refine keep_far ?_ GW215.out _ | refine keep_far ?_ GW216.out _ | refine keep_far ?_ GW217.out _) | exact HK.out)) (KeepBut.of_below hb g none) (.inl rfl)); have n6_ := Aside0.mk (below_step (by repeat (first | (with_reducible first | exact HB.out | apply below_alloc | apply pw_below_drewN | apply below_drew1 | refine below_set ?_ (IsS94.ge HI0.out) | refine below_set ?_ GE215.out | refine below_set ?_ GE216.out | refine below_set ?_ GE217.out) | exact HB.out)) hb); clear HO_7; clear BK215; clear BK216; clear BK217; clear HI0; clear HK; clear HB; have HO_7 := n0_; have BK215 := n1_; have BK216 := n2_; have BK217 := n3_; have HI0 := n4_; have HK := n5_; have HB := n6_; clear n0_ n1_ n2_ n3_ n4_ n5_ n6_; clear hb))
                                 replace HO_7 := Aside0.mk (Kd.R_drew HO_7.out)
                                 replace BK215 := Aside0.mk (blk_drew BK215.out)
                                 replace BK216 := Aside0.mk (blk_drew BK216.out)
                                 replace BK217 := Aside0.mk (blk_drew BK217.out)
                                 replace HI0 := Aside0.mk (IsS94.drew HI0.out)
                                 replace HK := Aside0.mk (keep_drew HK.out)
                                 replace HB := Aside0.mk (below_drew1 HB.out)
                                 have p233 : 0 ≤ (t231 : Int) := of_decide_eq_true PZ
                                 have q233 : t231 < (x7_3.length : Int) := of_decide_eq_true PZ
                                 obtain ⟨ad233, e233, hx233_0⟩ := Kd.at_int (Kd.R_reads' HO_7.out).2.2 t231 p233 q233
                                 cases e233
                                 replace p233 := eq_true p233
                                 replace q233 := eq_true q233
                                 have p234 : 0 ≤ (t232 : Int) := of_decide_eq_true PZ
                                 have q234 : t232 < (x7_3.length : Int) := of_decide_eq_true PZ
                                 obtain ⟨ad234, e234, hx234_0⟩ := Kd.at_int (Kd.R_reads' HO_7.out).2.2 t232 p234 q234
                                 obtain rfl : ad233 = ad234 := (by injection e234)
                                 replace p234 := eq_true p234
                                 replace q234 := eq_true q234
                                 refine ST 9 (fun w' => w'.cell? (ad233.add (t231).toNat) = some (.int .i64 (rd x7_3 t231)) ∧ w'.cell? (ad233.add (t232).toNat) = some (.int .i64 (rd x7_3 t232))) [] spec_l03Tree.tab19 spec_l03Tree.bits19 ⟨hx233_0, hx234_0⟩ (fun hHeld HT_ HW_ => ?_)
                                 generalize w66.drew = w67 at HO_7 BK215 BK216 BK217 HI0 HK HB hx233_0 hx234_0 hHeld ⊢
                                 refine PU 0 67 HT_ ?_
                                 refine PU 1 68 HT_ ?_
                                 refine PU 2 69 HT_ ?_
                                 refine PU 4 71 HT_ ?_
                                 refine PU 5 72 HT_ ?_
                                 refine PU 6 73 HT_ ?_
                                 refine TA 3 70 HT_ HW_ hHeld ?_
                                 refine TA 7 74 HT_ HW_ hHeld ?_
                                 refine PU 8 75 HT_ ?_
                                 refine done_ (done_of HT_.out (by kernel_rfl)) ?_
                                 try go_wp2
                                 replace HO_7 := Aside0.mk (Kd.R_drew HO_7.out)
                                 replace BK215 := Aside0.mk (blk_drew BK215.out)
                                 replace BK216 := Aside0.mk (blk_drew BK216.out)
                                 replace BK217 := Aside0.mk (blk_drew BK217.out)
                                 replace HI0 := Aside0.mk (IsS94.drew HI0.out)
                                 replace HK := Aside0.mk (keep_drew HK.out)
                                 replace HB := Aside0.mk (below_drew1 HB.out)
                                 refine SU 7 (fun w' => w'.cell? ⟨gb217, 0, none⟩ = some (.int .i64 a1_0) ∧ w'.cell? ⟨gb217, 1, none⟩ = some (.int .i64 a1_1) ∧ w'.cell? ⟨gb217, 2, none⟩ = some (.int .i64 x218002_3)) [6] ⟨CE BK217 0, CE BK217 1, CE BK217 2⟩ (fun hHeld => ?_)
                                 generalize w67.drew = w68 at HO_7 BK215 BK216 BK217 HI0 HK HB hHeld ⊢
                                 refine PV 0 76 ?_
                                 refine PV 2 78 ?_
                                 refine PV 3 79 ?_
                                 refine TV 1 77 hHeld ?_
                                 refine PV 4 80 ?_
                                 refine PV 5 81 ?_
                                 refine last_ (i := 6) (N := none) #[true, true, true, true, true, true, true] rfl rfl (by kernel_rfl) (by decide) (fun K hK => ?_)
                                 have hs69 : w68.cell? ⟨gb217, 2, none⟩ = some (.int .i64 x218002_3) := CE BK217 2
                                 have hfs69 := blk_frozen BK217.out 2
                                 have hns69_0 := NB215_217.out
                                 have hns69_1 := NB216_217.out
                                 have hms69_0 := NB217_215.out
                                 have hms69_1 := NB217_216.out
                                 refine skip_ (w1 := ?_) (by rfl) rfl ?_ ?_
                                 rotate_left
                                 ·go_simp
                                  rfl
                                 refine hK.out _ _ ?_
                                 clear hK K
                                 refine done_ (by kernel_rfl) ?_
                                 have p235 : 0 ≤ (t232 : Int) := of_decide_eq_true PZ
                                 have q235 : t232 < (x7_3.length : Int) := of_decide_eq_true PZ
                                 obtain ⟨ad235, e235, hx235_0⟩ := Kd.at_int (Kd.R_reads' HO_7.out).2.2 t232 p235 q235
                                 obtain rfl : ad233 = ad235 := (by injection e235)
                                 have hn235_0 : ad233.block ≠ gb217 := Kd.own_blk (Kd.R_ne HO_7.out BK217.out (by decide))
                                 replace hx235_0 := (cell_far (p := ⟨gb217, 2, none⟩) (by first | (rw [add_block]; exact hn235_0) | (show (Addr.add _ _).block ≠ _; rw [add_block]; exact hn235_0) | exact hn235_0) (.int .i64 (Go.bits .or .i64 x218002_3 (ji61)))).trans hx235_0
                                 clear hn235_0
                                 replace p235 := eq_true p235
                                 replace q235 := eq_true q235
                                 obtain ⟨gz233, cz233, ez233, gbz233, glz233, clz233, HGz233⟩ := Kd.R_form HO_7.out (by first | omega | (have z_ := of_eq_true q233; have z2_ := of_eq_true p233; omega))
                                 obtain rfl : ad233 = ⟨gz233, 0, none⟩ := (by injection ez233 with ea_; injection ea_)
                                 clear ez233 gbz233 glz233 clz233 HGz233
                                 (try simp only [add_plain])
                                 (try simp only [add_plain] at hx233_0)
                                 (try simp only [add_plain] at hx234_0)
                                 (try simp only [add_plain] at hx235_0)
                                 try go_wp2
                                 go_loopg [16] k3 (fun kq v16 w' => ∃ (x7_4 : List Int) (x16_4 : Int), v16 = .int .i64 x16_4 ∧ Aside0 (spec_l03Tree.l3 kq t218 x7_4 t224 x10_2 x11_3 t231 (rd x7_3 t232) x16_4 s0_0 t228 t229 a1_0 a1_1 a1_0 a1_1 (Go.bits .or .i64 x218002_3 (ji61)) = some (r1, r2, r3, r4, r5)) ∧ Aside0 (kq ≤ k3) ∧ Aside0 (Kd.R (Kd.int .i64) 3 w' w.heap.size (fun _ => True) (.slice (some ⟨gz233, 0, none⟩) x7_3.length co40) x7_4) ∧ Aside0 (w'.heap[gb215]? = some (.cells #[.int .i64 a1_0, .int .i64 a1_1] 28 (0, 0))) ∧ Aside0 (w'.heap[gb216]? = some (.cells #[.int .i64 0, .int .i64 0, .int .i64 0] 30 (0, 0))) ∧ Aside0 (w'.heap[gb217]? = some (.cells #[.int .i64 a1_0, .int .i64 a1_1, .int .i64 (Go.bits .or .i64 x218002_3 (ji61))] 30 (0, 0))) ∧ Aside0 (IsS94 w0 w' g s0_0 t228 t229) ∧ Aside0 (KeepBut w w' g none) ∧ Aside0 (Below w0.heap.size w0 w'))
                                 case atStart => exact ⟨(x7_3), (0), VZ, H', ⟨Nat.le_refl _⟩, ⟨by (try simp only [hl7_3]); (with_reducible repeat (first | apply Kd.R_alloc | apply Kd.R_drewN | apply Kd.R_drew)); exact Kd.R_mono (Kd.R_far (p := ⟨gb217, 2, none⟩) (Kd.R_types HO_7.out BK217.out (by decide)) (fun _ hk => hk.2) (.int .i64 (Go.bits .or .i64 x218002_3 (ji61)))) (fun _ hk => trivial)⟩, ⟨by (try simp only [hl7_3]); refine BT ?_; refine blk_far ?_ NB215_217.out _; refine BT ?_; exact BK215.out⟩, ⟨by (try simp only [hl7_3]); refine BT ?_; refine blk_far ?_ NB216_217.out _; refine BT ?_; exact BK216.out⟩, ⟨by (try simp only [hl7_3]); refine BT ?_; refine blk_put (cs := #[.int .i64 a1_0, .int .i64 a1_1, .int .i64 x218002_3]) ?_ 2 _ rfl; refine BT ?_; exact BK217.out⟩, ⟨by repeat (first | (with_reducible first | exact HI0.out | apply IsS94.alloc | apply IsS94.drewN | apply IsS94.drew | apply IsS94.set_1 | apply IsS94.set_2 | refine IsS94.far ?_ NB0_215.out _ | refine IsS94.far ?_ NB0_216.out _ | refine IsS94.far ?_ NB0_217.out _) | exact HI0.out)⟩, ⟨by repeat (first | (with_reducible first | exact HK.out | apply KeepBut.set_ | apply keep_drewN | apply keep_drew | apply keep_alloc | refine keep_far ?_ GW215.out _ | refine keep_far ?_ GW216.out _ | refine keep_far ?_ GW217.out _) | exact HK.out)⟩, ⟨by repeat (first | (with_reducible first | exact HB.out | apply below_alloc | apply pw_below_drewN | apply below_drew1 | refine below_set ?_ (IsS94.ge HI0.out) | refine below_set ?_ GE215.out | refine below_set ?_ GE216.out | refine below_set ?_ GE217.out) | exact HB.out)⟩⟩
                                 case round =>
                                  clear H'
                                  (try clear c6); (try clear c6b0); (try clear c6b1); (try clear c29); (try clear c29b0); (try clear c29b1); (try clear c44); (try clear hcz11_0); (try clear hcz11_1); (try clear hcz16_0); (try clear hcz16_1); (try clear hcz16_2); (try clear hcz17_0); (try clear hcz17_1); (try clear hcz19_0); (try clear hcz19_1); (try clear hfz11_0); (try clear hfz11_1); (try clear hfz16_0); (try clear hfz16_1); (try clear hfz16_2); (try clear hfz17_0); (try clear hfz17_1); (try clear hfz19_0); (try clear hfz19_1); (try clear hx233_0); (try clear hx234_0); (try clear hx235_0); (try clear p233); (try clear p235); (try clear q233); (try clear q235)
                                  obtain ⟨x7_4, x16_4, rfl, HA, HK4, HO_7, BK215, BK216, BK217, HI0, HK, HB⟩ := hrel
                                  have hl7_4 := (Kd.R_reads' HO_7.out).1
                                  rw [hl7_4] at HO_7
                                  (try simp only [hl7_4])
                                  (try simp only [hl7_4] at BK215)
                                  (try simp only [hl7_4] at BK216)
                                  (try simp only [hl7_4] at BK217)
                                  cases gk with
                                  | zero => exact absurd HA.out (by simp [spec_l03Tree.l3])
                                  | succ k4 =>
                                   have H := HA.out
                                   clear HA
                                   simp only [spec_l03Tree.l3] at H
                                   by_cases c70 : x16_4 < (x7_4.length : Int)
                                   ·as_aux_lemma =>
                                     rw [if_pos c70] at H
                                     have c70b0 := decide_eq_true c70
                                     clear c70
                                     by_cases c71 : 0 ≤ x16_4
                                     ·as_aux_lemma =>
                                       rw [if_pos c71] at H
                                       have c71b0 := decide_eq_true c71
                                       clear c71
                                       by_cases c72 : (rd x7_4 x16_4) = (rd x7_3 t232)
                                       ·as_aux_lemma =>
                                         rw [if_pos c72] at H
                                         obtain ⟨c72b0, c72b1⟩ := QT c72
                                         clear c72
                                         by_cases c73 : 0 ≤ t231
                                         ·as_aux_lemma =>
                                           rw [if_pos c73] at H
                                           have c73b0 := decide_eq_true c73
                                           clear c73
                                           by_cases c74 : t231 < (x7_4.length : Int)
                                           ·as_aux_lemma =>
                                             rw [if_pos c74] at H
                                             have c74b0 := decide_eq_true c74
                                             clear c74
                                             (first | (have HG_ := GB (x := ((x7_4.set (x16_4 : Int).toNat (rd x7_4 t231)) : List Int)) H; obtain ⟨y238, Ny238, H⟩ := HG_) | (generalize hy238 : ((x7_4.set (x16_4 : Int).toNat (rd x7_4 t231)) : List Int) = y238 at H; have Ny238 := Aside0.mk hy238.symm; clear hy238))
                                             have H' := Aside0.mk H
                                             clear H
                                             have p236 : 0 ≤ (x16_4 : Int) := of_decide_eq_true PZ
                                             have q236 : x16_4 < (x7_4.length : Int) := of_decide_eq_true PZ
                                             obtain ⟨ad236, e236, hx236_0⟩ := Kd.at_int (Kd.R_reads' HO_7.out).2.2 x16_4 p236 q236
                                             obtain rfl : ⟨gz233, 0, none⟩ = ad236 := (by injection e236)
                                             replace p236 := eq_true p236
                                             replace q236 := eq_true q236
                                             have p237 : 0 ≤ (t231 : Int) := of_decide_eq_true PZ
                                             have q237 : t231 < (x7_4.length : Int) := of_decide_eq_true PZ
                                             obtain ⟨ad237, e237, hx237_0⟩ := Kd.at_int (Kd.R_reads' HO_7.out).2.2 t231 p237 q237
                                             obtain rfl : ⟨gz233, 0, none⟩ = ad237 := (by injection e237)
                                             replace p237 := eq_true p237
                                             replace q237 := eq_true q237
                                             have p75 : 0 ≤ (x16_4 : Int) := of_decide_eq_true PZ
                                             have q75 : (x16_4 : Int) < ((x7_4.length : Int) : Int) := of_decide_eq_true PZ
                                             obtain ⟨go75, co75, eo75, gb75, gl75, cl75, HG75⟩ := Kd.R_form HO_7.out (by omega)
                                             (first | cases eo75 | (injection eo75 with ea_ en_ ec_; (first | subst ea_ | (injection ea_ with ea_; subst ea_)); subst ec_; clear en_))
                                             have GB75 := Aside0.mk gb75
                                             have GG75 := Aside0.mk HG75
                                             clear gb75 gl75 HG75
                                             (first | simp only [add_plain] at hx233_0 | skip)
                                             (first | simp only [add_plain] at hx234_0 | skip)
                                             (first | simp only [add_plain] at hx235_0 | skip)
                                             (first | simp only [add_plain] at hx236_0 | skip)
                                             (first | simp only [add_plain] at hx237_0 | skip)
                                             obtain ⟨hx75_0, hf75_0⟩ := Kd.R_celln 0 HO_7.out (x16_4 : Int) p75 q75
                                             replace p75 := eq_true p75
                                             replace q75 := eq_true q75
                                             have HP76 := Kd.R_putg HO_7.out (x16_4 : Int) (rd x7_4 t231)
                                             go_wp2_with (first | ((with_reducible refine gate_store (t := 3) (p := 104) rfl ?_); refine store_event (t := 3) (p := 104) (v := ?vo_w77) (w1 := (wr.setCell ⟨gz233, (x16_4 : Int).toNat, none⟩ (.int .i64 (rd x7_4 t231)))) ?hg ?ho ?hn ?hr ?_; (case ho => rfl); (case hg => rfl); (case hn => rfl); (case hr => first | (go_simp; done) | (go_simp; rfl)); intro w77 hw; have hg : wr.grownBy w77 (some gz233) := (by rw [hw]; exact HP76.2); have hp_ : Kd.R (Kd.int .i64) 3 w77 w.heap.size (fun _ => True) (.slice (some ⟨gz233, 0, none⟩) x7_4.length co40) y238 := (by rw [hw, Ny238.out]; exact HP76.1); clear HP76; have n0_ := Aside0.mk (hp_); have n1_ := Aside0.mk (blk_grown (g := gb215) (o := .cells #[.int .i64 a1_0, .int .i64 a1_1] 28 (0, 0)) BKZ hg (Kd.R_ne HO_7.out BK215.out (by decide))); have n2_ := Aside0.mk (blk_grown (g := gb216) (o := .cells #[.int .i64 0, .int .i64 0, .int .i64 0] 30 (0, 0)) BKZ hg (Kd.R_ne HO_7.out BK216.out (by decide))); have n3_ := Aside0.mk (blk_grown (g := gb217) (o := .cells #[.int .i64 a1_0, .int .i64 a1_1, .int .i64 (Go.bits .or .i64 x218002_3 (ji61))] 30 (0, 0)) BKZ hg (Kd.R_ne HO_7.out BK217.out (by decide))); have n4_ := Aside0.mk (IsS94.grown (by repeat (first | (with_reducible first | exact HI0.out | apply IsS94.alloc | apply IsS94.drewN | apply IsS94.drew | apply IsS94.set_1 | apply IsS94.set_2 | refine IsS94.far ?_ NB0_215.out _ | refine IsS94.far ?_ NB0_216.out _ | refine IsS94.far ?_ NB0_217.out _) | exact HI0.out)) hg (IsS94.own_ne HI0.out HO_7.out (by decide))); have n5_ := Aside0.mk ((by rw [hw]; exact below_set (HB.out) (Nat.le_trans HL.out GB75.out) : Below w0.heap.size w0 w77)); have n6_ := Aside0.mk (KeepBut.trans (by repeat (first | (with_reducible first | exact HK.out | apply KeepBut.set_ | apply keep_drewN | apply keep_drew | apply keep_alloc | refine keep_far ?_ GW215.out _ | refine keep_far ?_ GW216.out _ | refine keep_far ?_ GW217.out _) | exact HK.out)) (KeepBut.of_grown hg g) (Kd.R_base2 HO_7.out)); clear HO_7; clear BK215; clear BK216; clear BK217; clear HI0; clear HB; clear HK; have HO_7 := n0_; have BK215 := n1_; have BK216 := n2_; have BK217 := n3_; have HI0 := n4_; have HB := n5_; have HK := n6_; clear n0_ n1_ n2_ n3_ n4_ n5_ n6_; clear hg hw hp_))
                                             (try simp only [← hl7_4])
                                             go_roundg k4
                                             case measure => have := HK1.out; have := HK2.out; have := HK3.out; have := HK4.out; omega
                                             case rel => exact ⟨(y238), (wrap64 (x16_4 + 1)), VZ, H', ⟨by have := HK1.out; have := HK2.out; have := HK3.out; have := HK4.out; omega⟩, ⟨by (try simp only [hl7_3]); (try simp only [hl7_4]); (with_reducible repeat (first | apply Kd.R_alloc | apply Kd.R_drewN | apply Kd.R_drew)); exact HO_7.out⟩, ⟨by (try simp only [hl7_3]); (try simp only [hl7_4]); refine BT ?_; exact BK215.out⟩, ⟨by (try simp only [hl7_3]); (try simp only [hl7_4]); refine BT ?_; exact BK216.out⟩, ⟨by (try simp only [hl7_3]); (try simp only [hl7_4]); refine BT ?_; exact BK217.out⟩, ⟨by repeat (first | (with_reducible first | exact HI0.out | apply IsS94.alloc | apply IsS94.drewN | apply IsS94.drew | apply IsS94.set_1 | apply IsS94.set_2 | refine IsS94.far ?_ NB0_215.out _ | refine IsS94.far ?_ NB0_216.out _ | refine IsS94.far ?_ NB0_217.out _) | exact HI0.out)⟩, ⟨by repeat (first | (with_reducible first | exact HK.out | apply KeepBut.set_ | apply keep_drewN | apply keep_drew | apply keep_alloc | refine keep_far ?_ GW215.out _ | refine keep_far ?_ GW216.out _ | refine keep_far ?_ GW217.out _) | exact HK.out)⟩, ⟨by repeat (first | (with_reducible first | exact HB.out | apply below_alloc | apply pw_below_drewN | apply below_drew1 | refine below_set ?_ (IsS94.ge HI0.out) | refine below_set ?_ GE215.out | refine below_set ?_ GE216.out | refine below_set ?_ GE217.out) | exact HB.out)⟩⟩
                                           ·rw [if_neg c74] at H
                                            exact absurd H (by simp)
                                         ·rw [if_neg c73] at H
                                          exact absurd H (by simp)
                                       ·rw [if_neg c72] at H
                                        obtain ⟨c72b0, c72b1⟩ := QF c72
                                        have H' := Aside0.mk H
                                        clear H
                                        have p236 : 0 ≤ (x16_4 : Int) := of_decide_eq_true PZ
                                        have q236 : x16_4 < (x7_4.length : Int) := of_decide_eq_true PZ
                                        obtain ⟨ad236, e236, hx236_0⟩ := Kd.at_int (Kd.R_reads' HO_7.out).2.2 x16_4 p236 q236
                                        obtain rfl : ⟨gz233, 0, none⟩ = ad236 := (by injection e236)
                                        (try simp only [add_plain] at hx236_0)
                                        replace p236 := eq_true p236
                                        replace q236 := eq_true q236
                                        go_wp2
                                        (try simp only [← hl7_4])
                                        go_roundg k4
                                        case measure => have := HK1.out; have := HK2.out; have := HK3.out; have := HK4.out; omega
                                        case rel => exact ⟨(x7_4), (wrap64 (x16_4 + 1)), VZ, H', ⟨by have := HK1.out; have := HK2.out; have := HK3.out; have := HK4.out; omega⟩, ⟨by (try simp only [hl7_3]); (try simp only [hl7_4]); (with_reducible repeat (first | apply Kd.R_alloc | apply Kd.R_drewN | apply Kd.R_drew)); exact HO_7.out⟩, ⟨by (try simp only [hl7_3]); (try simp only [hl7_4]); refine BT ?_; exact BK215.out⟩, ⟨by (try simp only [hl7_3]); (try simp only [hl7_4]); refine BT ?_; exact BK216.out⟩, ⟨by (try simp only [hl7_3]); (try simp only [hl7_4]); refine BT ?_; exact BK217.out⟩, ⟨by repeat (first | (with_reducible first | exact HI0.out | apply IsS94.alloc | apply IsS94.drewN | apply IsS94.drew | apply IsS94.set_1 | apply IsS94.set_2 | refine IsS94.far ?_ NB0_215.out _ | refine IsS94.far ?_ NB0_216.out _ | refine IsS94.far ?_ NB0_217.out _) | exact HI0.out)⟩, ⟨by repeat (first | (with_reducible first | exact HK.out | apply KeepBut.set_ | apply keep_drewN | apply keep_drew | apply keep_alloc | refine keep_far ?_ GW215.out _ | refine keep_far ?_ GW216.out _ | refine keep_far ?_ GW217.out _) | exact HK.out)⟩, ⟨by repeat (first | (with_reducible first | exact HB.out | apply below_alloc | apply pw_below_drewN | apply below_drew1 | refine below_set ?_ (IsS94.ge HI0.out) | refine below_set ?_ GE215.out | refine below_set ?_ GE216.out | refine below_set ?_ GE217.out) | exact HB.out)⟩⟩
                                     ·rw [if_neg c71] at H
                                      exact absurd H (by simp)
                                   ·rw [if_neg c70] at H
                                    have c70b0 := decide_eq_false c70
                                    clear c70
                                    have H' := Aside0.mk H
                                    clear H
                                    go_wp2
                                    (try simp only [← hl7_3, ← hl7_4])
                                    go_roundg k4
                                    case measure => have := HK1.out; have := HK2.out; have := HK3.out; have := HK4.out; omega
                                    case rel => exact ⟨(x7_4), (wrap64 (x11_3 + 1)), ((Go.bits .or .i64 x218002_3 (ji61))), VZ, H', ⟨by have := HK1.out; have := HK2.out; have := HK3.out; have := HK4.out; omega⟩, ⟨by (try simp only [hl7_3]); (try simp only [hl7_4]); (with_reducible repeat (first | apply Kd.R_alloc | apply Kd.R_drewN | apply Kd.R_drew)); exact HO_7.out⟩, ⟨by (try simp only [hl7_3]); (try simp only [hl7_4]); refine BT ?_; exact BK215.out⟩, ⟨by (try simp only [hl7_3]); (try simp only [hl7_4]); refine BT ?_; exact BK216.out⟩, ⟨by (try simp only [hl7_3]); (try simp only [hl7_4]); refine BT ?_; exact BK217.out⟩, ⟨by repeat (first | (with_reducible first | exact HI0.out | apply IsS94.alloc | apply IsS94.drewN | apply IsS94.drew | apply IsS94.set_1 | apply IsS94.set_2 | refine IsS94.far ?_ NB0_215.out _ | refine IsS94.far ?_ NB0_216.out _ | refine IsS94.far ?_ NB0_217.out _) | exact HI0.out)⟩, ⟨by repeat (first | (with_reducible first | exact HK.out | apply KeepBut.set_ | apply keep_drewN | apply keep_drew | apply keep_alloc | refine keep_far ?_ GW215.out _ | refine keep_far ?_ GW216.out _ | refine keep_far ?_ GW217.out _) | exact HK.out)⟩, ⟨by repeat (first | (with_reducible first | exact HB.out | apply below_alloc | apply pw_below_drewN | apply below_drew1 | refine below_set ?_ (IsS94.ge HI0.out) | refine below_set ?_ GE215.out | refine below_set ?_ GE216.out | refine below_set ?_ GE217.out) | exact HB.out)⟩⟩
                               ·rw [if_neg c60] at H
                                exact absurd H (by simp)
                           ·rw [if_neg c51] at H
                            exact absurd H (by simp)
                         ·rw [if_neg c50] at H
                          exact absurd H (by simp)
                       ·rw [if_neg c49] at H
                        exact absurd H (by simp)
                     ·rw [if_neg c48] at H
                      exact absurd H (by simp)
                 ·rw [if_neg c45] at H
                  have c45b0 := decide_eq_false c45
                  clear c45
                  simp only [Option.some.injEq, Prod.mk.injEq] at H
                  obtain ⟨rfl, rfl, rfl, rfl, rfl⟩ := H
                  have hnb78 := NB217_215.out
                  have hnc78 := NB215_217.out
                  have hnb79 := NB217_216.out
                  have hnc79 := NB216_217.out
                  have hnb80 := NB217_0.out
                  have hnc80 := NB0_217.out
                  obtain ⟨hcz81_0, hcz81_1, hcz81_2, hfz81_0, hfz81_1, hfz81_2⟩ := CZ3 BK217
                  have hnb82 := NB216_215.out
                  have hnc82 := NB215_216.out
                  have hnb83 := NB216_0.out
                  have hnc83 := NB0_216.out
                  obtain ⟨hcz84_0, hcz84_1, hcz84_2, hfz84_0, hfz84_1, hfz84_2⟩ := CZ3 BK216
                  go_wp2
                  refine bodyPost_ret (results_cell_row rfl _ _ gb216 30 #[.int .i64 a1_0, .int .i64 a1_1, .int .i64 x218002_3] (0, 0) _ rfl (PQ3 BK216) Try.underlying30 rfl (by kernel_rfl)) rfl ?_
                  exact ⟨RZ, by repeat (first | (with_reducible first | exact HI0.out | apply IsS94.alloc | apply IsS94.drewN | apply IsS94.drew | apply IsS94.set_1 | apply IsS94.set_2 | refine IsS94.far ?_ NB0_215.out _ | refine IsS94.far ?_ NB0_216.out _ | refine IsS94.far ?_ NB0_217.out _) | exact HI0.out), by repeat (first | (with_reducible first | exact HB.out | apply below_alloc | apply pw_below_drewN | apply below_drew1 | refine below_set ?_ (IsS94.ge HI0.out) | refine below_set ?_ GE215.out | refine below_set ?_ GE216.out | refine below_set ?_ GE217.out) | exact HB.out), by repeat (first | (with_reducible first | exact HK.out | apply KeepBut.set_ | apply keep_drewN | apply keep_drew | apply keep_alloc | refine keep_far ?_ GW215.out _ | refine keep_far ?_ GW216.out _ | refine keep_far ?_ GW217.out _) | exact HK.out)⟩
   ·rw [if_neg c6] at H
    exact absurd H (by simp)
 ·rw [if_neg c5] at H
  exact absurd H (by simp)

def spec_l01Once.f (s0_0 : List Int) (s0_1 : Int) (s0_2 : Int) (a1 : Int) : Option (Bool × Int × Int) := (spec_l01Below.f s0_0 s0_1 s0_2 a1).bind fun bt239 => (some ((bt239.1 == 0), bt239.2.1, bt239.2.2))
set_option maxHeartbeats 8000000 in
set_option maxRecDepth 100000 in
theorem spec_l01Once.calls (g : Nat) (s0_0 : List Int) (s0_1 : Int) (s0_2 : Int) (a1 : Int) (r1 : Bool) (r2 : Int) (r3 : Int) (w0 w : World) (hI : IsS94 w0 w g s0_0 s0_1 s0_2) (hB : Below w0.heap.size w0 w) (h : spec_l01Once.f s0_0 s0_1 s0_2 a1 = some (r1, r2, r3)) :
  Calls Try.prog 81 #[.pointer (some ⟨g, 0, none⟩), .int .i64 a1] w fun e w' => e = .returned (.bool r1) ∧ IsS94 w0 w' g s0_0 r2 r3 ∧ Below w0.heap.size w0 w' ∧ KeepBut w w' g none := by
 have HI0 := Aside0.mk hI
 have HK := Aside0.mk (KeepBut.refl w g none)
 have HL := Aside0.mk hB.size
 clear hI
 have HW0 := Aside0.mk hB.size
 have HB := Aside0.mk hB
 clear hB
 have H := h
 unfold spec_l01Once.f at H
 clear h
 obtain ⟨⟨t239, t240, t241⟩, A3, H⟩ := BD H
 dsimp only at H
 simp only [Option.some.injEq, Prod.mk.injEq] at H
 obtain ⟨rfl, rfl, rfl⟩ := H
 go_enter Try.func81, Try.ntmps81
 go_wp2_with (first | ((with_reducible refine GC 58 rfl ?_); refine GL 7 Try.func58 (spec_l01Below.calls g s0_0 s0_1 s0_2 a1 t239 t240 t241 w0 _ ?side1 ?side2 A3.out) ?_; (case side1 => repeat (first | (with_reducible first | exact HI0.out | apply IsS94.alloc | apply IsS94.drewN | apply IsS94.drew | apply IsS94.set_1 | apply IsS94.set_2) | exact HI0.out)); (case side2 => repeat (first | (with_reducible first | exact HB.out | apply below_alloc | apply pw_below_drewN | apply below_drew1 | refine below_set ?_ (IsS94.ge HI0.out)) | exact HB.out)); rintro e w4 ⟨rfl, hi, hb, hk⟩; refine ⟨_, rfl, ?_⟩; replace HK := Aside0.mk (KeepBut.trans (by repeat (first | (with_reducible first | exact HK.out | apply KeepBut.set_ | apply keep_drewN | apply keep_drew | apply keep_alloc) | exact HK.out)) hk (.inl rfl)); replace HI0 := Aside0.mk (hi); replace HB := Aside0.mk (hb); clear hb hk hi))
 go_ret
 exact ⟨RZ, by repeat (first | (with_reducible first | exact HI0.out | apply IsS94.alloc | apply IsS94.drewN | apply IsS94.drew | apply IsS94.set_1 | apply IsS94.set_2) | exact HI0.out), by repeat (first | (with_reducible first | exact HB.out | apply below_alloc | apply pw_below_drewN | apply below_drew1 | refine below_set ?_ (IsS94.ge HI0.out)) | exact HB.out), by repeat (first | (with_reducible first | exact HK.out | apply KeepBut.set_ | apply keep_drewN | apply keep_drew | apply keep_alloc) | exact HK.out)⟩

end Go.Proofs.Ytfpomjnhgcmgoaa.P

