/- Proved here: calls of functions of the program answer as the plain functions beside them say. Conditions: each theorem names its own. Written by a program of this session (hprint.py) out of the translation. -/
import Derived.Test.YtfpomjnhgcmgoaaQcPLcdx0
import Derived.Test.YtfpomjnhgcmgoaaQcPLcdx1
import Derived.Test.YtfpomjnhgcmgoaaQcPLcdx2
import Derived.Test.YtfpomjnhgcmgoaaQcFuncs
import Derived.Test.YtfpomjnhgcmgoaaQcRow
import Derived.Test.YtfpomjnhgcmgoaaQcShelf
namespace Go.Proofs.Ytfpomjnhgcmgoaa.P
open Go.RowKit Go.Proofs.YtfpomjnhgcmgoaaW.PrintWords Go.Proofs.YtfpomjnhgcmgoaaW.PrintLast Go.Proofs.YtfpomjnhgcmgoaaW.PrintMore
attribute [local go_sem] max2_int min2_int max_two min_two max_three min_three max_four min_four   -- for this text's walks alone
set_option linter.unusedVariables false
set_option linter.unusedSimpArgs false

attribute [local go_sem high] eqA43
def impl_Step.f (k : Nat) (a0_0 : Int) (a0_1 : Int) (a0_2 : Int) (a1 : Int) (a2 : Int) : Option (Int) := (impl_MazeOk.f a0_0 a0_1 a0_2).bind fun t124 => (if t124 = true then ((impl_GapAt.f k a0_0 a0_1 a1 a2).bind fun t125 => ((impl_isOpen.f a0_0 a0_1 a0_2 t125).bind fun t126 => (if t126 = true then ((impl_Neighbor.f k a0_0 a0_1 a1 a2).bind fun t127 => (some t127)) else (some (-1))))) else (some (-1)))
theorem impl_Step.mono : ∀ a0 a1 a2 a3 a4 k, LeO (impl_Step.f k a0 a1 a2 a3 a4) (impl_Step.f (k + 1) a0 a1 a2 a3 a4) := by
 intro a0 a1 a2 a3 a4 k
 unfold impl_Step.f
 repeat' first
   | (with_reducible exact impl_GapAt.mono _ _ _ _ _)
   | (with_reducible exact impl_Neighbor.mono _ _ _ _ _)
   | (with_reducible exact LeO.refl _)
   | (with_reducible exact LeO.none _)
   | (with_reducible refine LeO.ite ?_ ?_)
   | (with_reducible refine LeO.bind ?_ (fun _ => ?_))
   | exact impl_GapAt.mono _ _ _ _ _
   | exact impl_Neighbor.mono _ _ _ _ _
   | exact LeO.none _
   | refine LeO.ite ?_ ?_
   | refine LeO.bind ?_ (fun _ => ?_)
def impl_Step.T1 : Bool × List (List Nat × List Nat) := (true, [([], []), ([0], [0]), ([1], [1]), ([2, 1], [2]), ([3], [3]), ([3], [3]), ([5, 3], [3, 5]), ([3], [3]), ([3], [3]), ([6, 7, 8, 3, 3], [3, 6, 7, 8]), ([4, 9, 9, 3], [3, 4, 9]), ([10, 3], [3, 10]), ([3, 11], [3, 11])])
def impl_Step.B1 : List Nat := [0, 1, 3, 7, 15, 15, 47, 15, 15, 495, 1023, 2047, 4095]
theorem impl_Step.tab1 : rtab .any (opsOf Try.f56 1) = impl_Step.T1 := by kernel_rfl
theorem impl_Step.bits1 : waitsOk impl_Step.T1.2 impl_Step.B1 = true := by kernel_rfl
set_option maxHeartbeats 8000000 in
set_option maxRecDepth 100000 in
theorem impl_Step.calls (k : Nat) (a0_0 : Int) (a0_1 : Int) (a0_2 : Int) (a1 : Int) (a2 : Int) (r : Int) (w : World) (h : impl_Step.f k a0_0 a0_1 a0_2 a1 a2 = some r) :
  Calls Try.prog 56 #[.agg #[.int .i64 a0_0, .int .i64 a0_1, .int .i64 a0_2], .int .i64 a1, .int .i64 a2] w fun e w' => e = .returned (.int .i64 r) ∧ Below w.heap.size w w' := by
 have hu30 := Try.underlying30
 have hu28 := Try.underlying28
 have HB := Aside0.mk (Below.refl w.heap.size w)
 have H := h
 unfold impl_Step.f at H
 clear h
 obtain ⟨t124, A4, H⟩ := BD H
 by_cases c5 : t124 = true
 ·subst c5
  replace H := IT H
  obtain ⟨t125, A6, H⟩ := BD H
  obtain ⟨t126, A7, H⟩ := BD H
  by_cases c8 : t126 = true
  ·subst c8
   replace H := IT H
   obtain ⟨t127, A9, H⟩ := BD H
   obtain rfl := Option.some.inj H
   go_enter Try.func56, Try.ntmps56
   try go_wp2_with (first | ((with_reducible refine gate_dst (N := 3) rfl ?_); refine BX 3 30 #[.int .i64 a0_0, .int .i64 a0_1, .int .i64 a0_2] ?_; intro gb123 hg w10 hbox hb; have BK123 := Aside0.mk (hbox); have GW123 := (GS hg : Aside0 (w.heap.size ≤ gb123)); have GE123 := GW123; replace HB := BS HB hb; clear hb hbox hg))
   replace BK123 := Aside0.mk (blk_drew BK123.out)
   replace HB := Aside0.mk (below_drew1 HB.out)
   refine ST 13 (fun w' => w'.cell? ⟨gb123, 0, none⟩ = some (.int .i64 a0_0) ∧ w'.cell? ⟨gb123, 1, none⟩ = some (.int .i64 a0_1) ∧ w'.cell? ⟨gb123, 2, none⟩ = some (.int .i64 a0_2)) [] impl_Step.tab1 impl_Step.bits1 ⟨CE BK123 0, CE BK123 1, CE BK123 2⟩ (fun hHeld HT_ HW_ => ?_)
   generalize w10.drew = w11 at BK123 HB hHeld ⊢
   refine TA 0 7 HT_ HW_ hHeld ?_
   refine OG 1 8 HT_ Try.func38 (impl_MazeOk.calls a0_0 a0_1 a0_2 true _ A4.out) (fun K hK => ?_)
   rintro e w12 ⟨rfl, hb⟩
   refine ⟨_, rfl, ?_⟩
   replace BK123 := BB BK123 hb
   replace HB := BS HB hb
   clear hb
   refine HN hK ⟨CE BK123 0, CE BK123 1, CE BK123 2⟩ (fun hHeld => ?_)
   clear hK K
   refine PU 2 9 HT_ ?_
   refine PU 3 10 HT_ ?_
   refine PU 5 12 HT_ ?_
   refine PU 7 14 HT_ ?_
   refine PU 8 15 HT_ ?_
   refine TA 4 11 HT_ HW_ hHeld ?_
   refine TA 6 13 HT_ HW_ hHeld ?_
   refine OG 9 16 HT_ Try.func87 (impl_GapAt.calls k a0_0 a0_1 a1 a2 t125 _ A6.out) (fun K hK => ?_)
   rintro e w13 ⟨rfl, hb⟩
   refine ⟨_, rfl, ?_⟩
   replace BK123 := BB BK123 hb
   replace HB := BS HB hb
   clear hb
   refine HN hK ⟨CE BK123 0, CE BK123 1, CE BK123 2⟩ (fun hHeld => ?_)
   clear hK K
   refine OG 10 17 HT_ Try.func86 (impl_isOpen.calls a0_0 a0_1 a0_2 t125 true _ A7.out) (fun K hK => ?_)
   rintro e w14 ⟨rfl, hb⟩
   refine ⟨_, rfl, ?_⟩
   replace BK123 := BB BK123 hb
   replace HB := BS HB hb
   clear hb
   refine HN hK ⟨CE BK123 0, CE BK123 1, CE BK123 2⟩ (fun hHeld => ?_)
   clear hK K
   refine PU 11 18 HT_ ?_
   refine PU 12 19 HT_ ?_
   refine done_ (done_of HT_.out (by kernel_rfl)) ?_
   obtain ⟨hcz15_0, hcz15_1, hcz15_2, hfz15_0, hfz15_1, hfz15_2⟩ := CZ3 BK123
   try go_wp2_with (first | ((with_reducible refine GC 88 rfl ?_); refine GL 24 Try.func88 (impl_Neighbor.calls k a0_0 a0_1 a1 a2 t127 _ A9.out) ?_; rintro e w16 ⟨rfl, hb⟩; refine ⟨_, rfl, ?_⟩; replace BK123 := BB BK123 hb; replace HB := BS HB hb; clear hb))
   go_ret
   exact ⟨RZ, BZ⟩
  ·replace c8 := Bool.eq_false_iff.mpr c8
   subst c8
   replace H := IE H
   obtain rfl := Option.some.inj H
   go_enter Try.func56, Try.ntmps56
   try go_wp2_with (first | ((with_reducible refine gate_dst (N := 3) rfl ?_); refine BX 3 30 #[.int .i64 a0_0, .int .i64 a0_1, .int .i64 a0_2] ?_; intro gb123 hg w17 hbox hb; have BK123 := Aside0.mk (hbox); have GW123 := (GS hg : Aside0 (w.heap.size ≤ gb123)); have GE123 := GW123; replace HB := BS HB hb; clear hb hbox hg))
   replace BK123 := Aside0.mk (blk_drew BK123.out)
   replace HB := Aside0.mk (below_drew1 HB.out)
   refine ST 13 (fun w' => w'.cell? ⟨gb123, 0, none⟩ = some (.int .i64 a0_0) ∧ w'.cell? ⟨gb123, 1, none⟩ = some (.int .i64 a0_1) ∧ w'.cell? ⟨gb123, 2, none⟩ = some (.int .i64 a0_2)) [] impl_Step.tab1 impl_Step.bits1 ⟨CE BK123 0, CE BK123 1, CE BK123 2⟩ (fun hHeld HT_ HW_ => ?_)
   generalize w17.drew = w18 at BK123 HB hHeld ⊢
   refine TA 0 7 HT_ HW_ hHeld ?_
   refine OG 1 8 HT_ Try.func38 (impl_MazeOk.calls a0_0 a0_1 a0_2 true _ A4.out) (fun K hK => ?_)
   rintro e w19 ⟨rfl, hb⟩
   refine ⟨_, rfl, ?_⟩
   replace BK123 := BB BK123 hb
   replace HB := BS HB hb
   clear hb
   refine HN hK ⟨CE BK123 0, CE BK123 1, CE BK123 2⟩ (fun hHeld => ?_)
   clear hK K
   refine PU 2 9 HT_ ?_
   refine PU 3 10 HT_ ?_
   refine PU 5 12 HT_ ?_
   refine PU 7 14 HT_ ?_
   refine PU 8 15 HT_ ?_
   refine TA 4 11 HT_ HW_ hHeld ?_
   refine TA 6 13 HT_ HW_ hHeld ?_
   refine OG 9 16 HT_ Try.func87 (impl_GapAt.calls k a0_0 a0_1 a1 a2 t125 _ A6.out) (fun K hK => ?_)
   rintro e w20 ⟨rfl, hb⟩
   refine ⟨_, rfl, ?_⟩
   replace BK123 := BB BK123 hb
   replace HB := BS HB hb
   clear hb
   refine HN hK ⟨CE BK123 0, CE BK123 1, CE BK123 2⟩ (fun hHeld => ?_)
   clear hK K
   refine OG 10 17 HT_ Try.func86 (impl_isOpen.calls a0_0 a0_1 a0_2 t125 false _ A7.out) (fun K hK => ?_)
   rintro e w21 ⟨rfl, hb⟩
   refine ⟨_, rfl, ?_⟩
   replace BK123 := BB BK123 hb
   replace HB := BS HB hb
   clear hb
   refine HN hK ⟨CE BK123 0, CE BK123 1, CE BK123 2⟩ (fun hHeld => ?_)
   clear hK K
   refine PU 11 18 HT_ ?_
   refine PU 12 19 HT_ ?_
   refine done_ (done_of HT_.out (by kernel_rfl)) ?_
   try go_wp2
   go_ret
   exact ⟨RZ, BZ⟩
 ·replace c5 := Bool.eq_false_iff.mpr c5
  subst c5
  replace H := IE H
  obtain rfl := Option.some.inj H
  go_enter Try.func56, Try.ntmps56
  try go_wp2_with (first | ((with_reducible refine gate_dst (N := 3) rfl ?_); refine BX 3 30 #[.int .i64 a0_0, .int .i64 a0_1, .int .i64 a0_2] ?_; intro gb123 hg w22 hbox hb; have BK123 := Aside0.mk (hbox); have GW123 := (GS hg : Aside0 (w.heap.size ≤ gb123)); have GE123 := GW123; replace HB := BS HB hb; clear hb hbox hg))
  replace BK123 := Aside0.mk (blk_drew BK123.out)
  replace HB := Aside0.mk (below_drew1 HB.out)
  refine ST 13 (fun w' => w'.cell? ⟨gb123, 0, none⟩ = some (.int .i64 a0_0) ∧ w'.cell? ⟨gb123, 1, none⟩ = some (.int .i64 a0_1) ∧ w'.cell? ⟨gb123, 2, none⟩ = some (.int .i64 a0_2)) [] impl_Step.tab1 impl_Step.bits1 ⟨CE BK123 0, CE BK123 1, CE BK123 2⟩ (fun hHeld HT_ HW_ => ?_)
  generalize w22.drew = w23 at BK123 HB hHeld ⊢
  refine TA 0 7 HT_ HW_ hHeld ?_
  refine OG 1 8 HT_ Try.func38 (impl_MazeOk.calls a0_0 a0_1 a0_2 false _ A4.out) (fun K hK => ?_)
  rintro e w24 ⟨rfl, hb⟩
  refine ⟨_, rfl, ?_⟩
  replace BK123 := BB BK123 hb
  replace HB := BS HB hb
  clear hb
  refine HN hK ⟨CE BK123 0, CE BK123 1, CE BK123 2⟩ (fun hHeld => ?_)
  clear hK K
  refine PU 2 9 HT_ ?_
  refine PU 3 10 HT_ ?_
  refine PX 4 11 HT_ ?_
  refine PX 5 12 HT_ ?_
  refine PX 6 13 HT_ ?_
  refine PX 7 14 HT_ ?_
  refine PX 8 15 HT_ ?_
  refine PX 9 16 HT_ ?_
  refine PX 10 17 HT_ ?_
  refine PX 11 18 HT_ ?_
  refine PU 12 19 HT_ ?_
  refine done_ (done_of HT_.out (by kernel_rfl)) ?_
  try go_wp2
  go_ret
  exact ⟨RZ, BZ⟩

def impl_PatternAt.l0 : Nat → Int → Int → Int → Int → Int → Int → Int → Option (Int)
 | 0, _, _, _, _, _, _, _ => none
 | k + 1, x5, x6, x129000, x129001, x129002, x130000, x130001 => if x6 < 4 then ((impl_Step.f k x129000 x129001 x129002 x130000 (Int.tmod (wrap64 (x130001 + x6)) 4)).bind fun t131 => (if t131 ≥ 0 then (if 0 ≤ x6 then (impl_PatternAt.l0 k (Go.bits .or .i64 x5 (shl .i64 1 x6)) (wrap64 (x6 + 1)) x129000 x129001 x129002 x130000 x130001) else (none)) else (impl_PatternAt.l0 k x5 (wrap64 (x6 + 1)) x129000 x129001 x129002 x130000 x130001))) else (some x5)
def impl_PatternAt.f (k : Nat) (a0_0 : Int) (a0_1 : Int) (a0_2 : Int) (a1_0 : Int) (a1_1 : Int) : Option (Int) := (impl_WalkerOk.f a0_0 a0_1 a0_2 a1_0 a1_1).bind fun t130 => (if t130 = true then (impl_PatternAt.l0 k 0 0 a0_0 a0_1 a0_2 a1_0 a1_1) else (some (-1)))
theorem impl_PatternAt.mono_l : ∀ k, (∀ y0 y1 y2 y3 y4 y5 y6, LeO (impl_PatternAt.l0 k y0 y1 y2 y3 y4 y5 y6) (impl_PatternAt.l0 (k + 1) y0 y1 y2 y3 y4 y5 y6))
 | 0 => fun _ _ _ _ _ _ _ r h => by simp [impl_PatternAt.l0] at h
 | k + 1 => by
  have ih0 := impl_PatternAt.mono_l k
  ·intro y0 y1 y2 y3 y4 y5 y6
   unfold impl_PatternAt.l0
   repeat' first
   | (with_reducible exact ih0 _ _ _ _ _ _ _)
   | (with_reducible exact impl_Step.mono _ _ _ _ _ _)
   | (with_reducible exact LeO.refl _)
   | (with_reducible exact LeO.none _)
   | (with_reducible refine LeO.ite ?_ ?_)
   | (with_reducible refine LeO.bind ?_ (fun _ => ?_))
   | exact ih0 _ _ _ _ _ _ _
   | exact impl_Step.mono _ _ _ _ _ _
   | exact LeO.none _
   | refine LeO.ite ?_ ?_
   | refine LeO.bind ?_ (fun _ => ?_)
theorem impl_PatternAt.mono : ∀ a0 a1 a2 a3 a4 k, LeO (impl_PatternAt.f k a0 a1 a2 a3 a4) (impl_PatternAt.f (k + 1) a0 a1 a2 a3 a4) := by
 intro a0 a1 a2 a3 a4 k
 have ih0 := impl_PatternAt.mono_l k
 unfold impl_PatternAt.f
 repeat' first
   | (with_reducible exact ih0 _ _ _ _ _ _ _)
   | (with_reducible exact impl_Step.mono _ _ _ _ _ _)
   | (with_reducible exact LeO.refl _)
   | (with_reducible exact LeO.none _)
   | (with_reducible refine LeO.ite ?_ ?_)
   | (with_reducible refine LeO.bind ?_ (fun _ => ?_))
   | exact ih0 _ _ _ _ _ _ _
   | exact impl_Step.mono _ _ _ _ _ _
   | exact LeO.none _
   | refine LeO.ite ?_ ?_
   | refine LeO.bind ?_ (fun _ => ?_)
set_option maxHeartbeats 8000000 in
set_option maxRecDepth 100000 in
theorem impl_PatternAt.calls (k : Nat) (a0_0 : Int) (a0_1 : Int) (a0_2 : Int) (a1_0 : Int) (a1_1 : Int) (r : Int) (w : World) (h : impl_PatternAt.f k a0_0 a0_1 a0_2 a1_0 a1_1 = some r) :
  Calls Try.prog 25 #[.agg #[.int .i64 a0_0, .int .i64 a0_1, .int .i64 a0_2], .agg #[.int .i64 a1_0, .int .i64 a1_1]] w fun e w' => e = .returned (.int .i64 r) ∧ Below w.heap.size w w' := by
 have hu30 := Try.underlying30
 have hu43 := Try.underlying43
 have HB := Aside0.mk (Below.refl w.heap.size w)
 have H := h
 unfold impl_PatternAt.f at H
 clear h
 obtain ⟨t130, A3, H⟩ := BD H
 by_cases c4 : t130 = true
 ·subst c4
  replace H := IT H
  have H' := Aside0.mk H
  clear H
  go_enter Try.func25, Try.ntmps25
  go_wp2_with (first | ((with_reducible refine gate_dst (N := 2) rfl ?_); refine BX 2 30 #[.int .i64 a0_0, .int .i64 a0_1, .int .i64 a0_2] ?_; intro gb128 hg w5 hbox hb; have BK128 := Aside0.mk (hbox); have GW128 := (GS hg : Aside0 (w.heap.size ≤ gb128)); have GE128 := GW128; replace HB := BS HB hb; clear hb hbox hg) | ((with_reducible refine gate_dst (N := 3) rfl ?_); refine BX 3 43 #[.int .i64 a1_0, .int .i64 a1_1] ?_; intro gb129 hg w6 hbox hb; have BK129 := Aside0.mk (hbox); have GW129 := (GS hg : Aside0 (w.heap.size ≤ gb129)); have GE129 := GW129; have NB128_129 := NL BK128 hg; have NB129_128 := NG BK128 hg; replace BK128 := BB BK128 hb; replace HB := BS HB hb; clear hb hbox hg; have hnb7 := NB128_129.out; have hnc7 := NB129_128.out; obtain ⟨hcz8_0, hcz8_1, hcz8_2, hfz8_0, hfz8_1, hfz8_2⟩ := CZ3 BK128; obtain ⟨hcz9_0, hcz9_1, hfz9_0, hfz9_1⟩ := CZ2 BK129) | ((with_reducible refine GC 50 rfl ?_); refine GL 9 Try.func50 (impl_WalkerOk.calls a0_0 a0_1 a0_2 a1_0 a1_1 true _ A3.out) ?_; rintro e w10 ⟨rfl, hb⟩; refine ⟨_, rfl, ?_⟩; replace BK128 := BB BK128 hb; replace BK129 := BB BK129 hb; replace HB := BS HB hb; clear hb))
  go_loopg [5, 6] k (fun kq v5 v6 w' => ∃ (x5_1 : Int) (x6_1 : Int), v5 = .int .i64 x5_1 ∧ v6 = .int .i64 x6_1 ∧ Aside0 (impl_PatternAt.l0 kq x5_1 x6_1 a0_0 a0_1 a0_2 a1_0 a1_1 = some r) ∧ Aside0 (kq ≤ k) ∧ Aside0 (w'.heap[gb128]? = some (.cells #[.int .i64 a0_0, .int .i64 a0_1, .int .i64 a0_2] 30 (0, 0))) ∧ Aside0 (w'.heap[gb129]? = some (.cells #[.int .i64 a1_0, .int .i64 a1_1] 43 (0, 0))) ∧ Aside0 (Below w.heap.size w w'))
  case atStart => exact ⟨(0), (0), VZ, VZ, H', ⟨Nat.le_refl _⟩, ⟨BKZ⟩, ⟨BKZ⟩, ⟨BZ⟩⟩
  case round =>
   clear H'
   (try clear c4); (try clear hcz8_0); (try clear hcz8_1); (try clear hcz8_2); (try clear hcz9_0); (try clear hcz9_1); (try clear hfz8_0); (try clear hfz8_1); (try clear hfz8_2); (try clear hfz9_0); (try clear hfz9_1)
   obtain ⟨x5_1, x6_1, rfl, rfl, HA, HK1, BK128, BK129, HB⟩ := hrel
   cases gk with
   | zero => exact absurd HA.out (by simp [impl_PatternAt.l0])
   | succ k1 =>
    have H := HA.out
    clear HA
    simp only [impl_PatternAt.l0] at H
    by_cases c11 : x6_1 < 4
    ·rw [if_pos c11] at H
     have c11b0 := decide_eq_true c11
     clear c11
     obtain ⟨t131, A12, H⟩ := BD H
     by_cases c13 : t131 ≥ 0
     ·rw [if_pos c13] at H
      have c13b0 := decide_eq_true c13
      clear c13
      by_cases c14 : 0 ≤ x6_1
      ·rw [if_pos c14] at H
       have c14b0 := eq_true c14
       have c14b1 := decide_eq_true c14
       clear c14
       obtain ⟨ji15, hji15⟩ : ∃ j_ : Int, (shl .i64 1 x6_1) = j_ := ⟨_, rfl⟩
       replace H : (impl_PatternAt.l0 k1 (Go.bits .or .i64 x5_1 (ji15)) (wrap64 (x6_1 + 1)) a0_0 a0_1 a0_2 a1_0 a1_1) = some r := by first | (rw [hji15] at H; exact H) | (simp only [hji15] at H ⊢; exact H)
       (try rw [hji15] at A12)
       have hji15_ : (IntKind.i64.wrap (1 * 2 ^ min x6_1.toNat 64)) = ji15 := hji15
       have hji15z : x6_1 ≤ 64 → (IntKind.i64.wrap (1 * 2 ^ x6_1.toNat)) = ji15 := shl_small hji15
       have hji15u : (IntKind.i64.wrap (2 ^ min x6_1.toNat 64)) = ji15 := by have h_ := hji15_; rw [Int.one_mul] at h_; exact h_
       have hji15v : x6_1 ≤ 64 → (IntKind.i64.wrap (2 ^ x6_1.toNat)) = ji15 := fun hle_ => by have h_ := hji15z hle_; rw [Int.one_mul] at h_; exact h_
       have hji15y : (wrap64 (1 * 2 ^ min x6_1.toNat 64)) = ji15 := (i64_w _).symm.trans hji15_
       have hji15x : x6_1 ≤ 64 → (wrap64 (1 * 2 ^ x6_1.toNat)) = ji15 := fun h_ => (i64_w _).symm.trans (hji15z h_)
       have H' := Aside0.mk H
       clear H
       have hnb16 := NB128_129.out
       have hnc16 := NB129_128.out
       obtain ⟨hcz17_0, hcz17_1, hcz17_2, hfz17_0, hfz17_1, hfz17_2⟩ := CZ3 BK128
       obtain ⟨hcz18_0, hcz18_1, hfz18_0, hfz18_1⟩ := CZ2 BK129
       go_wp2_with (first | ((with_reducible refine GC 56 rfl ?_); refine GL 23 Try.func56 (impl_Step.calls k1 a0_0 a0_1 a0_2 a1_0 (Int.tmod (wrap64 (a1_1 + x6_1)) 4) t131 _ A12.out) ?_; rintro e w19 ⟨rfl, hb⟩; refine ⟨_, rfl, ?_⟩; replace BK128 := BB BK128 hb; replace BK129 := BB BK129 hb; replace HB := BS HB hb; clear hb))
       go_roundg k1
       case measure => have := HK1.out; omega
       case rel => exact ⟨(Go.bits .or .i64 x5_1 (ji15)), (wrap64 (x6_1 + 1)), (by first | rfl | (simp; done) | (simp only [← hji15] <;> (first | rfl | simp)) | (simp [*]; done)), VZ, H', ⟨by have := HK1.out; omega⟩, ⟨BKZ⟩, ⟨BKZ⟩, ⟨BZ⟩⟩
      ·rw [if_neg c14] at H
       exact absurd H (by simp)
     ·rw [if_neg c13] at H
      have c13b0 := decide_eq_false c13
      clear c13
      have H' := Aside0.mk H
      clear H
      have hnb20 := NB128_129.out
      have hnc20 := NB129_128.out
      obtain ⟨hcz21_0, hcz21_1, hcz21_2, hfz21_0, hfz21_1, hfz21_2⟩ := CZ3 BK128
      obtain ⟨hcz22_0, hcz22_1, hfz22_0, hfz22_1⟩ := CZ2 BK129
      go_wp2_with (first | ((with_reducible refine GC 56 rfl ?_); refine GL 23 Try.func56 (impl_Step.calls k1 a0_0 a0_1 a0_2 a1_0 (Int.tmod (wrap64 (a1_1 + x6_1)) 4) t131 _ A12.out) ?_; rintro e w23 ⟨rfl, hb⟩; refine ⟨_, rfl, ?_⟩; replace BK128 := BB BK128 hb; replace BK129 := BB BK129 hb; replace HB := BS HB hb; clear hb))
      go_roundg k1
      case measure => have := HK1.out; omega
      case rel => exact ⟨(x5_1), (wrap64 (x6_1 + 1)), VZ, VZ, H', ⟨by have := HK1.out; omega⟩, ⟨BKZ⟩, ⟨BKZ⟩, ⟨BZ⟩⟩
    ·rw [if_neg c11] at H
     have c11b0 := decide_eq_false c11
     clear c11
     obtain rfl := Option.some.inj H
     go_wp2
     go_ret
     exact ⟨RZ, BZ⟩
 ·replace c4 := Bool.eq_false_iff.mpr c4
  subst c4
  replace H := IE H
  obtain rfl := Option.some.inj H
  go_enter Try.func25, Try.ntmps25
  go_wp2_with (first | ((with_reducible refine gate_dst (N := 2) rfl ?_); refine BX 2 30 #[.int .i64 a0_0, .int .i64 a0_1, .int .i64 a0_2] ?_; intro gb128 hg w24 hbox hb; have BK128 := Aside0.mk (hbox); have GW128 := (GS hg : Aside0 (w.heap.size ≤ gb128)); have GE128 := GW128; replace HB := BS HB hb; clear hb hbox hg) | ((with_reducible refine gate_dst (N := 3) rfl ?_); refine BX 3 43 #[.int .i64 a1_0, .int .i64 a1_1] ?_; intro gb129 hg w25 hbox hb; have BK129 := Aside0.mk (hbox); have GW129 := (GS hg : Aside0 (w.heap.size ≤ gb129)); have GE129 := GW129; have NB128_129 := NL BK128 hg; have NB129_128 := NG BK128 hg; replace BK128 := BB BK128 hb; replace HB := BS HB hb; clear hb hbox hg; have hnb26 := NB128_129.out; have hnc26 := NB129_128.out; obtain ⟨hcz27_0, hcz27_1, hcz27_2, hfz27_0, hfz27_1, hfz27_2⟩ := CZ3 BK128; obtain ⟨hcz28_0, hcz28_1, hfz28_0, hfz28_1⟩ := CZ2 BK129) | ((with_reducible refine GC 50 rfl ?_); refine GL 9 Try.func50 (impl_WalkerOk.calls a0_0 a0_1 a0_2 a1_0 a1_1 false _ A3.out) ?_; rintro e w29 ⟨rfl, hb⟩; refine ⟨_, rfl, ?_⟩; replace BK128 := BB BK128 hb; replace BK129 := BB BK129 hb; replace HB := BS HB hb; clear hb))
  go_ret
  exact ⟨RZ, BZ⟩


def impl_areTurns.f (l0 : List Int) (a1 : Int) : Option (Bool) := some (decide ((l0.length : Int) ≤ a1) && !l0.any (fun n => decide (n < 0) || decide (3 < n)))
set_option maxHeartbeats 400000 in
theorem areTurns_pred (x : Int) (W : World) : Calls Try.prog 74 #[.int .i64 x] W fun e w' => e = .returned (.bool (decide (x < 0) || decide (3 < x))) ∧ Below W.heap.size W w' := by
  by_cases h1 : x < 0
  · go_enter Try.func74, Try.ntmps74
    go_wp2
    go_ret
    exact ⟨by simp [h1], Below.refl _ _⟩
  · have hb : decide (x < 0) = false := decide_eq_false h1
    clear h1
    go_enter Try.func74, Try.ntmps74
    go_wp2
    go_ret
    exact ⟨by rw [hb]; rfl, Below.refl _ _⟩
set_option maxHeartbeats 1000000 in
theorem impl_areTurns.calls (A0 : Option Addr) (c0 : Nat) (l0 : List Int) (a1 : Int) (r : Bool) (w : World) (hr0 : Kd.C (Kd.int .i64) w A0 l0.length l0) (hc0 : l0.length ≤ c0) (h : impl_areTurns.f l0 a1 = some r) :
    Calls Try.prog 39 #[.slice A0 l0.length c0, .int .i64 a1] w fun e w' => e = .returned (.bool r) ∧ Below w.heap.size w w' := by
  have eg : ∀ args w, (callFunc 74 args).run Try.prog w = .ok (.enter 74 args) w := enters_of Try.func74 (by kernel_rfl) rfl
  have hcon := fun W (hb : Below w.heap.size w W) => Funcs.ContainsFunc_any (fun n => decide (n < 0) || decide (3 < n)) 74 #[] eg A0 c0 l0 W (fun W' x hb' => (areTurns_pred x W').mono fun e w' ⟨h1, h2⟩ => ⟨h1, hb'.trans (h2.mono hb'.size)⟩) (Kd.C_below hr0 hb)
  unfold impl_areTurns.f at h
  obtain rfl := Option.some.inj h
  clear h hr0
  by_cases h1 : (l0.length : Int) ≤ a1
  · generalize l0.any (fun n => decide (n < 0) || decide (3 < n)) = q at hcon ⊢
    go_enter Try.func39, Try.ntmps39
    go_wp2_with (go_at_call 73; refine (hcon _ (by first | exact Below.refl _ _ | (simp; exact Below.refl _ _))).mono ?_; rintro e w' ⟨rfl, hb'⟩)
    go_ret
    exact ⟨by simp [h1], hb'⟩
  · have h1b : decide ((l0.length : Int) ≤ a1) = false := decide_eq_false h1
    go_enter Try.func39, Try.ntmps39
    go_wp2
    go_ret
    exact ⟨by simp [h1], Below.refl _ _⟩


def impl_marked.f (k : Nat) (a0_0 : Int) (a0_1 : Int) (a0_2 : Int) (a1_0 : Int) (a1_1 : Int) (a2 : Int) : Option (Int × Int) := (impl_Step.f k a0_0 a0_1 a0_2 a1_0 a2).bind fun t135 => (some (t135, a2))
theorem impl_marked.mono : ∀ a0 a1 a2 a3 a4 a5 k, LeO (impl_marked.f k a0 a1 a2 a3 a4 a5) (impl_marked.f (k + 1) a0 a1 a2 a3 a4 a5) := by
 intro a0 a1 a2 a3 a4 a5 k
 unfold impl_marked.f
 repeat' first
   | (with_reducible exact impl_Step.mono _ _ _ _ _ _)
   | (with_reducible exact LeO.refl _)
   | (with_reducible exact LeO.none _)
   | (with_reducible refine LeO.ite ?_ ?_)
   | (with_reducible refine LeO.bind ?_ (fun _ => ?_))
   | exact impl_Step.mono _ _ _ _ _ _
   | exact LeO.none _
   | refine LeO.ite ?_ ?_
   | refine LeO.bind ?_ (fun _ => ?_)
set_option maxHeartbeats 8000000 in
set_option maxRecDepth 100000 in
theorem impl_marked.calls (k : Nat) (a0_0 : Int) (a0_1 : Int) (a0_2 : Int) (a1_0 : Int) (a1_1 : Int) (a2 : Int) (r1 : Int) (r2 : Int) (w : World) (h : impl_marked.f k a0_0 a0_1 a0_2 a1_0 a1_1 a2 = some (r1, r2)) :
  Calls Try.prog 75 #[.agg #[.int .i64 a0_0, .int .i64 a0_1, .int .i64 a0_2], .agg #[.int .i64 a1_0, .int .i64 a1_1], .int .i64 a2] w fun e w' => e = .returned (.agg #[.int .i64 r1, .int .i64 r2]) ∧ Below w.heap.size w w' := by
 have hu30 := Try.underlying30
 have hu43 := Try.underlying43
 have HB := Aside0.mk (Below.refl w.heap.size w)
 have H := h
 unfold impl_marked.f at H
 clear h
 obtain ⟨t135, A4, H⟩ := BD H
 simp only [Option.some.injEq, Prod.mk.injEq] at H
 obtain ⟨rfl, rfl⟩ := H
 go_enter Try.func75, Try.ntmps75
 go_wp2_with (first | ((with_reducible refine gate_dst (N := 3) rfl ?_); refine BX 3 30 #[.int .i64 a0_0, .int .i64 a0_1, .int .i64 a0_2] ?_; intro gb132 hg w5 hbox hb; have BK132 := Aside0.mk (hbox); have GW132 := (GS hg : Aside0 (w.heap.size ≤ gb132)); have GE132 := GW132; replace HB := BS HB hb; clear hb hbox hg) | ((with_reducible refine gate_dst (N := 4) rfl ?_); refine BX 4 43 #[.int .i64 a1_0, .int .i64 a1_1] ?_; intro gb133 hg w6 hbox hb; have BK133 := Aside0.mk (hbox); have GW133 := (GS hg : Aside0 (w.heap.size ≤ gb133)); have GE133 := GW133; have NB132_133 := NL BK132 hg; have NB133_132 := NG BK132 hg; replace BK132 := BB BK132 hb; replace HB := BS HB hb; clear hb hbox hg) | ((with_reducible refine gate_dst (N := 6) rfl ?_); refine BX 6 43 #[.int .i64 0, .int .i64 0] ?_; intro gb134 hg w7 hbox hb; have BK134 := Aside0.mk (hbox); have GW134 := (GS hg : Aside0 (w.heap.size ≤ gb134)); have GE134 := GW134; have NB132_134 := NL BK132 hg; have NB134_132 := NG BK132 hg; have NB133_134 := NL BK133 hg; have NB134_133 := NG BK133 hg; replace BK132 := BB BK132 hb; replace BK133 := BB BK133 hb; replace HB := BS HB hb; clear hb hbox hg; have hnb8 := NB132_133.out; have hnc8 := NB133_132.out; have hnb9 := NB132_134.out; have hnc9 := NB134_132.out; obtain ⟨hcz10_0, hcz10_1, hcz10_2, hfz10_0, hfz10_1, hfz10_2⟩ := CZ3 BK132; have hnb11 := NB133_134.out; have hnc11 := NB134_133.out; obtain ⟨hcz12_0, hcz12_1, hfz12_0, hfz12_1⟩ := CZ2 BK133) | ((with_reducible refine GC 56 rfl ?_); refine GL 11 Try.func56 (impl_Step.calls k a0_0 a0_1 a0_2 a1_0 a2 t135 _ A4.out) ?_; rintro e w13 ⟨rfl, hb⟩; refine ⟨_, rfl, ?_⟩; replace BK132 := BB BK132 hb; replace BK133 := BB BK133 hb; replace BK134 := BB BK134 hb; replace HB := BS HB hb; clear hb; obtain ⟨hcz14_0, hcz14_1, hfz14_0, hfz14_1⟩ := CZ2 BK134))
 refine bodyPost_ret (results_cell_row rfl _ _ gb134 43 #[.int .i64 t135, .int .i64 a2] (0, 0) _ rfl (PQ2 BK134) Try.underlying43 rfl (by kernel_rfl)) rfl ?_
 exact ⟨RZ, BZ⟩

def impl_went.f (k : Nat) (a0_0 : Int) (a0_1 : Int) (a0_2 : Int) (a1_0 : Int) (a1_1 : Int) (a2 : Int) : Option (Int × Int × Bool) := (impl_marked.f k a0_0 a0_1 a0_2 a1_0 a1_1 (Int.tmod (wrap64 (a1_1 + a2)) 4)).bind fun bt139 => (some (bt139.1, bt139.2, decide (bt139.1 ≥ 0)))
theorem impl_went.mono : ∀ a0 a1 a2 a3 a4 a5 k, LeO (impl_went.f k a0 a1 a2 a3 a4 a5) (impl_went.f (k + 1) a0 a1 a2 a3 a4 a5) := by
 intro a0 a1 a2 a3 a4 a5 k
 unfold impl_went.f
 repeat' first
   | (with_reducible exact impl_marked.mono _ _ _ _ _ _ _)
   | (with_reducible exact LeO.refl _)
   | (with_reducible exact LeO.none _)
   | (with_reducible refine LeO.ite ?_ ?_)
   | (with_reducible refine LeO.bind ?_ (fun _ => ?_))
   | exact impl_marked.mono _ _ _ _ _ _ _
   | exact LeO.none _
   | refine LeO.ite ?_ ?_
   | refine LeO.bind ?_ (fun _ => ?_)
set_option maxHeartbeats 8000000 in
set_option maxRecDepth 100000 in
theorem impl_went.calls (k : Nat) (a0_0 : Int) (a0_1 : Int) (a0_2 : Int) (a1_0 : Int) (a1_1 : Int) (a2 : Int) (r1 : Int) (r2 : Int) (r3 : Bool) (w : World) (h : impl_went.f k a0_0 a0_1 a0_2 a1_0 a1_1 a2 = some (r1, r2, r3)) :
  Calls Try.prog 41 #[.agg #[.int .i64 a0_0, .int .i64 a0_1, .int .i64 a0_2], .agg #[.int .i64 a1_0, .int .i64 a1_1], .int .i64 a2] w fun e w' => e = .returned (.tuple #[.agg #[.int .i64 r1, .int .i64 r2], .bool r3]) ∧ Below w.heap.size w w' := by
 have hu30 := Try.underlying30
 have hu43 := Try.underlying43
 have HB := Aside0.mk (Below.refl w.heap.size w)
 have H := h
 unfold impl_went.f at H
 clear h
 obtain ⟨⟨t139, t140⟩, A4, H⟩ := BD H
 dsimp only at H
 simp only [Option.some.injEq, Prod.mk.injEq] at H
 obtain ⟨rfl, rfl, rfl⟩ := H
 go_enter Try.func41, Try.ntmps41
 try go_wp2_with (first | ((with_reducible refine gate_dst (N := 3) rfl ?_); refine BX 3 30 #[.int .i64 a0_0, .int .i64 a0_1, .int .i64 a0_2] ?_; intro gb136 hg w5 hbox hb; have BK136 := Aside0.mk (hbox); have GW136 := (GS hg : Aside0 (w.heap.size ≤ gb136)); have GE136 := GW136; replace HB := BS HB hb; clear hb hbox hg) | ((with_reducible refine gate_dst (N := 4) rfl ?_); refine BX 4 43 #[.int .i64 a1_0, .int .i64 a1_1] ?_; intro gb137 hg w6 hbox hb; have BK137 := Aside0.mk (hbox); have GW137 := (GS hg : Aside0 (w.heap.size ≤ gb137)); have GE137 := GW137; have NB136_137 := NL BK136 hg; have NB137_136 := NG BK136 hg; replace BK136 := BB BK136 hb; replace HB := BS HB hb; clear hb hbox hg) | ((with_reducible refine gate_dst (N := 6) rfl ?_); refine BX 6 43 #[.int .i64 0, .int .i64 0] ?_; intro gb138 hg w7 hbox hb; have BK138 := Aside0.mk (hbox); have GW138 := (GS hg : Aside0 (w.heap.size ≤ gb138)); have GE138 := GW138; have NB136_138 := NL BK136 hg; have NB138_136 := NG BK136 hg; have NB137_138 := NL BK137 hg; have NB138_137 := NG BK137 hg; replace BK136 := BB BK136 hb; replace BK137 := BB BK137 hb; replace HB := BS HB hb; clear hb hbox hg; have hnb8 := NB136_137.out; have hnc8 := NB137_136.out; have hnb9 := NB136_138.out; have hnc9 := NB138_136.out; obtain ⟨hcz10_0, hcz10_1, hcz10_2, hfz10_0, hfz10_1, hfz10_2⟩ := CZ3 BK136; have hnb11 := NB137_138.out; have hnc11 := NB138_137.out; obtain ⟨hcz12_0, hcz12_1, hfz12_0, hfz12_1⟩ := CZ2 BK137) | ((with_reducible refine GC 75 rfl ?_); refine GL 16 Try.func75 (impl_marked.calls k a0_0 a0_1 a0_2 a1_0 a1_1 (Int.tmod (wrap64 (a1_1 + a2)) 4) t139 t140 _ A4.out) ?_; rintro e w13 ⟨rfl, hb⟩; refine ⟨_, rfl, ?_⟩; replace BK136 := BB BK136 hb; replace BK137 := BB BK137 hb; replace BK138 := BB BK138 hb; replace HB := BS HB hb; clear hb) | ((with_reducible refine gate_dst (N := 8) rfl ?_); refine BX 8 43 #[.int .i64 0, .int .i64 0] ?_; intro gb141 hg w14 hbox hb; have BK141 := Aside0.mk (hbox); have GW141 := (GS hg : Aside0 (w.heap.size ≤ gb141)); have GE141 := GW141; have NB136_141 := NL BK136 hg; have NB141_136 := NG BK136 hg; have NB137_141 := NL BK137 hg; have NB141_137 := NG BK137 hg; have NB138_141 := NL BK138 hg; have NB141_138 := NG BK138 hg; replace BK136 := BB BK136 hb; replace BK137 := BB BK137 hb; replace BK138 := BB BK138 hb; replace HB := BS HB hb; clear hb hbox hg; have hnb15 := NB141_136.out; have hnc15 := NB136_141.out; have hnb16 := NB141_137.out; have hnc16 := NB137_141.out; have hnb17 := NB141_138.out; have hnc17 := NB138_141.out; obtain ⟨hcz18_0, hcz18_1, hfz18_0, hfz18_1⟩ := CZ2 BK141))
 have n0_ : Aside0 ((S2W w14 gb141 (.int .i64 t139) (.int .i64 t140)).heap[gb136]? = some (.cells #[.int .i64 a0_0, .int .i64 a0_1, .int .i64 a0_2] 30 (0, 0))) := ⟨BF2 NB136_141 BK136⟩
 have n1_ : Aside0 ((S2W w14 gb141 (.int .i64 t139) (.int .i64 t140)).heap[gb137]? = some (.cells #[.int .i64 a1_0, .int .i64 a1_1] 43 (0, 0))) := ⟨BF2 NB137_141 BK137⟩
 have n2_ : Aside0 ((S2W w14 gb141 (.int .i64 t139) (.int .i64 t140)).heap[gb138]? = some (.cells #[.int .i64 0, .int .i64 0] 43 (0, 0))) := ⟨BF2 NB138_141 BK138⟩
 have n3_ : Aside0 ((S2W w14 gb141 (.int .i64 t139) (.int .i64 t140)).heap[gb141]? = some (.cells #[.int .i64 t139, .int .i64 t140] 43 (0, 0))) := ⟨PQ2 BK141⟩
 have n4_ : Aside0 (Below w.heap.size w (S2W w14 gb141 (.int .i64 t139) (.int .i64 t140))) := ⟨BZ⟩
 (try clear BK136)
 (try clear BK137)
 (try clear BK138)
 (try clear BK141)
 (try clear HB)
 (try dsimp only [S2W] at n0_ n1_ n2_ n3_ n4_); generalize ((w14.setCell ⟨gb141, 0, none⟩ (.int .i64 t139)).setCell ⟨gb141, 1, none⟩ (.int .i64 t140)) = w19 at n0_ n1_ n2_ n3_ n4_ ⊢
 have BK136 := n0_
 have BK137 := n1_
 have BK138 := n2_
 have BK141 := n3_
 have HB := n4_
 clear n0_ n1_ n2_ n3_ n4_
 replace BK136 := Aside0.mk (blk_drew BK136.out)
 replace BK137 := Aside0.mk (blk_drew BK137.out)
 replace BK138 := Aside0.mk (blk_drew BK138.out)
 replace BK141 := Aside0.mk (blk_drew BK141.out)
 replace HB := Aside0.mk (below_drew1 HB.out)
 refine SU 6 (fun w' => w'.cell? ⟨gb141, 0, none⟩ = some (.int .i64 t139) ∧ w'.cell? ⟨gb141, 1, none⟩ = some (.int .i64 t140)) [] ⟨CE BK141 0, CE BK141 1⟩ (fun hHeld => ?_)
 generalize w19.drew = w20 at BK136 BK137 BK138 BK141 HB hHeld ⊢
 refine PV 1 18 ?_
 refine TV 0 17 hHeld ?_
 refine TV 2 19 hHeld ?_
 refine PV 3 20 ?_
 refine one_ (i := 4) (N := none) #[true, true, true, true, true, false] rfl rfl (by kernel_rfl) (by decide) (fun K hK => ?_)
 have hs21 : w20.cell? ⟨gb138, 0, none⟩ = some (.int .i64 0) := CE BK138 0
 have hfs21 := blk_frozen BK138.out 0
 have hns21_0 := NB136_138.out
 have hns21_1 := NB137_138.out
 have hns21_3 := NB141_138.out
 have hms21_0 := NB138_136.out
 have hms21_1 := NB138_137.out
 have hms21_3 := NB138_141.out
 have hs22 : w20.cell? ⟨gb138, 1, none⟩ = some (.int .i64 0) := CE BK138 1
 have hfs22 := blk_frozen BK138.out 1
 have hns22_0 := NB136_138.out
 have hns22_1 := NB137_138.out
 have hns22_3 := NB141_138.out
 have hms22_0 := NB138_136.out
 have hms22_1 := NB138_137.out
 have hms22_3 := NB138_141.out
 refine skip_ (w1 := ?_) (by rfl) rfl ?_ ?_
 rotate_left
 ·go_simp
  rfl
 refine hK.out _ _ ⟨(CF2 NB141_138.out (hHeld.1)), (CF2 NB141_138.out (hHeld.2))⟩ (fun hHeld => ?_)
 clear hK K
 refine PV 5 7 ?_
 refine done_ (by kernel_rfl) ?_
 try go_wp2
 refine bodyPost_ret (results_ct rfl _ _ gb138 43 #[.int .i64 t139, .int .i64 t140] (0, 0) _ rfl (PQ2 BK138) Try.underlying43 rfl (by kernel_rfl)) rfl ?_
 exact ⟨RZ, BZ⟩

def slices_Index_impl_Walker_impl_Walker.l0 : Nat → List (S43) → Int → Int → Int → Int → Option (Int)
 | 0, _, _, _, _, _ => none
 | k + 1, x0, x7, x8, x143000, x143001 => if x8 < x7 then (if 0 ≤ x8 then (if x8 < (x0.length : Int) then (if (x143000 == ((rd_T43 x0 x8).f0) && (x143001 == ((rd_T43 x0 x8).f1))) = true then (some x8) else (slices_Index_impl_Walker_impl_Walker.l0 k x0 x7 (wrap64 (x8 + 1)) x143000 x143001)) else (none)) else (none)) else (some (-1))
def slices_Index_impl_Walker_impl_Walker.f (k : Nat) (l0 : List (S43)) (a1_0 : Int) (a1_1 : Int) : Option (Int) := slices_Index_impl_Walker_impl_Walker.l0 k l0 (l0.length : Int) 0 a1_0 a1_1
set_option maxHeartbeats 8000000 in
set_option maxRecDepth 100000 in
theorem slices_Index_impl_Walker_impl_Walker.calls (k : Nat) (A0 : Option Addr) (c0 : Nat) (l0 : List (S43)) (a1_0 : Int) (a1_1 : Int) (r : Int) (w : World) (hr0 : Kd.C k43 w A0 l0.length l0) (hc0 : l0.length ≤ c0) (h : slices_Index_impl_Walker_impl_Walker.f k l0 a1_0 a1_1 = some r) :
  Calls Try.prog 76 #[.slice A0 l0.length c0, .agg #[.int .i64 a1_0, .int .i64 a1_1]] w fun e w' => e = .returned (.int .i64 r) ∧ Below w.heap.size w w' := by
 have hu43 := Try.underlying43
 have HR0 := Aside0.mk hr0
 have HC0 := Aside0.mk hc0
 clear hr0 hc0
 have HB := Aside0.mk (Below.refl w.heap.size w)
 have H := h
 unfold slices_Index_impl_Walker_impl_Walker.f at H
 clear h
 have H' := Aside0.mk H
 clear H
 go_enter Try.func76, Try.ntmps76
 go_wp2_with (first | ((with_reducible refine gate_dst (N := 3) rfl ?_); refine BX 3 43 #[.int .i64 a1_0, .int .i64 a1_1] ?_; intro gb142 hg w3 hbox hb; have BK142 := Aside0.mk (hbox); have GW142 := (GS hg : Aside0 (w.heap.size ≤ gb142)); have GE142 := GW142; replace HB := BS HB hb; clear hb hbox hg))
 repeat (go_quiet (first | ((with_reducible refine gate_dst (N := 3) rfl ?_); refine BX 3 43 #[.int .i64 a1_0, .int .i64 a1_1] ?_; intro gb142 hg w3 hbox hb; have BK142 := Aside0.mk (hbox); have GW142 := (GS hg : Aside0 (w.heap.size ≤ gb142)); have GE142 := GW142; replace HB := BS HB hb; clear hb hbox hg)); try go_wp2_with (first | ((with_reducible refine gate_dst (N := 3) rfl ?_); refine BX 3 43 #[.int .i64 a1_0, .int .i64 a1_1] ?_; intro gb142 hg w3 hbox hb; have BK142 := Aside0.mk (hbox); have GW142 := (GS hg : Aside0 (w.heap.size ≤ gb142)); have GE142 := GW142; replace HB := BS HB hb; clear hb hbox hg)))
 go_loopg [8] k (fun kq v8 w' => ∃ (x8_1 : Int), v8 = .int .i64 x8_1 ∧ Aside0 (slices_Index_impl_Walker_impl_Walker.l0 kq l0 (l0.length : Int) x8_1 a1_0 a1_1 = some r) ∧ Aside0 (kq ≤ k) ∧ Aside0 (w'.heap[gb142]? = some (.cells #[.int .i64 a1_0, .int .i64 a1_1] 43 (0, 0))) ∧ Aside0 (Below w.heap.size w w'))
 case atStart => exact ⟨(0), VZ, H', ⟨Nat.le_refl _⟩, ⟨BKZ⟩, ⟨BZ⟩⟩
 case round =>
  clear H'
  try clear p2
  obtain ⟨x8_1, rfl, HA, HK1, BK142, HB⟩ := hrel
  cases gk with
  | zero => exact absurd HA.out (by simp [slices_Index_impl_Walker_impl_Walker.l0])
  | succ k1 =>
   have H := HA.out
   clear HA
   simp only [slices_Index_impl_Walker_impl_Walker.l0] at H
   by_cases c4 : x8_1 < (l0.length : Int)
   ·rw [if_pos c4] at H
    have c4b0 := decide_eq_true c4
    clear c4
    by_cases c5 : 0 ≤ x8_1
    ·rw [if_pos c5] at H
     have c5b0 := decide_eq_true c5
     clear c5
     by_cases c6 : x8_1 < (l0.length : Int)
     ·rw [if_pos c6] at H
      have c6b0 := decide_eq_true c6
      clear c6
      by_cases c7 : (a1_0 == ((rd_T43 l0 x8_1).f0) && (a1_1 == ((rd_T43 l0 x8_1).f1))) = true
      ·rw [if_pos c7] at H
       have c7b0 : (a1_0 == ((rd_T43 l0 x8_1).f0) && (a1_1 == ((rd_T43 l0 x8_1).f1))) = true := c7
       (try (have c7b1 : decide (a1_0 = ((rd_T43 l0 x8_1).f0) && (a1_1 == ((rd_T43 l0 x8_1).f1))) = true := by simpa using c7))
       (try (have c7b2 : (a1_0 == ((rd_T43 l0 x8_1).f0) && (a1_1 == ((rd_T43 l0 x8_1).f1))) = true := by simpa using c7))
       clear c7
       obtain rfl := Option.some.inj H
       obtain ⟨hcz8_0, hcz8_1, hfz8_0, hfz8_1⟩ := CZ2 BK142
       have p143 : 0 ≤ (x8_1 : Int) := of_decide_eq_true PZ
       have q143 : x8_1 < (l0.length : Int) := of_decide_eq_true PZ
       obtain ⟨ad143, e143, hx143_0, hx143_1⟩ := at_T43 HR0.out x8_1 p143 q143
       cases e143
       (try replace hx143_0 := (HB.out.cell (World.block_lt_of_cell? w _ hx143_0)).trans hx143_0)
       (try replace hx143_1 := (HB.out.cell (World.block_lt_of_cell? w _ hx143_1)).trans hx143_1)
       replace p143 := eq_true p143
       replace q143 := eq_true q143
       go_wp2
       repeat (go_quiet (fail); try go_wp2)
       go_ret
       exact ⟨RZ, BZ⟩
      ·rw [if_neg c7] at H
       have c7b0 : (a1_0 == ((rd_T43 l0 x8_1).f0) && (a1_1 == ((rd_T43 l0 x8_1).f1))) = false := by simpa using c7
       (try (have c7b1 : decide (a1_0 = ((rd_T43 l0 x8_1).f0) && (a1_1 == ((rd_T43 l0 x8_1).f1))) = false := by simpa using c7))
       (try (have c7b2 : (a1_0 == ((rd_T43 l0 x8_1).f0) && (a1_1 == ((rd_T43 l0 x8_1).f1))) = false := by simpa using c7))
       (try (have c7b3 : ¬ (a1_0 = ((rd_T43 l0 x8_1).f0) && (a1_1 == ((rd_T43 l0 x8_1).f1))) := by simpa using c7))
       clear c7
       have H' := Aside0.mk H
       clear H
       obtain ⟨hcz9_0, hcz9_1, hfz9_0, hfz9_1⟩ := CZ2 BK142
       have p143 : 0 ≤ (x8_1 : Int) := of_decide_eq_true PZ
       have q143 : x8_1 < (l0.length : Int) := of_decide_eq_true PZ
       obtain ⟨ad143, e143, hx143_0, hx143_1⟩ := at_T43 HR0.out x8_1 p143 q143
       cases e143
       (try replace hx143_0 := (HB.out.cell (World.block_lt_of_cell? w _ hx143_0)).trans hx143_0)
       (try replace hx143_1 := (HB.out.cell (World.block_lt_of_cell? w _ hx143_1)).trans hx143_1)
       replace p143 := eq_true p143
       replace q143 := eq_true q143
       go_wp2
       repeat (go_quiet (fail); try go_wp2)
       go_roundg k1
       case measure => have := HK1.out; omega
       case rel => exact ⟨(wrap64 (x8_1 + 1)), VZ, H', ⟨by have := HK1.out; omega⟩, ⟨BKZ⟩, ⟨BZ⟩⟩
     ·exact absurd (of_decide_eq_true c4b0) c6
    ·rw [if_neg c5] at H
     exact absurd H (by simp)
   ·rw [if_neg c4] at H
    have c4b0 := decide_eq_false c4
    clear c4
    obtain rfl := Option.some.inj H
    go_wp2
    repeat (go_quiet (fail); try go_wp2)
    go_ret
    exact ⟨RZ, BZ⟩

def slices_Contains_impl_Walker_impl_Walker.f (k : Nat) (l0 : List (S43)) (a1_0 : Int) (a1_1 : Int) : Option (Bool) := (slices_Index_impl_Walker_impl_Walker.f k l0 a1_0 a1_1).bind fun t145 => (some (decide (t145 ≥ 0)))
set_option maxHeartbeats 8000000 in
set_option maxRecDepth 100000 in
theorem slices_Contains_impl_Walker_impl_Walker.calls (k : Nat) (A0 : Option Addr) (c0 : Nat) (l0 : List (S43)) (a1_0 : Int) (a1_1 : Int) (r : Bool) (w : World) (hr0 : Kd.C k43 w A0 l0.length l0) (hc0 : l0.length ≤ c0) (h : slices_Contains_impl_Walker_impl_Walker.f k l0 a1_0 a1_1 = some r) :
  Calls Try.prog 42 #[.slice A0 l0.length c0, .agg #[.int .i64 a1_0, .int .i64 a1_1]] w fun e w' => e = .returned (.bool r) ∧ Below w.heap.size w w' := by
 have hu43 := Try.underlying43
 have HR0 := Aside0.mk hr0
 have HC0 := Aside0.mk hc0
 clear hr0 hc0
 have HB := Aside0.mk (Below.refl w.heap.size w)
 have H := h
 unfold slices_Contains_impl_Walker_impl_Walker.f at H
 clear h
 obtain ⟨t145, A3, H⟩ := BD H
 obtain rfl := Option.some.inj H
 go_enter Try.func42, Try.ntmps42
 go_wp2_with (first | ((with_reducible refine gate_dst (N := 3) rfl ?_); refine BX 3 43 #[.int .i64 a1_0, .int .i64 a1_1] ?_; intro gb144 hg w4 hbox hb; have BK144 := Aside0.mk (hbox); have GW144 := (GS hg : Aside0 (w.heap.size ≤ gb144)); have GE144 := GW144; replace HB := BS HB hb; clear hb hbox hg; obtain ⟨hcz5_0, hcz5_1, hfz5_0, hfz5_1⟩ := CZ2 BK144) | ((with_reducible refine GC 76 rfl ?_); refine GL 7 Try.func76 (slices_Index_impl_Walker_impl_Walker.calls k _ _ l0 a1_0 a1_1 t145 _ (CB HR0) HC0.out A3.out) ?_; rintro e w6 ⟨rfl, hb⟩; refine ⟨_, rfl, ?_⟩; replace BK144 := BB BK144 hb; replace HB := BS HB hb; clear hb))
 go_ret
 exact ⟨RZ, BZ⟩


def wkOk (x : S43) : Prop := -1000000 ≤ x.f0 ∧ x.f0 ≤ 1000000 ∧ 0 ≤ x.f1 ∧ x.f1 < 4
instance (x : S43) : Decidable (wkOk x) := inferInstanceAs (Decidable (_ ∧ _))
def wkKey (x : S43) : Int := 4 * x.f0 + x.f1
/-- Walkers of small numbers, sorted: no two of them have the same key unless they are one. -/
def slices_SortFunc_impl_Walker_impl_Walker.f (l0 : List (S43)) (a1 : Unit) : Option (List (S43)) := if (∀ x ∈ l0, wkOk x) ∧ l0.length ≤ 1000000 then some (l0.mergeSort fun x y => decide (wkKey x ≤ wkKey y)) else none
abbrev WkS := { x : S43 // wkOk x }
instance : Inhabited WkS := ⟨⟨⟨0, 0⟩, by decide⟩⟩
def wkEnc (x : S43) : List Value := [.int .i64 x.f0, .int .i64 x.f1]
def wkCmp (x y : WkS) : Int := wkKey x.1 - wkKey y.1
set_option maxHeartbeats 1000000 in
theorem wkClosure (x y : WkS) (W : World) : Calls Try.prog 44 #[.agg #[.int .i64 x.1.f0, .int .i64 x.1.f1], .agg #[.int .i64 y.1.f0, .int .i64 y.1.f1]] W fun e w' => e = .returned (.int .i64 (wkCmp x y)) ∧ ∃ q os', w' = Sort.grow (W.drewN q) os' := by
  obtain ⟨⟨a, b⟩, h1, h2, h3, h4⟩ := x
  obtain ⟨⟨c, d⟩, h5, h6, h7, h8⟩ := y
  simp only at h1 h2 h3 h4 h5 h6 h7 h8
  have e : wrap64 (wrap64 (wrap64 (4 * wrap64 (a - c)) + b) - d) = wkCmp ⟨⟨a, b⟩, h1, h2, h3, h4⟩ ⟨⟨c, d⟩, h5, h6, h7, h8⟩ := by
    unfold wkCmp wkKey wrap64
    simp only
    omega
  show Calls Try.prog 44 #[.agg #[.int .i64 a, .int .i64 b], .agg #[.int .i64 c, .int .i64 d]] W fun e w' => e = .returned (.int .i64 (wkCmp ⟨⟨a, b⟩, h1, h2, h3, h4⟩ ⟨⟨c, d⟩, h5, h6, h7, h8⟩)) ∧ ∃ q os', w' = Sort.grow (W.drewN q) os'
  generalize wkCmp ⟨⟨a, b⟩, h1, h2, h3, h4⟩ ⟨⟨c, d⟩, h5, h6, h7, h8⟩ = r at e ⊢
  subst e
  clear h1 h2 h3 h4 h5 h6 h7 h8
  go_enter Try.func44, Try.ntmps44
  go_wp2
  go_ret
  exact ⟨rfl, 0, _, by rw [Sort.alloc_eq_grow, Sort.alloc_eq_grow, Sort.grow_grow]; rfl⟩
theorem wkLt (x y : WkS) : ltOf wkCmp x y = decide (wkKey x.1 < wkKey y.1) := by
  unfold ltOf wkCmp
  by_cases h : wkKey x.1 < wkKey y.1
  · simp [h]; omega
  · simp [h]; omega
theorem wkSwo : Sort.SWO (ltOf wkCmp) where
  irrefl x := by rw [wkLt]; simp
  trans x y z h1 h2 := by rw [wkLt] at *; simp at *; omega
  ntrans x y z h1 h2 := by rw [wkLt] at *; simp at *; omega
theorem wkTot (x y : WkS) (h1 : ltOf wkCmp x y = false) (h2 : ltOf wkCmp y x = false) : x = y := by
  rw [wkLt] at h1 h2
  simp at h1 h2
  obtain ⟨⟨a, b⟩, _, _, h3, h4⟩ := x
  obtain ⟨⟨c, d⟩, _, _, h7, h8⟩ := y
  simp only [wkKey] at h1 h2 h3 h4 h7 h8
  have e1 : a = c := by omega
  have e2 : b = d := by omega
  subst e1; subst e2; rfl
set_option maxHeartbeats 4000000 in
theorem slices_SortFunc_impl_Walker_impl_Walker.calls (P0_ : Nat → Prop) (u9000_ : Value) (l0 : List (S43)) (a1 : Unit) (r : List (S43)) (w0 w : World) (hB : Below w0.heap.size w0 w) (ho0 : Kd.R k43 43 w w0.heap.size P0_ u9000_ l0) (h : slices_SortFunc_impl_Walker_impl_Walker.f l0 a1 = some r) :
    Calls Try.prog 43 #[u9000_, .func (.func 44) #[] #[]] w fun e w' => e = .returned (.tuple #[]) ∧ Kd.R k43 43 w' w0.heap.size (fun k_ => (P0_ k_ ∨ w.heap.size ≤ k_)) u9000_ r ∧ Below w0.heap.size w0 w' ∧ Kept w w' (fun k_ => P0_ k_) := by
  unfold slices_SortFunc_impl_Walker_impl_Walker.f at h
  split at h
  case isFalse => cases h
  case isTrue hq =>
  obtain ⟨hall, hlen⟩ := hq
  obtain rfl := Option.some.inj h
  clear h
  obtain ⟨A, c, rfl⟩ := Kd.R_slice ho0
  have h2 := ho0.2
  obtain ⟨inner, ho, hr⟩ := h2
  rcases ho.2 with ⟨q, hn⟩ | ⟨g, cap, cur, q, hb, hg, hn, hm, hs, ht⟩
  · have hl : l0 = [] := List.length_eq_zero_iff.1 hn
    subst hl
    simp only [Value.slice.injEq] at q
    obtain ⟨rfl, -, rfl⟩ := q
    exact (AnyF.slices_SortFunc_none (P := Try.prog) (ρ := Try.sortW_ren) Try.sortW none 0 _ w).mono fun e w' ⟨h1, h2⟩ => by
      subst h2
      exact ⟨h1, by simpa using Kd.R_mono ho0 (fun k hk => Or.inl hk), hB, Kept.refl _ _⟩
  · simp only [Value.slice.injEq] at q
    obtain ⟨rfl, -, rfl⟩ := q
    obtain ⟨-, hbg, hgl, hok, hmx⟩ := Row.R_row ho0
    obtain ⟨d, rfl⟩ : ∃ d : Array WkS, d.toList.map (·.1) = l0 := ⟨(l0.attach.map fun x => ⟨x.1, hall x.1 x.2⟩).toArray, by simp⟩
    have hd : (d.toList.map (·.1)).length = d.size := by simp
    have hM1 : ∀ {w base ok x c}, k43.M w base ok x c → c = wkEnc x := fun h => k43_openM h
    have hM2 : ∀ {w base ok x}, k43.M w base ok x (wkEnc x) := fun {w base ok x} => k43_mkM w base ok x
    have hH := Row.R_holds (val := fun x : WkS => x.1) (enc := wkEnc) (fun _ => rfl) (by decide : 0 < 2) hM1 ho0
    have eg : ∀ args w, (callFunc 44 args).run Try.prog w = .ok (.enter 44 args) w := enters_of Try.func44 (by kernel_rfl) rfl
    have hcon := AnyQ.slices_SortFunc_total (P := Try.prog) (ρ := Try.sortW_ren) Try.sortW 2 Try.isAgg43 Try.sizeOf43 (fun x : WkS => wkEnc x.1) (fun _ => rfl) (fun x v hv => by simp [wkEnc] at hv; rcases hv with rfl | rfl <;> rfl) wkCmp wkSwo 44 #[] g 0 c d w eg (fun _ _ _ _ x y => wkClosure x y _) hH hgl (by rw [← hd]; omega) wkTot
    rw [← hd] at hcon
    refine hcon.mono ?_
    rintro e w' ⟨rfl, m, os, rfl⟩
    have hR := Row.R_sorted (val := fun x : WkS => x.1) (enc := wkEnc) (m := m) (os := os) (dk := (d.toList.mergeSort fun x y => !(ltOf wkCmp) y x).toArray) (fun _ => rfl) (by decide : 0 < 2) hM2 ho0 (by simp)
    refine ⟨rfl, ?_, Row.below_sorted hB hbg hgl, Row.kept_sorted hok⟩
    have e1 : (d.toList.mergeSort fun x y => !(ltOf wkCmp) y x).toArray.toList.map (fun x : WkS => x.1) = (d.toList.map (·.1)).mergeSort fun x y => decide (wkKey x ≤ wkKey y) := by
      simp only
      refine List.map_mergeSort (fun a _ b _ => ?_)
      rw [wkLt]
      by_cases hh : wkKey b.1 < wkKey a.1
      · simp [hh]
      · simp [hh]; omega
    rw [e1] at hR
    exact Kd.R_mono hR (fun k hk => Or.inl hk)


end Go.Proofs.Ytfpomjnhgcmgoaa.P

