/- Proved here: calls of functions of the program answer as the plain functions beside them say. Conditions: each theorem names its own. Written by a program of this session (hprint.py) out of the translation. -/
import Derived.Test.YtfpomjnhgcmgoaaQcPLcdx0
import Derived.Test.YtfpomjnhgcmgoaaQcPLcdx4
import Derived.Test.YtfpomjnhgcmgoaaQcPLcdx5
import Derived.Test.YtfpomjnhgcmgoaaQcPLcdx6
namespace Go.Proofs.Ytfpomjnhgcmgoaa.P
open Go.RowKit Go.Proofs.YtfpomjnhgcmgoaaW.PrintWords Go.Proofs.YtfpomjnhgcmgoaaW.PrintLast Go.Proofs.YtfpomjnhgcmgoaaW.PrintMore
attribute [local go_sem] max2_int min2_int max_two min_two max_three min_three max_four min_four   -- for this text's walks alone
set_option linter.unusedVariables false
set_option linter.unusedSimpArgs false

mutual
def spec_l03Maze.j0 : Nat → Int → Bool → List Int → Int → Int → Int → Int → Int → Option (Int × Int × Int × Int × Int)
 | 0, _, _, _, _, _, _, _, _ => none
 | k + 1, x5, x19, x1000, x1001, x1002, x254000, x254001, x254002 => if x19 = true then ((spec_l01Below.f x1000 x1001 x1002 4).bind fun bt258 => (spec_l03Maze.l0 k x5 bt258.1 x1000 bt258.2.1 bt258.2.2 x254000 x254001 x254002)) else (some (x254000, x254001, x254002, x1001, x1002))
def spec_l03Maze.l0 : Nat → Int → Int → List Int → Int → Int → Int → Int → Int → Option (Int × Int × Int × Int × Int)
 | 0, _, _, _, _, _, _, _, _ => none
 | k + 1, x5, x6, x1000, x1001, x1002, x254000, x254001, x254002 => if x6 ≥ 0 then ((spec_l01Below.f x1000 x1001 x1002 x5).bind fun bt261 => (if 0 ≤ bt261.1 then (spec_l03Maze.l0 k x5 (wrap64 (x6 - 1)) x1000 bt261.2.1 bt261.2.2 x254000 x254001 (Go.bits .xor .i64 x254002 (shl .i64 1 bt261.1))) else (none))) else (some (x254000, x254001, x254002, x1001, x1002))
end
def spec_l03Maze.f (k : Nat) (s0_0 : List Int) (s0_1 : Int) (s0_2 : Int) : Option (Int × Int × Int × Int × Int) := (spec_l02Grid.f s0_0 s0_1 s0_2).bind fun bt243 => ((spec_l03Tree.f k s0_0 bt243.2.2.1 bt243.2.2.2 bt243.1 bt243.2.1).bind fun bt248 => ((spec_CountGaps.f bt243.1 bt243.2.1).bind fun t254 => (if t254 > 0 then ((spec_l01Once.f s0_0 bt248.2.2.2.1 bt248.2.2.2.2 2).bind fun bt255 => (spec_l03Maze.j0 k t254 bt255.1 s0_0 bt255.2.1 bt255.2.2 bt248.1 bt248.2.1 bt248.2.2.1)) else (spec_l03Maze.j0 k t254 false s0_0 bt248.2.2.2.1 bt248.2.2.2.2 bt248.1 bt248.2.1 bt248.2.2.1))))
theorem spec_l03Maze.mono_l : ∀ k, (∀ y0 y1 y2 y3 y4 y5 y6 y7, LeO (spec_l03Maze.j0 k y0 y1 y2 y3 y4 y5 y6 y7) (spec_l03Maze.j0 (k + 1) y0 y1 y2 y3 y4 y5 y6 y7)) ∧ (∀ y0 y1 y2 y3 y4 y5 y6 y7, LeO (spec_l03Maze.l0 k y0 y1 y2 y3 y4 y5 y6 y7) (spec_l03Maze.l0 (k + 1) y0 y1 y2 y3 y4 y5 y6 y7))
 | 0 => ⟨fun _ _ _ _ _ _ _ _ r h => by simp [spec_l03Maze.j0] at h, fun _ _ _ _ _ _ _ _ r h => by simp [spec_l03Maze.l0] at h⟩
 | k + 1 => by
  obtain ⟨ih0, ih1⟩ := spec_l03Maze.mono_l k
  refine ⟨?_, ?_⟩
  ·intro y0 y1 y2 y3 y4 y5 y6 y7
   unfold spec_l03Maze.j0
   repeat' first
   | (with_reducible exact ih0 _ _ _ _ _ _ _ _)
   | (with_reducible exact ih1 _ _ _ _ _ _ _ _)
   | (with_reducible exact spec_l03Tree.mono _ _ _ _ _ _)
   | (with_reducible exact LeO.refl _)
   | (with_reducible exact LeO.none _)
   | (with_reducible refine LeO.ite ?_ ?_)
   | (with_reducible refine LeO.bind ?_ (fun _ => ?_))
   | exact ih0 _ _ _ _ _ _ _ _
   | exact ih1 _ _ _ _ _ _ _ _
   | exact spec_l03Tree.mono _ _ _ _ _ _
   | exact LeO.none _
   | refine LeO.ite ?_ ?_
   | refine LeO.bind ?_ (fun _ => ?_)
  ·intro y0 y1 y2 y3 y4 y5 y6 y7
   unfold spec_l03Maze.l0
   repeat' first
   | (with_reducible exact ih0 _ _ _ _ _ _ _ _)
   | (with_reducible exact ih1 _ _ _ _ _ _ _ _)
   | (with_reducible exact spec_l03Tree.mono _ _ _ _ _ _)
   | (with_reducible exact LeO.refl _)
   | (with_reducible exact LeO.none _)
   | (with_reducible refine LeO.ite ?_ ?_)
   | (with_reducible refine LeO.bind ?_ (fun _ => ?_))
   | exact ih0 _ _ _ _ _ _ _ _
   | exact ih1 _ _ _ _ _ _ _ _
   | exact spec_l03Tree.mono _ _ _ _ _ _
   | exact LeO.none _
   | refine LeO.ite ?_ ?_
   | refine LeO.bind ?_ (fun _ => ?_)
theorem spec_l03Maze.mono : ∀ a0 a1 a2 k, LeO (spec_l03Maze.f k a0 a1 a2) (spec_l03Maze.f (k + 1) a0 a1 a2) := by
 intro a0 a1 a2 k
 obtain ⟨ih0, ih1⟩ := spec_l03Maze.mono_l k
 unfold spec_l03Maze.f
 repeat' first
   | (with_reducible exact ih0 _ _ _ _ _ _ _ _)
   | (with_reducible exact ih1 _ _ _ _ _ _ _ _)
   | (with_reducible exact spec_l03Tree.mono _ _ _ _ _ _)
   | (with_reducible exact LeO.refl _)
   | (with_reducible exact LeO.none _)
   | (with_reducible refine LeO.ite ?_ ?_)
   | (with_reducible refine LeO.bind ?_ (fun _ => ?_))
   | exact ih0 _ _ _ _ _ _ _ _
   | exact ih1 _ _ _ _ _ _ _ _
   | exact spec_l03Tree.mono _ _ _ _ _ _
   | exact LeO.none _
   | refine LeO.ite ?_ ?_
   | refine LeO.bind ?_ (fun _ => ?_)
def spec_l03Maze.T8 : Bool × List (List Nat × List Nat) := (true, [([], []), ([0], [0]), ([], []), ([], []), ([2, 3], [2, 3]), ([4], [4]), ([1, 5], [1, 5]), ([0, 1, 2, 3, 4, 5, 6], []), ([7, 6, 4, 0, 1, 2, 3, 4, 5, 6], [6, 7])])
def spec_l03Maze.B8 : List Nat := [0, 1, 0, 0, 12, 28, 63, 127, 255]
theorem spec_l03Maze.tab8 : rtab .any (opsOf Try.f47 8) = spec_l03Maze.T8 := by kernel_rfl
theorem spec_l03Maze.bits8 : waitsOk spec_l03Maze.T8.2 spec_l03Maze.B8 = true := by kernel_rfl
set_option maxHeartbeats 8000000 in
set_option maxRecDepth 100000 in
theorem spec_l03Maze.calls (k : Nat) (g : Nat) (s0_0 : List Int) (s0_1 : Int) (s0_2 : Int) (r1 : Int) (r2 : Int) (r3 : Int) (r4 : Int) (r5 : Int) (w0 w : World) (hI : IsS94 w0 w g s0_0 s0_1 s0_2) (hB : Below w0.heap.size w0 w) (h : spec_l03Maze.f k s0_0 s0_1 s0_2 = some (r1, r2, r3, r4, r5)) :
  Calls Try.prog 47 #[.pointer (some ⟨g, 0, none⟩)] w fun e w' => e = .returned (.agg #[.int .i64 r1, .int .i64 r2, .int .i64 r3]) ∧ IsS94 w0 w' g s0_0 r4 r5 ∧ Below w0.heap.size w0 w' ∧ KeepBut w w' g none := by
 have hu30 := Try.underlying30
 have hu28 := Try.underlying28
 have HI0 := Aside0.mk hI
 have HK := Aside0.mk (KeepBut.refl w g none)
 have HL := Aside0.mk hB.size
 clear hI
 have HW0 := Aside0.mk hB.size
 have HB := Aside0.mk hB
 clear hB
 have H := h
 unfold spec_l03Maze.f at H
 clear h
 obtain ⟨⟨t243, t244, t245, t246⟩, A2, H⟩ := BD H
 dsimp only at H
 obtain ⟨⟨t248, t249, t250, t251, t252⟩, A3, H⟩ := BD H
 dsimp only at H
 obtain ⟨t254, A4, H⟩ := BD H
 have HC5 := Aside0.mk H
 clear H
 go_enter Try.func47, Try.ntmps47
 go_upto_region 4 with (first | ((with_reducible refine gate_dst (N := 2) rfl ?_); refine BX 2 30 #[.int .i64 0, .int .i64 0, .int .i64 0] ?_; intro gb242 hg w6 hbox hb; have n0_ := Aside0.mk (IsS94.below (by repeat (first | (with_reducible first | exact HI0.out | apply IsS94.alloc | apply IsS94.drewN | apply IsS94.drew | apply IsS94.set_1 | apply IsS94.set_2) | exact HI0.out)) hb); have n1_ := Aside0.mk (KeepBut.trans (by repeat (first | (with_reducible first | exact HK.out | apply KeepBut.set_ | apply keep_drewN | apply keep_drew | apply keep_alloc) | exact HK.out)) (KeepBut.of_below hb g none) (.inl rfl)); have n2_ := Aside0.mk (below_step (by repeat (first | (with_reducible first | exact HB.out | apply below_alloc | apply pw_below_drewN | apply below_drew1 | refine below_set ?_ (IsS94.ge HI0.out)) | exact HB.out)) hb); have n3_ := Aside0.mk (hbox); have n4_ := Aside0.mk ((by rw [hg]; exact (keep_size (w := w) (g := g) (row := none) (by repeat (first | (with_reducible first | exact HK.out | apply KeepBut.set_ | apply keep_drewN | apply keep_drew | apply keep_alloc) | exact HK.out))) : w.heap.size ≤ gb242)); have n5_ := Aside0.mk ((Nat.le_trans HW0.out (by rw [hg]; exact (keep_size (w := w) (g := g) (row := none) (by repeat (first | (with_reducible first | exact HK.out | apply KeepBut.set_ | apply keep_drewN | apply keep_drew | apply keep_alloc) | exact HK.out))) : w.heap.size ≤ gb242) : w0.heap.size ≤ gb242)); have n6_ := Aside0.mk ((by rw [hg]; exact Nat.ne_of_lt (IsS94.lt (show IsS94 w0 _ g s0_0 s0_1 s0_2 from by repeat (first | (with_reducible first | exact HI0.out | apply IsS94.alloc | apply IsS94.drewN | apply IsS94.drew | apply IsS94.set_1 | apply IsS94.set_2) | exact HI0.out))) : g ≠ gb242)); have n7_ := Aside0.mk ((by rw [hg]; exact Nat.ne_of_gt (IsS94.lt (show IsS94 w0 _ g s0_0 s0_1 s0_2 from by repeat (first | (with_reducible first | exact HI0.out | apply IsS94.alloc | apply IsS94.drewN | apply IsS94.drew | apply IsS94.set_1 | apply IsS94.set_2) | exact HI0.out))) : gb242 ≠ g)); clear HI0; clear HK; clear HB; have HI0 := n0_; have HK := n1_; have HB := n2_; have BK242 := n3_; have GW242 := n4_; have GE242 := n5_; have NB0_242 := n6_; have NB242_0 := n7_; clear n0_ n1_ n2_ n3_ n4_ n5_ n6_ n7_; clear hb hbox hg) | ((with_reducible refine GC 79 rfl ?_); refine GL 8 Try.func79 (spec_l02Grid.calls g s0_0 s0_1 s0_2 t243 t244 t245 t246 w0 _ ?side1 ?side2 A2.out) ?_; (case side1 => repeat (first | (with_reducible first | exact HI0.out | apply IsS94.alloc | apply IsS94.drewN | apply IsS94.drew | apply IsS94.set_1 | apply IsS94.set_2 | refine IsS94.far ?_ NB0_242.out _) | exact HI0.out)); (case side2 => repeat (first | (with_reducible first | exact HB.out | apply below_alloc | apply pw_below_drewN | apply below_drew1 | refine below_set ?_ (IsS94.ge HI0.out) | refine below_set ?_ GE242.out) | exact HB.out)); rintro e w7 ⟨rfl, hi, hb, hk⟩; refine ⟨_, rfl, ?_⟩; replace BK242 := Aside0.mk (KeepBut.blk hk (g' := gb242) (o := .cells #[.int .i64 0, .int .i64 0, .int .i64 0] 30 (0, 0)) BKZ NB242_0.out (by simp)); replace HK := Aside0.mk (KeepBut.trans (by repeat (first | (with_reducible first | exact HK.out | apply KeepBut.set_ | apply keep_drewN | apply keep_drew | apply keep_alloc | refine keep_far ?_ GW242.out _) | exact HK.out)) hk (.inl rfl)); replace HI0 := Aside0.mk (hi); replace HB := Aside0.mk (hb); clear hb hk hi) | ((with_reducible refine gate_dst (N := 3) rfl ?_); refine BX 3 28 #[.int .i64 0, .int .i64 0] ?_; intro gb247 hg w8 hbox hb; have n0_ := Aside0.mk (IsS94.below (by repeat (first | (with_reducible first | exact HI0.out | apply IsS94.alloc | apply IsS94.drewN | apply IsS94.drew | apply IsS94.set_1 | apply IsS94.set_2 | refine IsS94.far ?_ NB0_242.out _) | exact HI0.out)) hb); have n1_ := Aside0.mk (blk_below (g := gb242) (o := .cells #[.int .i64 0, .int .i64 0, .int .i64 0] 30 (0, 0)) BKZ hb); have n2_ := Aside0.mk (KeepBut.trans (by repeat (first | (with_reducible first | exact HK.out | apply KeepBut.set_ | apply keep_drewN | apply keep_drew | apply keep_alloc | refine keep_far ?_ GW242.out _) | exact HK.out)) (KeepBut.of_below hb g none) (.inl rfl)); have n3_ := Aside0.mk (below_step (by repeat (first | (with_reducible first | exact HB.out | apply below_alloc | apply pw_below_drewN | apply below_drew1 | refine below_set ?_ (IsS94.ge HI0.out) | refine below_set ?_ GE242.out) | exact HB.out)) hb); have n4_ := Aside0.mk (hbox); have n5_ := Aside0.mk ((by rw [hg]; exact (keep_size (w := w) (g := g) (row := none) (by repeat (first | (with_reducible first | exact HK.out | apply KeepBut.set_ | apply keep_drewN | apply keep_drew | apply keep_alloc | refine keep_far ?_ GW242.out _) | exact HK.out))) : w.heap.size ≤ gb247)); have n6_ := Aside0.mk ((Nat.le_trans HW0.out (by rw [hg]; exact (keep_size (w := w) (g := g) (row := none) (by repeat (first | (with_reducible first | exact HK.out | apply KeepBut.set_ | apply keep_drewN | apply keep_drew | apply keep_alloc | refine keep_far ?_ GW242.out _) | exact HK.out))) : w.heap.size ≤ gb247) : w0.heap.size ≤ gb247)); have n7_ := Aside0.mk ((by rw [hg]; exact Nat.ne_of_lt (blk_lt (g := gb242) (o := .cells #[.int .i64 0, .int .i64 0, .int .i64 0] 30 (0, 0)) BKZ) : gb242 ≠ gb247)); have n8_ := Aside0.mk ((by rw [hg]; exact Nat.ne_of_gt (blk_lt (g := gb242) (o := .cells #[.int .i64 0, .int .i64 0, .int .i64 0] 30 (0, 0)) BKZ) : gb247 ≠ gb242)); have n9_ := Aside0.mk ((by rw [hg]; exact Nat.ne_of_lt (IsS94.lt (show IsS94 w0 _ g s0_0 t245 t246 from by repeat (first | (with_reducible first | exact HI0.out | apply IsS94.alloc | apply IsS94.drewN | apply IsS94.drew | apply IsS94.set_1 | apply IsS94.set_2 | refine IsS94.far ?_ NB0_242.out _) | exact HI0.out))) : g ≠ gb247)); have n10_ := Aside0.mk ((by rw [hg]; exact Nat.ne_of_gt (IsS94.lt (show IsS94 w0 _ g s0_0 t245 t246 from by repeat (first | (with_reducible first | exact HI0.out | apply IsS94.alloc | apply IsS94.drewN | apply IsS94.drew | apply IsS94.set_1 | apply IsS94.set_2 | refine IsS94.far ?_ NB0_242.out _) | exact HI0.out))) : gb247 ≠ g)); clear HI0; clear BK242; clear HK; clear HB; have HI0 := n0_; have BK242 := n1_; have HK := n2_; have HB := n3_; have BK247 := n4_; have GW247 := n5_; have GE247 := n6_; have NB242_247 := n7_; have NB247_242 := n8_; have NB0_247 := n9_; have NB247_0 := n10_; clear n0_ n1_ n2_ n3_ n4_ n5_ n6_ n7_ n8_ n9_ n10_; clear hb hbox hg; have hnb9 := NB247_242.out; have hnc9 := NB242_247.out; have hnb10 := NB247_0.out; have hnc10 := NB0_247.out; obtain ⟨hcz11_0, hcz11_1, hfz11_0, hfz11_1⟩ := CZ2 BK247) | ((with_reducible refine GC 80 rfl ?_); refine GL 11 Try.func80 (spec_l03Tree.calls k g s0_0 t245 t246 t243 t244 t248 t249 t250 t251 t252 w0 _ ?side1 ?side2 A3.out) ?_; (case side1 => repeat (first | (with_reducible first | exact HI0.out | apply IsS94.alloc | apply IsS94.drewN | apply IsS94.drew | apply IsS94.set_1 | apply IsS94.set_2 | refine IsS94.far ?_ NB0_242.out _ | refine IsS94.far ?_ NB0_247.out _) | exact HI0.out)); (case side2 => repeat (first | (with_reducible first | exact HB.out | apply below_alloc | apply pw_below_drewN | apply below_drew1 | refine below_set ?_ (IsS94.ge HI0.out) | refine below_set ?_ GE242.out | refine below_set ?_ GE247.out) | exact HB.out)); rintro e w12 ⟨rfl, hi, hb, hk⟩; refine ⟨_, rfl, ?_⟩; replace BK242 := Aside0.mk (KeepBut.blk hk (g' := gb242) (o := .cells #[.int .i64 0, .int .i64 0, .int .i64 0] 30 (0, 0)) (BF2 NB242_247 BK242) NB242_0.out (by simp)); replace BK247 := Aside0.mk (KeepBut.blk hk (g' := gb247) (o := .cells #[.int .i64 t243, .int .i64 t244] 28 (0, 0)) (PQ2 BK247) NB247_0.out (by simp)); replace HK := Aside0.mk (KeepBut.trans (by repeat (first | (with_reducible first | exact HK.out | apply KeepBut.set_ | apply keep_drewN | apply keep_drew | apply keep_alloc | refine keep_far ?_ GW242.out _ | refine keep_far ?_ GW247.out _) | exact HK.out)) hk (.inl rfl)); replace HI0 := Aside0.mk (hi); replace HB := Aside0.mk (hb); clear hb hk hi) | ((with_reducible refine gate_dst (N := 4) rfl ?_); refine BX 4 30 #[.int .i64 0, .int .i64 0, .int .i64 0] ?_; intro gb253 hg w13 hbox hb; have n0_ := Aside0.mk (IsS94.below (by repeat (first | (with_reducible first | exact HI0.out | apply IsS94.alloc | apply IsS94.drewN | apply IsS94.drew | apply IsS94.set_1 | apply IsS94.set_2 | refine IsS94.far ?_ NB0_242.out _ | refine IsS94.far ?_ NB0_247.out _) | exact HI0.out)) hb); have n1_ := Aside0.mk (blk_below (g := gb242) (o := .cells #[.int .i64 0, .int .i64 0, .int .i64 0] 30 (0, 0)) BKZ hb); have n2_ := Aside0.mk (blk_below (g := gb247) (o := .cells #[.int .i64 t243, .int .i64 t244] 28 (0, 0)) BKZ hb); have n3_ := Aside0.mk (KeepBut.trans (by repeat (first | (with_reducible first | exact HK.out | apply KeepBut.set_ | apply keep_drewN | apply keep_drew | apply keep_alloc | refine keep_far ?_ GW242.out _ | refine keep_far ?_ GW247.out _) | exact HK.out)) (KeepBut.of_below hb g none) (.inl rfl)); have n4_ := Aside0.mk (below_step (by repeat (first | (with_reducible first | exact HB.out | apply below_alloc | apply pw_below_drewN | apply below_drew1 | refine below_set ?_ (IsS94.ge HI0.out) | refine below_set ?_ GE242.out | refine below_set ?_ GE247.out) | exact HB.out)) hb); have n5_ := Aside0.mk (hbox); have n6_ := Aside0.mk ((by rw [hg]; exact (keep_size (w := w) (g := g) (row := none) (by repeat (first | (with_reducible first | exact HK.out | apply KeepBut.set_ | apply keep_drewN | apply keep_drew | apply keep_alloc | refine keep_far ?_ GW242.out _ | refine keep_far ?_ GW247.out _) | exact HK.out))) : w.heap.size ≤ gb253)); have n7_ := Aside0.mk ((Nat.le_trans HW0.out (by rw [hg]; exact (keep_size (w := w) (g := g) (row := none) (by repeat (first | (with_reducible first | exact HK.out | apply KeepBut.set_ | apply keep_drewN | apply keep_drew | apply keep_alloc | refine keep_far ?_ GW242.out _ | refine keep_far ?_ GW247.out _) | exact HK.out))) : w.heap.size ≤ gb253) : w0.heap.size ≤ gb253)); have n8_ := Aside0.mk ((by rw [hg]; exact Nat.ne_of_lt (blk_lt (g := gb242) (o := .cells #[.int .i64 0, .int .i64 0, .int .i64 0] 30 (0, 0)) BKZ) : gb242 ≠ gb253)); have n9_ := Aside0.mk ((by rw [hg]; exact Nat.ne_of_gt (blk_lt (g := gb242) (o := .cells #[.int .i64 0, .int .i64 0, .int .i64 0] 30 (0, 0)) BKZ) : gb253 ≠ gb242)); have n10_ := Aside0.mk ((by rw [hg]; exact Nat.ne_of_lt (blk_lt (g := gb247) (o := .cells #[.int .i64 t243, .int .i64 t244] 28 (0, 0)) BKZ) : gb247 ≠ gb253)); have n11_ := Aside0.mk ((by rw [hg]; exact Nat.ne_of_gt (blk_lt (g := gb247) (o := .cells #[.int .i64 t243, .int .i64 t244] 28 (0, 0)) BKZ) : gb253 ≠ gb247)); have n12_ := Aside0.mk ((by rw [hg]; exact Nat.ne_of_lt (IsS94.lt (show IsS94 w0 _ g s0_0 t251 t252 from by repeat (first | (with_reducible first | exact HI0.out | apply IsS94.alloc | apply IsS94.drewN | apply IsS94.drew | apply IsS94.set_1 | apply IsS94.set_2 | refine IsS94.far ?_ NB0_242.out _ | refine IsS94.far ?_ NB0_247.out _) | exact HI0.out))) : g ≠ gb253)); have n13_ := Aside0.mk ((by rw [hg]; exact Nat.ne_of_gt (IsS94.lt (show IsS94 w0 _ g s0_0 t251 t252 from by repeat (first | (with_reducible first | exact HI0.out | apply IsS94.alloc | apply IsS94.drewN | apply IsS94.drew | apply IsS94.set_1 | apply IsS94.set_2 | refine IsS94.far ?_ NB0_242.out _ | refine IsS94.far ?_ NB0_247.out _) | exact HI0.out))) : gb253 ≠ g)); clear HI0; clear BK242; clear BK247; clear HK; clear HB; have HI0 := n0_; have BK242 := n1_; have BK247 := n2_; have HK := n3_; have HB := n4_; have BK253 := n5_; have GW253 := n6_; have GE253 := n7_; have NB242_253 := n8_; have NB253_242 := n9_; have NB247_253 := n10_; have NB253_247 := n11_; have NB0_253 := n12_; have NB253_0 := n13_; clear n0_ n1_ n2_ n3_ n4_ n5_ n6_ n7_ n8_ n9_ n10_ n11_ n12_ n13_; clear hb hbox hg; have hnb14 := NB253_242.out; have hnc14 := NB242_253.out; have hnb15 := NB253_247.out; have hnc15 := NB247_253.out; have hnb16 := NB253_0.out; have hnc16 := NB0_253.out; obtain ⟨hcz17_0, hcz17_1, hcz17_2, hfz17_0, hfz17_1, hfz17_2⟩ := CZ3 BK253; obtain ⟨hcz18_0, hcz18_1, hfz18_0, hfz18_1⟩ := CZ2 BK247) | ((with_reducible refine GC 68 rfl ?_); refine GL 13 Try.func68 (spec_CountGaps.calls t243 t244 t254 _ A4.out) ?_; rintro e w19 ⟨rfl, hb⟩; refine ⟨_, rfl, ?_⟩; have n0_ := Aside0.mk (IsS94.below (show IsS94 w0 (S3W w13 gb253 (.int .i64 t248) (.int .i64 t249) (.int .i64 t250)) g s0_0 t251 t252 from by repeat (first | (with_reducible first | exact HI0.out | apply IsS94.alloc | apply IsS94.drewN | apply IsS94.drew | apply IsS94.set_1 | apply IsS94.set_2 | refine IsS94.far ?_ NB0_242.out _ | refine IsS94.far ?_ NB0_247.out _ | refine IsS94.far ?_ NB0_253.out _) | exact HI0.out)) hb); have n1_ := Aside0.mk (blk_below (BF3 NB242_253 BK242) hb); have n2_ := Aside0.mk (blk_below (BF3 NB247_253 BK247) hb); have n3_ := Aside0.mk (blk_below (g := gb253) (o := .cells #[.int .i64 t248, .int .i64 t249, .int .i64 t250] 30 (0, 0)) (PQ3 BK253) hb); have n4_ := Aside0.mk (KeepBut.trans (by repeat (first | (with_reducible first | exact HK.out | apply KeepBut.set_ | apply keep_drewN | apply keep_drew | apply keep_alloc | refine keep_far ?_ GW242.out _ | refine keep_far ?_ GW247.out _ | refine keep_far ?_ GW253.out _) | exact HK.out)) (KeepBut.of_below hb g none) (.inl rfl)); have n5_ := Aside0.mk (below_step (by repeat (first | (with_reducible first | exact HB.out | apply below_alloc | apply pw_below_drewN | apply below_drew1 | refine below_set ?_ (IsS94.ge HI0.out) | refine below_set ?_ GE242.out | refine below_set ?_ GE247.out | refine below_set ?_ GE253.out) | exact HB.out)) hb); clear HI0; clear BK242; clear BK247; clear BK253; clear HK; clear HB; have HI0 := n0_; have BK242 := n1_; have BK247 := n2_; have BK253 := n3_; have HK := n4_; have HB := n5_; clear n0_ n1_ n2_ n3_ n4_ n5_; clear hb))
 (try simp only [Act.put, List.setIfInBounds_toArray, List.set_cons_zero, List.set_cons_succ])
 go_cut [19] (fun v19 wc => ∃ (kq : Nat) (x19_4 : Bool) (x1001_4 : Int) (x1002_4 : Int), v19 = .bool x19_4 ∧ Aside0 (spec_l03Maze.j0 kq t254 x19_4 s0_0 x1001_4 x1002_4 t248 t249 t250 = some (r1, r2, r3, r4, r5)) ∧ Aside0 (kq ≤ k) ∧ Aside0 (wc.heap[gb242]? = some (.cells #[.int .i64 0, .int .i64 0, .int .i64 0] 30 (0, 0))) ∧ Aside0 (wc.heap[gb247]? = some (.cells #[.int .i64 t243, .int .i64 t244] 28 (0, 0))) ∧ Aside0 (wc.heap[gb253]? = some (.cells #[.int .i64 t248, .int .i64 t249, .int .i64 t250] 30 (0, 0))) ∧ Aside0 (IsS94 w0 wc g s0_0 x1001_4 x1002_4) ∧ Aside0 (KeepBut w wc g none) ∧ Aside0 (Below w0.heap.size w0 wc))
 case first =>
  have H := HC5.out
  clear HC5
  by_cases c20 : t254 > 0
  ·rw [if_pos c20] at H
   have c20b0 := decide_eq_true c20
   clear c20
   (first | rw [c20b0] | (simp only [i64_w, i32_w]; rw [c20b0]) | skip)
   obtain ⟨⟨t255, t256, t257⟩, A21, H⟩ := BD H
   dsimp only at H
   have H' := Aside0.mk H
   clear H
   go_wp2_with (first | (go_at_call 81; (with_reducible refine (spec_l01Once.calls g s0_0 t251 t252 2 t255 t256 t257 w0 _ ?side1 ?side2 A21.out).mono ?_); (case side1 => repeat (first | (with_reducible first | exact HI0.out | apply IsS94.alloc | apply IsS94.drewN | apply IsS94.drew | apply IsS94.set_1 | apply IsS94.set_2 | refine IsS94.far ?_ NB0_242.out _ | refine IsS94.far ?_ NB0_247.out _ | refine IsS94.far ?_ NB0_253.out _) | exact HI0.out)); (case side2 => repeat (first | (with_reducible first | exact HB.out | apply below_alloc | apply pw_below_drewN | apply below_drew1 | refine below_set ?_ (IsS94.ge HI0.out) | refine below_set ?_ GE242.out | refine below_set ?_ GE247.out | refine below_set ?_ GE253.out) | exact HB.out)); rintro e w22 ⟨rfl, hi, hb, hk⟩; replace BK242 := Aside0.mk (KeepBut.blk hk (g' := gb242) (o := .cells #[.int .i64 0, .int .i64 0, .int .i64 0] 30 (0, 0)) BKZ NB242_0.out (by simp)); replace BK247 := Aside0.mk (KeepBut.blk hk (g' := gb247) (o := .cells #[.int .i64 t243, .int .i64 t244] 28 (0, 0)) BKZ NB247_0.out (by simp)); replace BK253 := Aside0.mk (KeepBut.blk hk (g' := gb253) (o := .cells #[.int .i64 t248, .int .i64 t249, .int .i64 t250] 30 (0, 0)) BKZ NB253_0.out (by simp)); replace HK := Aside0.mk (KeepBut.trans (by repeat (first | (with_reducible first | exact HK.out | apply KeepBut.set_ | apply keep_drewN | apply keep_drew | apply keep_alloc | refine keep_far ?_ GW242.out _ | refine keep_far ?_ GW247.out _ | refine keep_far ?_ GW253.out _) | exact HK.out)) hk (.inl rfl)); replace HI0 := Aside0.mk (hi); replace HB := Aside0.mk (hb); clear hb hk hi))
   go_meet
   case rel => exact ⟨_, (t255), (t256), (t257), VZ, H', ⟨by first | omega | exact Nat.le_refl _⟩, ⟨BKZ⟩, ⟨BKZ⟩, ⟨BKZ⟩, ⟨by repeat (first | (with_reducible first | exact HI0.out | apply IsS94.alloc | apply IsS94.drewN | apply IsS94.drew | apply IsS94.set_1 | apply IsS94.set_2 | refine IsS94.far ?_ NB0_242.out _ | refine IsS94.far ?_ NB0_247.out _ | refine IsS94.far ?_ NB0_253.out _) | exact HI0.out)⟩, ⟨by repeat (first | (with_reducible first | exact HK.out | apply KeepBut.set_ | apply keep_drewN | apply keep_drew | apply keep_alloc | refine keep_far ?_ GW242.out _ | refine keep_far ?_ GW247.out _ | refine keep_far ?_ GW253.out _) | exact HK.out)⟩, ⟨by repeat (first | (with_reducible first | exact HB.out | apply below_alloc | apply pw_below_drewN | apply below_drew1 | refine below_set ?_ (IsS94.ge HI0.out) | refine below_set ?_ GE242.out | refine below_set ?_ GE247.out | refine below_set ?_ GE253.out) | exact HB.out)⟩⟩
  ·rw [if_neg c20] at H
   have c20b0 := decide_eq_false c20
   clear c20
   (first | rw [c20b0] | (simp only [i64_w, i32_w]; rw [c20b0]) | skip)
   have H' := Aside0.mk H
   clear H
   go_wp2
   go_meet
   case rel => exact ⟨_, (false), (t251), (t252), VZ, H', ⟨by first | omega | exact Nat.le_refl _⟩, ⟨BKZ⟩, ⟨BKZ⟩, ⟨BKZ⟩, ⟨by repeat (first | (with_reducible first | exact HI0.out | apply IsS94.alloc | apply IsS94.drewN | apply IsS94.drew | apply IsS94.set_1 | apply IsS94.set_2 | refine IsS94.far ?_ NB0_242.out _ | refine IsS94.far ?_ NB0_247.out _ | refine IsS94.far ?_ NB0_253.out _) | exact HI0.out)⟩, ⟨by repeat (first | (with_reducible first | exact HK.out | apply KeepBut.set_ | apply keep_drewN | apply keep_drew | apply keep_alloc | refine keep_far ?_ GW242.out _ | refine keep_far ?_ GW247.out _ | refine keep_far ?_ GW253.out _) | exact HK.out)⟩, ⟨by repeat (first | (with_reducible first | exact HB.out | apply below_alloc | apply pw_below_drewN | apply below_drew1 | refine below_set ?_ (IsS94.ge HI0.out) | refine below_set ?_ GE242.out | refine below_set ?_ GE247.out | refine below_set ?_ GE253.out) | exact HB.out)⟩⟩
 case rest =>
  clear HC5
  (try clear hcz11_0); (try clear hcz11_1); (try clear hcz17_0); (try clear hcz17_1); (try clear hcz17_2); (try clear hcz18_0); (try clear hcz18_1); (try clear hfz11_0); (try clear hfz11_1); (try clear hfz17_0); (try clear hfz17_1); (try clear hfz17_2); (try clear hfz18_0); (try clear hfz18_1)
  obtain ⟨kq, x19_4, x1001_4, x1002_4, rfl, HA, HJ4, BK242, BK247, BK253, HI0, HK, HB⟩ := hcut
  cases kq with
  | zero => exact absurd HA.out (by simp [spec_l03Maze.j0])
  | succ kj4 =>
   have H := HA.out
   clear HA
   simp only [spec_l03Maze.j0] at H
   by_cases c23 : x19_4 = true
   ·subst c23
    replace H := IT H
    obtain ⟨⟨t258, t259, t260⟩, A24, H⟩ := BD H
    dsimp only at H
    have H' := Aside0.mk H
    clear H
    go_wp2_with (first | ((with_reducible refine GC 58 rfl ?_); refine GL 21 Try.func58 (spec_l01Below.calls g s0_0 x1001_4 x1002_4 4 t258 t259 t260 w0 _ ?side1 ?side2 A24.out) ?_; (case side1 => repeat (first | (with_reducible first | exact HI0.out | apply IsS94.alloc | apply IsS94.drewN | apply IsS94.drew | apply IsS94.set_1 | apply IsS94.set_2 | refine IsS94.far ?_ NB0_242.out _ | refine IsS94.far ?_ NB0_247.out _ | refine IsS94.far ?_ NB0_253.out _) | exact HI0.out)); (case side2 => repeat (first | (with_reducible first | exact HB.out | apply below_alloc | apply pw_below_drewN | apply below_drew1 | refine below_set ?_ (IsS94.ge HI0.out) | refine below_set ?_ GE242.out | refine below_set ?_ GE247.out | refine below_set ?_ GE253.out) | exact HB.out)); rintro e w25 ⟨rfl, hi, hb, hk⟩; refine ⟨_, rfl, ?_⟩; replace BK242 := Aside0.mk (KeepBut.blk hk (g' := gb242) (o := .cells #[.int .i64 0, .int .i64 0, .int .i64 0] 30 (0, 0)) BKZ NB242_0.out (by simp)); replace BK247 := Aside0.mk (KeepBut.blk hk (g' := gb247) (o := .cells #[.int .i64 t243, .int .i64 t244] 28 (0, 0)) BKZ NB247_0.out (by simp)); replace BK253 := Aside0.mk (KeepBut.blk hk (g' := gb253) (o := .cells #[.int .i64 t248, .int .i64 t249, .int .i64 t250] 30 (0, 0)) BKZ NB253_0.out (by simp)); replace HK := Aside0.mk (KeepBut.trans (by repeat (first | (with_reducible first | exact HK.out | apply KeepBut.set_ | apply keep_drewN | apply keep_drew | apply keep_alloc | refine keep_far ?_ GW242.out _ | refine keep_far ?_ GW247.out _ | refine keep_far ?_ GW253.out _) | exact HK.out)) hk (.inl rfl)); replace HI0 := Aside0.mk (hi); replace HB := Aside0.mk (hb); clear hb hk hi))
    go_loopg [6] kj4 (fun kq v6 w' => ∃ (x6_2 : Int) (x1001_2 : Int) (x1002_2 : Int) (x254002_2 : Int), v6 = .int .i64 x6_2 ∧ Aside0 (spec_l03Maze.l0 kq t254 x6_2 s0_0 x1001_2 x1002_2 t248 t249 x254002_2 = some (r1, r2, r3, r4, r5)) ∧ Aside0 (kq ≤ kj4) ∧ Aside0 (w'.heap[gb242]? = some (.cells #[.int .i64 0, .int .i64 0, .int .i64 0] 30 (0, 0))) ∧ Aside0 (w'.heap[gb247]? = some (.cells #[.int .i64 t243, .int .i64 t244] 28 (0, 0))) ∧ Aside0 (w'.heap[gb253]? = some (.cells #[.int .i64 t248, .int .i64 t249, .int .i64 x254002_2] 30 (0, 0))) ∧ Aside0 (IsS94 w0 w' g s0_0 x1001_2 x1002_2) ∧ Aside0 (KeepBut w w' g none) ∧ Aside0 (Below w0.heap.size w0 w'))
    case atStart => exact ⟨(t258), (t259), (t260), (t250), VZ, H', ⟨Nat.le_refl _⟩, ⟨BKZ⟩, ⟨BKZ⟩, ⟨BKZ⟩, ⟨by repeat (first | (with_reducible first | exact HI0.out | apply IsS94.alloc | apply IsS94.drewN | apply IsS94.drew | apply IsS94.set_1 | apply IsS94.set_2 | refine IsS94.far ?_ NB0_242.out _ | refine IsS94.far ?_ NB0_247.out _ | refine IsS94.far ?_ NB0_253.out _) | exact HI0.out)⟩, ⟨by repeat (first | (with_reducible first | exact HK.out | apply KeepBut.set_ | apply keep_drewN | apply keep_drew | apply keep_alloc | refine keep_far ?_ GW242.out _ | refine keep_far ?_ GW247.out _ | refine keep_far ?_ GW253.out _) | exact HK.out)⟩, ⟨by repeat (first | (with_reducible first | exact HB.out | apply below_alloc | apply pw_below_drewN | apply below_drew1 | refine below_set ?_ (IsS94.ge HI0.out) | refine below_set ?_ GE242.out | refine below_set ?_ GE247.out | refine below_set ?_ GE253.out) | exact HB.out)⟩⟩
    case round =>
     clear H'
     (try clear c23); (try clear hcz11_0); (try clear hcz11_1); (try clear hcz17_0); (try clear hcz17_1); (try clear hcz17_2); (try clear hcz18_0); (try clear hcz18_1); (try clear hfz11_0); (try clear hfz11_1); (try clear hfz17_0); (try clear hfz17_1); (try clear hfz17_2); (try clear hfz18_0); (try clear hfz18_1)
     obtain ⟨x6_2, x1001_2, x1002_2, x254002_2, rfl, HA, HK2, BK242, BK247, BK253, HI0, HK, HB⟩ := hrel
     cases gk with
     | zero => exact absurd HA.out (by simp [spec_l03Maze.l0])
     | succ k2 =>
      have H := HA.out
      clear HA
      simp only [spec_l03Maze.l0] at H
      by_cases c26 : x6_2 ≥ 0
      ·rw [if_pos c26] at H
       have c26b0 := decide_eq_true c26
       clear c26
       obtain ⟨⟨t261, t262, t263⟩, A27, H⟩ := BD H
       dsimp only at H
       by_cases c28 : 0 ≤ t261
       ·rw [if_pos c28] at H
        have c28b0 := eq_true c28
        have c28b1 := decide_eq_true c28
        clear c28
        obtain ⟨ji29, hji29⟩ : ∃ j_ : Int, (shl .i64 1 t261) = j_ := ⟨_, rfl⟩
        replace H : (spec_l03Maze.l0 k2 t254 (wrap64 (x6_2 - 1)) s0_0 t262 t263 t248 t249 (Go.bits .xor .i64 x254002_2 (ji29))) = some (r1, r2, r3, r4, r5) := by first | (rw [hji29] at H; exact H) | (simp only [hji29] at H ⊢; exact H)
        (try rw [hji29] at A27)
        have hji29_ : (IntKind.i64.wrap (1 * 2 ^ min t261.toNat 64)) = ji29 := hji29
        have hji29z : t261 ≤ 64 → (IntKind.i64.wrap (1 * 2 ^ t261.toNat)) = ji29 := shl_small hji29
        have hji29u : (IntKind.i64.wrap (2 ^ min t261.toNat 64)) = ji29 := by have h_ := hji29_; rw [Int.one_mul] at h_; exact h_
        have hji29v : t261 ≤ 64 → (IntKind.i64.wrap (2 ^ t261.toNat)) = ji29 := fun hle_ => by have h_ := hji29z hle_; rw [Int.one_mul] at h_; exact h_
        have hji29y : (wrap64 (1 * 2 ^ min t261.toNat 64)) = ji29 := (i64_w _).symm.trans hji29_
        have hji29x : t261 ≤ 64 → (wrap64 (1 * 2 ^ t261.toNat)) = ji29 := fun h_ => (i64_w _).symm.trans (hji29z h_)
        have H' := Aside0.mk H
        clear H
        try go_wp2
        replace BK242 := Aside0.mk (blk_drew BK242.out)
        replace BK247 := Aside0.mk (blk_drew BK247.out)
        replace BK253 := Aside0.mk (blk_drew BK253.out)
        replace HI0 := Aside0.mk (IsS94.drew HI0.out)
        replace HK := Aside0.mk (keep_drew HK.out)
        replace HB := Aside0.mk (below_drew1 HB.out)
        refine ST 9 (fun w' => w'.cell? ⟨gb253, 0, none⟩ = some (.int .i64 t248) ∧ w'.cell? ⟨gb253, 1, none⟩ = some (.int .i64 t249) ∧ w'.cell? ⟨gb253, 2, none⟩ = some (.int .i64 x254002_2)) [8] spec_l03Maze.tab8 spec_l03Maze.bits8 ⟨CE BK253 0, CE BK253 1, CE BK253 2⟩ (fun hHeld HT_ HW_ => ?_)
        generalize wr.drew = w30 at BK242 BK247 BK253 HI0 HK HB hHeld ⊢
        refine PU 0 26 HT_ ?_
        refine PU 2 28 HT_ ?_
        refine PU 3 29 HT_ ?_
        refine TA 1 27 HT_ HW_ hHeld ?_
        refine OG 4 30 HT_ Try.func58 (spec_l01Below.calls g s0_0 x1001_2 x1002_2 t254 t261 t262 t263 w0 _ ?side1 ?side2 A27.out) (fun K hK => ?_)
        (case side1 => repeat (first | (with_reducible first | exact HI0.out | apply IsS94.alloc | apply IsS94.drewN | apply IsS94.drew | apply IsS94.set_1 | apply IsS94.set_2 | refine IsS94.far ?_ NB0_242.out _ | refine IsS94.far ?_ NB0_247.out _ | refine IsS94.far ?_ NB0_253.out _) | exact HI0.out))
        (case side2 => repeat (first | (with_reducible first | exact HB.out | apply below_alloc | apply pw_below_drewN | apply below_drew1 | refine below_set ?_ (IsS94.ge HI0.out) | refine below_set ?_ GE242.out | refine below_set ?_ GE247.out | refine below_set ?_ GE253.out) | exact HB.out))
        rintro e w31 ⟨rfl, hi, hb, hk⟩
        refine ⟨_, rfl, ?_⟩
        replace BK242 := Aside0.mk (KeepBut.blk hk (g' := gb242) (o := .cells #[.int .i64 0, .int .i64 0, .int .i64 0] 30 (0, 0)) BKZ NB242_0.out (by simp))
        replace BK247 := Aside0.mk (KeepBut.blk hk (g' := gb247) (o := .cells #[.int .i64 t243, .int .i64 t244] 28 (0, 0)) BKZ NB247_0.out (by simp))
        replace BK253 := Aside0.mk (KeepBut.blk hk (g' := gb253) (o := .cells #[.int .i64 t248, .int .i64 t249, .int .i64 x254002_2] 30 (0, 0)) BKZ NB253_0.out (by simp))
        replace HK := Aside0.mk (KeepBut.trans (by repeat (first | (with_reducible first | exact HK.out | apply KeepBut.set_ | apply keep_drewN | apply keep_drew | apply keep_alloc | refine keep_far ?_ GW242.out _ | refine keep_far ?_ GW247.out _ | refine keep_far ?_ GW253.out _) | exact HK.out)) hk (.inl rfl))
        replace HI0 := Aside0.mk (hi)
        replace HB := Aside0.mk (hb)
        clear hb hk hi
        refine HN hK ⟨CE BK253 0, CE BK253 1, CE BK253 2⟩ (fun hHeld => ?_)
        clear hK K
        refine PU 5 31 HT_ ?_
        refine PU 6 32 HT_ ?_
        refine PU 7 33 HT_ ?_
        refine last_ (i := 8) (N := none) #[true, true, true, true, true, true, true, true, true] rfl rfl (one_of HT_.out (by kernel_rfl)) (by decide) (fun K hK => ?_)
        have hs32 : w31.cell? ⟨gb253, 2, none⟩ = some (.int .i64 x254002_2) := CE BK253 2
        have hfs32 := blk_frozen BK253.out 2
        have hns32_0 := NB242_253.out
        have hns32_1 := NB247_253.out
        have hms32_0 := NB253_242.out
        have hms32_1 := NB253_247.out
        refine skip_ (w1 := ?_) (by rfl) rfl ?_ ?_
        rotate_left
        ·go_simp
         rfl
        refine hK.out _ _ ?_
        clear hK K
        refine done_ (done_of HT_.out (by kernel_rfl)) ?_
        try go_wp2
        go_roundg k2
        case measure => have := HJ4.out; have := HK2.out; omega
        case rel => exact ⟨(wrap64 (x6_2 - 1)), (t262), (t263), (Go.bits .xor .i64 x254002_2 (ji29)), VZ, H', ⟨by have := HJ4.out; have := HK2.out; omega⟩, ⟨BF1 NB242_253 BK242⟩, ⟨BF1 NB247_253 BK247⟩, ⟨by refine BT ?_; refine blk_put (cs := #[.int .i64 t248, .int .i64 t249, .int .i64 x254002_2]) ?_ 2 _ rfl; refine BT ?_; exact BK253.out⟩, ⟨by repeat (first | (with_reducible first | exact HI0.out | apply IsS94.alloc | apply IsS94.drewN | apply IsS94.drew | apply IsS94.set_1 | apply IsS94.set_2 | refine IsS94.far ?_ NB0_242.out _ | refine IsS94.far ?_ NB0_247.out _ | refine IsS94.far ?_ NB0_253.out _) | exact HI0.out)⟩, ⟨by repeat (first | (with_reducible first | exact HK.out | apply KeepBut.set_ | apply keep_drewN | apply keep_drew | apply keep_alloc | refine keep_far ?_ GW242.out _ | refine keep_far ?_ GW247.out _ | refine keep_far ?_ GW253.out _) | exact HK.out)⟩, ⟨by repeat (first | (with_reducible first | exact HB.out | apply below_alloc | apply pw_below_drewN | apply below_drew1 | refine below_set ?_ (IsS94.ge HI0.out) | refine below_set ?_ GE242.out | refine below_set ?_ GE247.out | refine below_set ?_ GE253.out) | exact HB.out)⟩⟩
       ·rw [if_neg c28] at H
        exact absurd H (by simp)
      ·rw [if_neg c26] at H
       have c26b0 := decide_eq_false c26
       clear c26
       simp only [Option.some.injEq, Prod.mk.injEq] at H
       obtain ⟨rfl, rfl, rfl, rfl, rfl⟩ := H
       have hnb33 := NB253_242.out
       have hnc33 := NB242_253.out
       have hnb34 := NB253_247.out
       have hnc34 := NB247_253.out
       have hnb35 := NB253_0.out
       have hnc35 := NB0_253.out
       obtain ⟨hcz36_0, hcz36_1, hcz36_2, hfz36_0, hfz36_1, hfz36_2⟩ := CZ3 BK253
       have hnb37 := NB242_247.out
       have hnc37 := NB247_242.out
       have hnb38 := NB242_0.out
       have hnc38 := NB0_242.out
       obtain ⟨hcz39_0, hcz39_1, hcz39_2, hfz39_0, hfz39_1, hfz39_2⟩ := CZ3 BK242
       go_wp2
       refine bodyPost_ret (results_cell_row rfl _ _ gb242 30 #[.int .i64 t248, .int .i64 t249, .int .i64 x254002_2] (0, 0) _ rfl (PQ3 BK242) Try.underlying30 rfl (by kernel_rfl)) rfl ?_
       exact ⟨RZ, by repeat (first | (with_reducible first | exact HI0.out | apply IsS94.alloc | apply IsS94.drewN | apply IsS94.drew | apply IsS94.set_1 | apply IsS94.set_2 | refine IsS94.far ?_ NB0_242.out _ | refine IsS94.far ?_ NB0_247.out _ | refine IsS94.far ?_ NB0_253.out _) | exact HI0.out), by repeat (first | (with_reducible first | exact HB.out | apply below_alloc | apply pw_below_drewN | apply below_drew1 | refine below_set ?_ (IsS94.ge HI0.out) | refine below_set ?_ GE242.out | refine below_set ?_ GE247.out | refine below_set ?_ GE253.out) | exact HB.out), by repeat (first | (with_reducible first | exact HK.out | apply KeepBut.set_ | apply keep_drewN | apply keep_drew | apply keep_alloc | refine keep_far ?_ GW242.out _ | refine keep_far ?_ GW247.out _ | refine keep_far ?_ GW253.out _) | exact HK.out)⟩
   ·replace c23 := Bool.eq_false_iff.mpr c23
    subst c23
    replace H := IE H
    simp only [Option.some.injEq, Prod.mk.injEq] at H
    obtain ⟨rfl, rfl, rfl, rfl, rfl⟩ := H
    have hnb40 := NB253_242.out
    have hnc40 := NB242_253.out
    have hnb41 := NB253_247.out
    have hnc41 := NB247_253.out
    have hnb42 := NB253_0.out
    have hnc42 := NB0_253.out
    obtain ⟨hcz43_0, hcz43_1, hcz43_2, hfz43_0, hfz43_1, hfz43_2⟩ := CZ3 BK253
    have hnb44 := NB242_247.out
    have hnc44 := NB247_242.out
    have hnb45 := NB242_0.out
    have hnc45 := NB0_242.out
    obtain ⟨hcz46_0, hcz46_1, hcz46_2, hfz46_0, hfz46_1, hfz46_2⟩ := CZ3 BK242
    go_wp2
    refine bodyPost_ret (results_cell_row rfl _ _ gb242 30 #[.int .i64 t248, .int .i64 t249, .int .i64 t250] (0, 0) _ rfl (PQ3 BK242) Try.underlying30 rfl (by kernel_rfl)) rfl ?_
    exact ⟨RZ, by repeat (first | (with_reducible first | exact HI0.out | apply IsS94.alloc | apply IsS94.drewN | apply IsS94.drew | apply IsS94.set_1 | apply IsS94.set_2 | refine IsS94.far ?_ NB0_242.out _ | refine IsS94.far ?_ NB0_247.out _ | refine IsS94.far ?_ NB0_253.out _) | exact HI0.out), by repeat (first | (with_reducible first | exact HB.out | apply below_alloc | apply pw_below_drewN | apply below_drew1 | refine below_set ?_ (IsS94.ge HI0.out) | refine below_set ?_ GE242.out | refine below_set ?_ GE247.out | refine below_set ?_ GE253.out) | exact HB.out), by repeat (first | (with_reducible first | exact HK.out | apply KeepBut.set_ | apply keep_drewN | apply keep_drew | apply keep_alloc | refine keep_far ?_ GW242.out _ | refine keep_far ?_ GW247.out _ | refine keep_far ?_ GW253.out _) | exact HK.out)⟩

def spec_l10Walker.f (s0_0 : List Int) (s0_1 : Int) (s0_2 : Int) (a1_0 : Int) (a1_1 : Int) (a1_2 : Int) : Option (Int × Int × Int × Int) := (spec_CountCells.f a1_0 a1_1).bind fun t266 => ((spec_l01Below.f s0_0 s0_1 s0_2 (mx 1 t266)).bind fun bt267 => ((spec_l01Below.f s0_0 bt267.2.1 bt267.2.2 4).bind fun bt270 => (some (bt267.1, bt270.1, bt270.2.1, bt270.2.2))))
set_option maxHeartbeats 8000000 in
set_option maxRecDepth 100000 in
theorem spec_l10Walker.calls (g : Nat) (s0_0 : List Int) (s0_1 : Int) (s0_2 : Int) (a1_0 : Int) (a1_1 : Int) (a1_2 : Int) (r1 : Int) (r2 : Int) (r3 : Int) (r4 : Int) (w0 w : World) (hI : IsS94 w0 w g s0_0 s0_1 s0_2) (hB : Below w0.heap.size w0 w) (h : spec_l10Walker.f s0_0 s0_1 s0_2 a1_0 a1_1 a1_2 = some (r1, r2, r3, r4)) :
  Calls Try.prog 48 #[.pointer (some ⟨g, 0, none⟩), .agg #[.int .i64 a1_0, .int .i64 a1_1, .int .i64 a1_2]] w fun e w' => e = .returned (.agg #[.int .i64 r1, .int .i64 r2]) ∧ IsS94 w0 w' g s0_0 r3 r4 ∧ Below w0.heap.size w0 w' ∧ KeepBut w w' g none := by
 have hu30 := Try.underlying30
 have hu43 := Try.underlying43
 have hu28 := Try.underlying28
 have HI0 := Aside0.mk hI
 have HK := Aside0.mk (KeepBut.refl w g none)
 have HL := Aside0.mk hB.size
 clear hI
 have HW0 := Aside0.mk hB.size
 have HB := Aside0.mk hB
 clear hB
 have H := h
 unfold spec_l10Walker.f at H
 clear h
 obtain ⟨t266, A3, H⟩ := BD H
 obtain ⟨ji4, hji4⟩ : ∃ j_ : Int, (mx 1 t266) = j_ := ⟨_, rfl⟩
 replace H : ((spec_l01Below.f s0_0 s0_1 s0_2 (ji4)).bind fun bt267 => ((spec_l01Below.f s0_0 bt267.2.1 bt267.2.2 4).bind fun bt270 => (some (bt267.1, bt270.1, bt270.2.1, bt270.2.2)))) = some (r1, r2, r3, r4) := by first | (rw [hji4] at H; exact H) | (simp only [hji4] at H ⊢; exact H)
 (try rw [hji4] at A3)
 (try (have hji4l : 1 ≤ ji4 := by (rw [← hji4]; unfold mx; (repeat' split) <;> omega)))
 (try (have hji4m : 0 ≤ ji4 := by omega))
 have hji4_ : (if 1 < t266 then t266 else 1) = ji4 := hji4
 obtain ⟨⟨t267, t268, t269⟩, A5, H⟩ := BD H
 dsimp only at H
 obtain ⟨⟨t270, t271, t272⟩, A6, H⟩ := BD H
 dsimp only at H
 simp only [Option.some.injEq, Prod.mk.injEq] at H
 obtain ⟨rfl, rfl, rfl, rfl⟩ := H
 go_enter Try.func48, Try.ntmps48
 go_wp2_with (first | ((with_reducible refine gate_dst (N := 3) rfl ?_); refine BX 3 30 #[.int .i64 a1_0, .int .i64 a1_1, .int .i64 a1_2] ?_; intro gb264 hg w7 hbox hb; have n0_ := Aside0.mk (IsS94.below (by repeat (first | (with_reducible first | exact HI0.out | apply IsS94.alloc | apply IsS94.drewN | apply IsS94.drew | apply IsS94.set_1 | apply IsS94.set_2) | exact HI0.out)) hb); have n1_ := Aside0.mk (KeepBut.trans (by repeat (first | (with_reducible first | exact HK.out | apply KeepBut.set_ | apply keep_drewN | apply keep_drew | apply keep_alloc) | exact HK.out)) (KeepBut.of_below hb g none) (.inl rfl)); have n2_ := Aside0.mk (below_step (by repeat (first | (with_reducible first | exact HB.out | apply below_alloc | apply pw_below_drewN | apply below_drew1 | refine below_set ?_ (IsS94.ge HI0.out)) | exact HB.out)) hb); have n3_ := Aside0.mk (hbox); have n4_ := Aside0.mk ((by rw [hg]; exact (keep_size (w := w) (g := g) (row := none) (by repeat (first | (with_reducible first | exact HK.out | apply KeepBut.set_ | apply keep_drewN | apply keep_drew | apply keep_alloc) | exact HK.out))) : w.heap.size ≤ gb264)); have n5_ := Aside0.mk ((Nat.le_trans HW0.out (by rw [hg]; exact (keep_size (w := w) (g := g) (row := none) (by repeat (first | (with_reducible first | exact HK.out | apply KeepBut.set_ | apply keep_drewN | apply keep_drew | apply keep_alloc) | exact HK.out))) : w.heap.size ≤ gb264) : w0.heap.size ≤ gb264)); have n6_ := Aside0.mk ((by rw [hg]; exact Nat.ne_of_lt (IsS94.lt (show IsS94 w0 _ g s0_0 s0_1 s0_2 from by repeat (first | (with_reducible first | exact HI0.out | apply IsS94.alloc | apply IsS94.drewN | apply IsS94.drew | apply IsS94.set_1 | apply IsS94.set_2) | exact HI0.out))) : g ≠ gb264)); have n7_ := Aside0.mk ((by rw [hg]; exact Nat.ne_of_gt (IsS94.lt (show IsS94 w0 _ g s0_0 s0_1 s0_2 from by repeat (first | (with_reducible first | exact HI0.out | apply IsS94.alloc | apply IsS94.drewN | apply IsS94.drew | apply IsS94.set_1 | apply IsS94.set_2) | exact HI0.out))) : gb264 ≠ g)); clear HI0; clear HK; clear HB; have HI0 := n0_; have HK := n1_; have HB := n2_; have BK264 := n3_; have GW264 := n4_; have GE264 := n5_; have NB0_264 := n6_; have NB264_0 := n7_; clear n0_ n1_ n2_ n3_ n4_ n5_ n6_ n7_; clear hb hbox hg) | ((with_reducible refine gate_dst (N := 4) rfl ?_); refine BX 4 43 #[.int .i64 0, .int .i64 0] ?_; intro gb265 hg w8 hbox hb; have n0_ := Aside0.mk (IsS94.below (by repeat (first | (with_reducible first | exact HI0.out | apply IsS94.alloc | apply IsS94.drewN | apply IsS94.drew | apply IsS94.set_1 | apply IsS94.set_2 | refine IsS94.far ?_ NB0_264.out _) | exact HI0.out)) hb); have n1_ := Aside0.mk (blk_below (g := gb264) (o := .cells #[.int .i64 a1_0, .int .i64 a1_1, .int .i64 a1_2] 30 (0, 0)) BKZ hb); have n2_ := Aside0.mk (KeepBut.trans (by repeat (first | (with_reducible first | exact HK.out | apply KeepBut.set_ | apply keep_drewN | apply keep_drew | apply keep_alloc | refine keep_far ?_ GW264.out _) | exact HK.out)) (KeepBut.of_below hb g none) (.inl rfl)); have n3_ := Aside0.mk (below_step (by repeat (first | (with_reducible first | exact HB.out | apply below_alloc | apply pw_below_drewN | apply below_drew1 | refine below_set ?_ (IsS94.ge HI0.out) | refine below_set ?_ GE264.out) | exact HB.out)) hb); have n4_ := Aside0.mk (hbox); have n5_ := Aside0.mk ((by rw [hg]; exact (keep_size (w := w) (g := g) (row := none) (by repeat (first | (with_reducible first | exact HK.out | apply KeepBut.set_ | apply keep_drewN | apply keep_drew | apply keep_alloc | refine keep_far ?_ GW264.out _) | exact HK.out))) : w.heap.size ≤ gb265)); have n6_ := Aside0.mk ((Nat.le_trans HW0.out (by rw [hg]; exact (keep_size (w := w) (g := g) (row := none) (by repeat (first | (with_reducible first | exact HK.out | apply KeepBut.set_ | apply keep_drewN | apply keep_drew | apply keep_alloc | refine keep_far ?_ GW264.out _) | exact HK.out))) : w.heap.size ≤ gb265) : w0.heap.size ≤ gb265)); have n7_ := Aside0.mk ((by rw [hg]; exact Nat.ne_of_lt (blk_lt (g := gb264) (o := .cells #[.int .i64 a1_0, .int .i64 a1_1, .int .i64 a1_2] 30 (0, 0)) BKZ) : gb264 ≠ gb265)); have n8_ := Aside0.mk ((by rw [hg]; exact Nat.ne_of_gt (blk_lt (g := gb264) (o := .cells #[.int .i64 a1_0, .int .i64 a1_1, .int .i64 a1_2] 30 (0, 0)) BKZ) : gb265 ≠ gb264)); have n9_ := Aside0.mk ((by rw [hg]; exact Nat.ne_of_lt (IsS94.lt (show IsS94 w0 _ g s0_0 s0_1 s0_2 from by repeat (first | (with_reducible first | exact HI0.out | apply IsS94.alloc | apply IsS94.drewN | apply IsS94.drew | apply IsS94.set_1 | apply IsS94.set_2 | refine IsS94.far ?_ NB0_264.out _) | exact HI0.out))) : g ≠ gb265)); have n10_ := Aside0.mk ((by rw [hg]; exact Nat.ne_of_gt (IsS94.lt (show IsS94 w0 _ g s0_0 s0_1 s0_2 from by repeat (first | (with_reducible first | exact HI0.out | apply IsS94.alloc | apply IsS94.drewN | apply IsS94.drew | apply IsS94.set_1 | apply IsS94.set_2 | refine IsS94.far ?_ NB0_264.out _) | exact HI0.out))) : gb265 ≠ g)); clear HI0; clear BK264; clear HK; clear HB; have HI0 := n0_; have BK264 := n1_; have HK := n2_; have HB := n3_; have BK265 := n4_; have GW265 := n5_; have GE265 := n6_; have NB264_265 := n7_; have NB265_264 := n8_; have NB0_265 := n9_; have NB265_0 := n10_; clear n0_ n1_ n2_ n3_ n4_ n5_ n6_ n7_ n8_ n9_ n10_; clear hb hbox hg; have hnb9 := NB264_265.out; have hnc9 := NB265_264.out; have hnb10 := NB264_0.out; have hnc10 := NB0_264.out; obtain ⟨hcz11_0, hcz11_1, hcz11_2, hfz11_0, hfz11_1, hfz11_2⟩ := CZ3 BK264) | ((with_reducible refine GC 22 rfl ?_); refine GL 8 Try.func22 (spec_CountCells.calls a1_0 a1_1 t266 _ A3.out) ?_; rintro e w12 ⟨rfl, hb⟩; refine ⟨_, rfl, ?_⟩; have n0_ := Aside0.mk (IsS94.below (by repeat (first | (with_reducible first | exact HI0.out | apply IsS94.alloc | apply IsS94.drewN | apply IsS94.drew | apply IsS94.set_1 | apply IsS94.set_2 | refine IsS94.far ?_ NB0_264.out _ | refine IsS94.far ?_ NB0_265.out _) | exact HI0.out)) hb); have n1_ := Aside0.mk (blk_below (g := gb264) (o := .cells #[.int .i64 a1_0, .int .i64 a1_1, .int .i64 a1_2] 30 (0, 0)) BKZ hb); have n2_ := Aside0.mk (blk_below (g := gb265) (o := .cells #[.int .i64 0, .int .i64 0] 43 (0, 0)) BKZ hb); have n3_ := Aside0.mk (KeepBut.trans (by repeat (first | (with_reducible first | exact HK.out | apply KeepBut.set_ | apply keep_drewN | apply keep_drew | apply keep_alloc | refine keep_far ?_ GW264.out _ | refine keep_far ?_ GW265.out _) | exact HK.out)) (KeepBut.of_below hb g none) (.inl rfl)); have n4_ := Aside0.mk (below_step (by repeat (first | (with_reducible first | exact HB.out | apply below_alloc | apply pw_below_drewN | apply below_drew1 | refine below_set ?_ (IsS94.ge HI0.out) | refine below_set ?_ GE264.out | refine below_set ?_ GE265.out) | exact HB.out)) hb); clear HI0; clear BK264; clear BK265; clear HK; clear HB; have HI0 := n0_; have BK264 := n1_; have BK265 := n2_; have HK := n3_; have HB := n4_; clear n0_ n1_ n2_ n3_ n4_; clear hb) | ((with_reducible refine GC 58 rfl ?_); refine goesL_ (some 10) rfl rfl Try.func58 (by kernel_rfl) rfl #[.pointer (some ⟨g, 0, none⟩), .int .i64 ji4] rfl (by (try simp only [List.map_toArray, List.map_cons, List.map_nil]); first | done | (simp only [hji4]; rfl) | rfl | (simp only [List.length_drop, List.length_take]; rfl)) ?_; (with_reducible refine (spec_l01Below.calls g s0_0 s0_1 s0_2 ji4 t267 t268 t269 w0 _ ?side1 ?side2 A5.out).mono ?_); (case side1 => repeat (first | (with_reducible first | exact HI0.out | apply IsS94.alloc | apply IsS94.drewN | apply IsS94.drew | apply IsS94.set_1 | apply IsS94.set_2 | refine IsS94.far ?_ NB0_264.out _ | refine IsS94.far ?_ NB0_265.out _) | exact HI0.out)); (case side2 => repeat (first | (with_reducible first | exact HB.out | apply below_alloc | apply pw_below_drewN | apply below_drew1 | refine below_set ?_ (IsS94.ge HI0.out) | refine below_set ?_ GE264.out | refine below_set ?_ GE265.out) | exact HB.out)); rintro e w13 ⟨rfl, hi, hb, hk⟩; refine ⟨_, rfl, ?_⟩; replace BK264 := Aside0.mk (KeepBut.blk hk (g' := gb264) (o := .cells #[.int .i64 a1_0, .int .i64 a1_1, .int .i64 a1_2] 30 (0, 0)) BKZ NB264_0.out (by simp)); replace BK265 := Aside0.mk (KeepBut.blk hk (g' := gb265) (o := .cells #[.int .i64 0, .int .i64 0] 43 (0, 0)) BKZ NB265_0.out (by simp)); replace HK := Aside0.mk (KeepBut.trans (by repeat (first | (with_reducible first | exact HK.out | apply KeepBut.set_ | apply keep_drewN | apply keep_drew | apply keep_alloc | refine keep_far ?_ GW264.out _ | refine keep_far ?_ GW265.out _) | exact HK.out)) hk (.inl rfl)); replace HI0 := Aside0.mk (hi); replace HB := Aside0.mk (hb); clear hb hk hi) | ((with_reducible refine GC 58 rfl ?_); refine GL 12 Try.func58 (spec_l01Below.calls g s0_0 t268 t269 4 t270 t271 t272 w0 _ ?side1 ?side2 A6.out) ?_; (case side1 => repeat (first | (with_reducible first | exact HI0.out | apply IsS94.alloc | apply IsS94.drewN | apply IsS94.drew | apply IsS94.set_1 | apply IsS94.set_2 | refine IsS94.far ?_ NB0_264.out _ | refine IsS94.far ?_ NB0_265.out _) | exact HI0.out)); (case side2 => repeat (first | (with_reducible first | exact HB.out | apply below_alloc | apply pw_below_drewN | apply below_drew1 | refine below_set ?_ (IsS94.ge HI0.out) | refine below_set ?_ GE264.out | refine below_set ?_ GE265.out) | exact HB.out)); rintro e w14 ⟨rfl, hi, hb, hk⟩; refine ⟨_, rfl, ?_⟩; replace BK264 := Aside0.mk (KeepBut.blk hk (g' := gb264) (o := .cells #[.int .i64 a1_0, .int .i64 a1_1, .int .i64 a1_2] 30 (0, 0)) BKZ NB264_0.out (by simp)); replace BK265 := Aside0.mk (KeepBut.blk hk (g' := gb265) (o := .cells #[.int .i64 0, .int .i64 0] 43 (0, 0)) BKZ NB265_0.out (by simp)); replace HK := Aside0.mk (KeepBut.trans (by repeat (first | (with_reducible first | exact HK.out | apply KeepBut.set_ | apply keep_drewN | apply keep_drew | apply keep_alloc | refine keep_far ?_ GW264.out _ | refine keep_far ?_ GW265.out _) | exact HK.out)) hk (.inl rfl)); replace HI0 := Aside0.mk (hi); replace HB := Aside0.mk (hb); clear hb hk hi; have hnb15 := NB265_0.out; have hnc15 := NB0_265.out; obtain ⟨hcz16_0, hcz16_1, hfz16_0, hfz16_1⟩ := CZ2 BK265))
 refine bodyPost_ret (results_cell_row rfl _ _ gb265 43 #[.int .i64 t267, .int .i64 t270] (0, 0) _ rfl (PQ2 BK265) Try.underlying43 rfl (by kernel_rfl)) rfl ?_
 exact ⟨by first | rfl | (simp [errW_none, errW_some] <;> rfl) | (simp only [← hji4]; first | rfl | (simp [errW_none, errW_some] <;> rfl)) | (simp [*, errW_none, errW_some] <;> rfl), by repeat (first | (with_reducible first | exact HI0.out | apply IsS94.alloc | apply IsS94.drewN | apply IsS94.drew | apply IsS94.set_1 | apply IsS94.set_2 | refine IsS94.far ?_ NB0_264.out _ | refine IsS94.far ?_ NB0_265.out _) | exact HI0.out), by repeat (first | (with_reducible first | exact HB.out | apply below_alloc | apply pw_below_drewN | apply below_drew1 | refine below_set ?_ (IsS94.ge HI0.out) | refine below_set ?_ GE264.out | refine below_set ?_ GE265.out) | exact HB.out), by repeat (first | (with_reducible first | exact HK.out | apply KeepBut.set_ | apply keep_drewN | apply keep_drew | apply keep_alloc | refine keep_far ?_ GW264.out _ | refine keep_far ?_ GW265.out _) | exact HK.out)⟩

def spec_MazeOk.f (a0_0 : Int) (a0_1 : Int) (a0_2 : Int) : Option (Bool) := (spec_GridOk.f a0_0 a0_1).bind fun t274 => (if t274 = true then ((spec_CountGaps.f a0_0 a0_1).bind fun t275 => (if 0 ≤ t275 then ((spec_l01In.f a0_2 0 (wrap64 ((shl .i64 1 t275) - 1))).bind fun t276 => (some t276)) else (none))) else (some false))
def spec_MazeOk.T1 : Bool × List (List Nat × List Nat) := (true, [([], []), ([0], [0]), ([1], [1]), ([2, 2], [2]), ([3], [3]), ([4, 3], [3, 4]), ([3], [3]), ([6, 3], [3, 6]), ([7, 3, 3], [3, 7]), ([8, 3], [3, 8]), ([9, 3], [3, 9]), ([5, 10, 8, 3], [3, 5, 10]), ([3, 11], [3, 11]), ([12, 11, 0, 1, 2, 3, 4, 5, 6, 7, 8, 9, 10, 11, 12], [12])])
def spec_MazeOk.B1 : List Nat := [0, 1, 3, 7, 15, 31, 15, 79, 207, 463, 975, 2047, 4095, 8191]
theorem spec_MazeOk.tab1 : rtab .any (opsOf Try.f34 1) = spec_MazeOk.T1 := by kernel_rfl
theorem spec_MazeOk.bits1 : waitsOk spec_MazeOk.T1.2 spec_MazeOk.B1 = true := by kernel_rfl
set_option maxHeartbeats 8000000 in
set_option maxRecDepth 100000 in
theorem spec_MazeOk.calls (a0_0 : Int) (a0_1 : Int) (a0_2 : Int) (r : Bool) (w : World) (h : spec_MazeOk.f a0_0 a0_1 a0_2 = some r) :
  Calls Try.prog 34 #[.agg #[.int .i64 a0_0, .int .i64 a0_1, .int .i64 a0_2]] w fun e w' => e = .returned (.bool r) ∧ Below w.heap.size w w' := by
 have hu30 := Try.underlying30
 have hu28 := Try.underlying28
 have HB := Aside0.mk (Below.refl w.heap.size w)
 have H := h
 unfold spec_MazeOk.f at H
 clear h
 obtain ⟨t274, A2, H⟩ := BD H
 by_cases c3 : t274 = true
 ·subst c3
  replace H := IT H
  obtain ⟨t275, A4, H⟩ := BD H
  by_cases c5 : 0 ≤ t275
  ·rw [if_pos c5] at H
   have c5b0 := eq_true c5
   have c5b1 := decide_eq_true c5
   clear c5
   obtain ⟨ji6, hji6⟩ : ∃ j_ : Int, (shl .i64 1 t275) = j_ := ⟨_, rfl⟩
   replace H : ((spec_l01In.f a0_2 0 (wrap64 ((ji6) - 1))).bind fun t276 => (some t276)) = some r := by first | (rw [hji6] at H; exact H) | (simp only [hji6] at H ⊢; exact H)
   (try rw [hji6] at A2)
   (try rw [hji6] at A4)
   have hji6_ : (IntKind.i64.wrap (1 * 2 ^ min t275.toNat 64)) = ji6 := hji6
   have hji6z : t275 ≤ 64 → (IntKind.i64.wrap (1 * 2 ^ t275.toNat)) = ji6 := shl_small hji6
   have hji6u : (IntKind.i64.wrap (2 ^ min t275.toNat 64)) = ji6 := by have h_ := hji6_; rw [Int.one_mul] at h_; exact h_
   have hji6v : t275 ≤ 64 → (IntKind.i64.wrap (2 ^ t275.toNat)) = ji6 := fun hle_ => by have h_ := hji6z hle_; rw [Int.one_mul] at h_; exact h_
   have hji6y : (wrap64 (1 * 2 ^ min t275.toNat 64)) = ji6 := (i64_w _).symm.trans hji6_
   have hji6x : t275 ≤ 64 → (wrap64 (1 * 2 ^ t275.toNat)) = ji6 := fun h_ => (i64_w _).symm.trans (hji6z h_)
   obtain ⟨t276, A7, H⟩ := BD H
   obtain rfl := Option.some.inj H
   go_enter Try.func34, Try.ntmps34
   try go_wp2_with (first | ((with_reducible refine gate_dst (N := 1) rfl ?_); refine BX 1 30 #[.int .i64 a0_0, .int .i64 a0_1, .int .i64 a0_2] ?_; intro gb273 hg w8 hbox hb; have BK273 := Aside0.mk (hbox); have GW273 := (GS hg : Aside0 (w.heap.size ≤ gb273)); have GE273 := GW273; replace HB := BS HB hb; clear hb hbox hg))
   replace BK273 := Aside0.mk (blk_drew BK273.out)
   replace HB := Aside0.mk (below_drew1 HB.out)
   refine ST 14 (fun w' => w'.cell? ⟨gb273, 0, none⟩ = some (.int .i64 a0_0) ∧ w'.cell? ⟨gb273, 1, none⟩ = some (.int .i64 a0_1) ∧ w'.cell? ⟨gb273, 2, none⟩ = some (.int .i64 a0_2)) [] spec_MazeOk.tab1 spec_MazeOk.bits1 ⟨CE BK273 0, CE BK273 1, CE BK273 2⟩ (fun hHeld HT_ HW_ => ?_)
   generalize w8.drew = w9 at BK273 HB hHeld ⊢
   refine PU 0 3 HT_ ?_
   refine TA 1 4 HT_ HW_ hHeld ?_
   refine OG 2 5 HT_ Try.func54 (spec_GridOk.calls a0_0 a0_1 true _ A2.out) (fun K hK => ?_)
   rintro e w10 ⟨rfl, hb⟩
   refine ⟨_, rfl, ?_⟩
   replace BK273 := BB BK273 hb
   replace HB := BS HB hb
   clear hb
   refine HN hK ⟨CE BK273 0, CE BK273 1, CE BK273 2⟩ (fun hHeld => ?_)
   clear hK K
   refine PU 3 6 HT_ ?_
   refine PU 4 7 HT_ ?_
   refine PU 6 9 HT_ ?_
   refine TA 5 8 HT_ HW_ hHeld ?_
   refine TA 7 10 HT_ HW_ hHeld ?_
   refine OG 8 11 HT_ Try.func68 (spec_CountGaps.calls a0_0 a0_1 t275 _ A4.out) (fun K hK => ?_)
   rintro e w11 ⟨rfl, hb⟩
   refine ⟨_, rfl, ?_⟩
   replace BK273 := BB BK273 hb
   replace HB := BS HB hb
   clear hb
   refine HN hK ⟨CE BK273 0, CE BK273 1, CE BK273 2⟩ (fun hHeld => ?_)
   clear hK K
   refine PU 9 12 HT_ ?_
   refine PU 10 13 HT_ ?_
   refine one_ (i := 11) (N := some 14) #[true, true, true, true, true, true, true, true, true, true, true, true, false, false] rfl rfl (one_of HT_.out (by kernel_rfl)) (by decide) (fun K hK => ?_)
   refine goes_ Try.func67 (by kernel_rfl) rfl #[.int .i64 a0_2, .int .i64 0, .int .i64 (wrap64 ((ji6) - 1))] (by rfl) rfl rfl (by (try simp only [List.map_toArray, List.map_cons, List.map_nil]); first | done | (simp only [hji6]; rfl) | rfl | (simp only [List.length_drop, List.length_take]; rfl)) ?_
   with_reducible refine (spec_l01In.calls a0_2 0 (wrap64 ((ji6) - 1)) t276 _ A7.out).mono ?_
   rintro e w' ⟨rfl, ⟨nd, rfl⟩⟩
   refine ⟨_, rfl, ?_⟩
   refine HN hK ⟨CE BK273 0, CE BK273 1, CE BK273 2⟩ (fun hHeld => ?_)
   clear hK K
   refine PU 12 15 HT_ ?_
   refine PU 13 2 HT_ ?_
   refine done_ (done_of HT_.out (by kernel_rfl)) ?_
   try go_wp2
   go_ret
   exact ⟨by first | rfl | (simp [errW_none, errW_some] <;> rfl) | (simp only [← hji6]; first | rfl | (simp [errW_none, errW_some] <;> rfl)) | (simp [*, errW_none, errW_some] <;> rfl), BZ⟩
  ·rw [if_neg c5] at H
   exact absurd H (by simp)
 ·replace c3 := Bool.eq_false_iff.mpr c3
  subst c3
  replace H := IE H
  obtain rfl := Option.some.inj H
  go_enter Try.func34, Try.ntmps34
  try go_wp2_with (first | ((with_reducible refine gate_dst (N := 1) rfl ?_); refine BX 1 30 #[.int .i64 a0_0, .int .i64 a0_1, .int .i64 a0_2] ?_; intro gb273 hg w12 hbox hb; have BK273 := Aside0.mk (hbox); have GW273 := (GS hg : Aside0 (w.heap.size ≤ gb273)); have GE273 := GW273; replace HB := BS HB hb; clear hb hbox hg))
  replace BK273 := Aside0.mk (blk_drew BK273.out)
  replace HB := Aside0.mk (below_drew1 HB.out)
  refine ST 14 (fun w' => w'.cell? ⟨gb273, 0, none⟩ = some (.int .i64 a0_0) ∧ w'.cell? ⟨gb273, 1, none⟩ = some (.int .i64 a0_1) ∧ w'.cell? ⟨gb273, 2, none⟩ = some (.int .i64 a0_2)) [] spec_MazeOk.tab1 spec_MazeOk.bits1 ⟨CE BK273 0, CE BK273 1, CE BK273 2⟩ (fun hHeld HT_ HW_ => ?_)
  generalize w12.drew = w13 at BK273 HB hHeld ⊢
  refine PU 0 3 HT_ ?_
  refine TA 1 4 HT_ HW_ hHeld ?_
  refine OG 2 5 HT_ Try.func54 (spec_GridOk.calls a0_0 a0_1 false _ A2.out) (fun K hK => ?_)
  rintro e w14 ⟨rfl, hb⟩
  refine ⟨_, rfl, ?_⟩
  replace BK273 := BB BK273 hb
  replace HB := BS HB hb
  clear hb
  refine HN hK ⟨CE BK273 0, CE BK273 1, CE BK273 2⟩ (fun hHeld => ?_)
  clear hK K
  refine PU 3 6 HT_ ?_
  refine PX 4 7 HT_ ?_
  refine PX 5 8 HT_ ?_
  refine PX 6 9 HT_ ?_
  refine PX 7 10 HT_ ?_
  refine PX 8 11 HT_ ?_
  refine PX 9 12 HT_ ?_
  refine PX 10 13 HT_ ?_
  refine PX 11 14 HT_ ?_
  refine PU 12 15 HT_ ?_
  refine PU 13 2 HT_ ?_
  refine done_ (done_of HT_.out (by kernel_rfl)) ?_
  try go_wp2
  go_ret
  exact ⟨RZ, BZ⟩

def spec_l03Bit.f (a0 : Int) (a1 : Int) : Option (Bool) := if 0 ≤ a1 then (some ((Go.bits .and .i64 (shr .i64 a0 a1) 1) == 1)) else (none)
set_option maxHeartbeats 8000000 in
set_option maxRecDepth 100000 in
theorem spec_l03Bit.calls (a0 : Int) (a1 : Int) (r : Bool) (w : World) (h : spec_l03Bit.f a0 a1 = some r) :
  Calls Try.prog 84 #[.int .i64 a0, .int .i64 a1] w fun e w' => e = .returned (.bool r) ∧ Drawn0 w w' := by
 have H := h
 unfold spec_l03Bit.f at H
 clear h
 by_cases c3 : 0 ≤ a1
 ·rw [if_pos c3] at H
  have c3b0 := eq_true c3
  have c3b1 := decide_eq_true c3
  clear c3
  obtain ⟨ji4, hji4⟩ : ∃ j_ : Int, (shr .i64 a0 a1) = j_ := ⟨_, rfl⟩
  replace H : (some ((Go.bits .and .i64 (ji4) 1) == 1)) = some r := by first | (rw [hji4] at H; exact H) | (simp only [hji4] at H ⊢; exact H)
  have hji4_ : (a0 / 2 ^ min a1.toNat 64) = ji4 := hji4
  have hji4z : a1 ≤ 64 → (a0 / 2 ^ a1.toNat) = ji4 := shr_small hji4
  obtain rfl := Option.some.inj H
  go_enter Try.func84, Try.ntmps84
  go_wp2
  go_ret
  exact ⟨by first | rfl | (simp; done) | (simp only [← hji4] <;> (first | rfl | simp)) | (simp [*]; done), DZ⟩
 ·rw [if_neg c3] at H
  exact absurd H (by simp)

def spec_IsPassage.f (a0_0 : Int) (a0_1 : Int) (a0_2 : Int) (a1 : Int) : Option (Bool) := (spec_MazeOk.f a0_0 a0_1 a0_2).bind fun t278 => (if t278 = true then ((spec_CountGaps.f a0_0 a0_1).bind fun t279 => ((spec_l01In.f a1 0 (wrap64 (t279 - 1))).bind fun t280 => (if t280 = true then ((spec_l03Bit.f a0_2 a1).bind fun t281 => (some t281)) else (some false)))) else (some false))
set_option maxHeartbeats 8000000 in
set_option maxRecDepth 100000 in
theorem spec_IsPassage.calls (a0_0 : Int) (a0_1 : Int) (a0_2 : Int) (a1 : Int) (r : Bool) (w : World) (h : spec_IsPassage.f a0_0 a0_1 a0_2 a1 = some r) :
  Calls Try.prog 51 #[.agg #[.int .i64 a0_0, .int .i64 a0_1, .int .i64 a0_2], .int .i64 a1] w fun e w' => e = .returned (.bool r) ∧ Below w.heap.size w w' := by
 have hu30 := Try.underlying30
 have hu28 := Try.underlying28
 have HB := Aside0.mk (Below.refl w.heap.size w)
 have H := h
 unfold spec_IsPassage.f at H
 clear h
 obtain ⟨t278, A3, H⟩ := BD H
 by_cases c4 : t278 = true
 ·subst c4
  replace H := IT H
  obtain ⟨t279, A5, H⟩ := BD H
  obtain ⟨t280, A6, H⟩ := BD H
  by_cases c7 : t280 = true
  ·subst c7
   replace H := IT H
   obtain ⟨t281, A8, H⟩ := BD H
   obtain rfl := Option.some.inj H
   go_enter Try.func51, Try.ntmps51
   go_wp2_with (first | ((with_reducible refine gate_dst (N := 2) rfl ?_); refine BX 2 30 #[.int .i64 a0_0, .int .i64 a0_1, .int .i64 a0_2] ?_; intro gb277 hg w9 hbox hb; have BK277 := Aside0.mk (hbox); have GW277 := (GS hg : Aside0 (w.heap.size ≤ gb277)); have GE277 := GW277; replace HB := BS HB hb; clear hb hbox hg; obtain ⟨hcz10_0, hcz10_1, hcz10_2, hfz10_0, hfz10_1, hfz10_2⟩ := CZ3 BK277) | ((with_reducible refine GC 34 rfl ?_); refine GL 6 Try.func34 (spec_MazeOk.calls a0_0 a0_1 a0_2 true _ A3.out) ?_; rintro e w11 ⟨rfl, hb⟩; refine ⟨_, rfl, ?_⟩; replace BK277 := BB BK277 hb; replace HB := BS HB hb; clear hb; obtain ⟨hcz12_0, hcz12_1, hcz12_2, hfz12_0, hfz12_1, hfz12_2⟩ := CZ3 BK277) | (go_at_call 68; (with_reducible refine (spec_CountGaps.calls a0_0 a0_1 t279 _ A5.out).mono ?_); rintro e w13 ⟨rfl, hb⟩; replace BK277 := BB BK277 hb; replace HB := BS HB hb; clear hb) | (go_at_call 67; (with_reducible refine (spec_l01In.calls a1 0 (wrap64 (t279 - 1)) true _ A6.out).mono ?_); rintro e w' ⟨rfl, ⟨nd, rfl⟩⟩; obtain ⟨hcz14_0, hcz14_1, hcz14_2, hfz14_0, hfz14_1, hfz14_2⟩ := CZ3 BK277) | (go_at_call 84; (with_reducible refine (spec_l03Bit.calls a0_2 a1 t281 _ A8.out).mono ?_); rintro e w' ⟨rfl, ⟨nd, rfl⟩⟩))
   go_ret
   exact ⟨RZ, BZ⟩
  ·replace c7 := Bool.eq_false_iff.mpr c7
   subst c7
   replace H := IE H
   obtain rfl := Option.some.inj H
   go_enter Try.func51, Try.ntmps51
   go_wp2_with (first | ((with_reducible refine gate_dst (N := 2) rfl ?_); refine BX 2 30 #[.int .i64 a0_0, .int .i64 a0_1, .int .i64 a0_2] ?_; intro gb277 hg w15 hbox hb; have BK277 := Aside0.mk (hbox); have GW277 := (GS hg : Aside0 (w.heap.size ≤ gb277)); have GE277 := GW277; replace HB := BS HB hb; clear hb hbox hg; obtain ⟨hcz16_0, hcz16_1, hcz16_2, hfz16_0, hfz16_1, hfz16_2⟩ := CZ3 BK277) | ((with_reducible refine GC 34 rfl ?_); refine GL 6 Try.func34 (spec_MazeOk.calls a0_0 a0_1 a0_2 true _ A3.out) ?_; rintro e w17 ⟨rfl, hb⟩; refine ⟨_, rfl, ?_⟩; replace BK277 := BB BK277 hb; replace HB := BS HB hb; clear hb; obtain ⟨hcz18_0, hcz18_1, hcz18_2, hfz18_0, hfz18_1, hfz18_2⟩ := CZ3 BK277) | (go_at_call 68; (with_reducible refine (spec_CountGaps.calls a0_0 a0_1 t279 _ A5.out).mono ?_); rintro e w19 ⟨rfl, hb⟩; replace BK277 := BB BK277 hb; replace HB := BS HB hb; clear hb) | (go_at_call 67; (with_reducible refine (spec_l01In.calls a1 0 (wrap64 (t279 - 1)) false _ A6.out).mono ?_); rintro e w' ⟨rfl, ⟨nd, rfl⟩⟩))
   go_ret
   exact ⟨RZ, BZ⟩
 ·replace c4 := Bool.eq_false_iff.mpr c4
  subst c4
  replace H := IE H
  obtain rfl := Option.some.inj H
  go_enter Try.func51, Try.ntmps51
  go_wp2_with (first | ((with_reducible refine gate_dst (N := 2) rfl ?_); refine BX 2 30 #[.int .i64 a0_0, .int .i64 a0_1, .int .i64 a0_2] ?_; intro gb277 hg w20 hbox hb; have BK277 := Aside0.mk (hbox); have GW277 := (GS hg : Aside0 (w.heap.size ≤ gb277)); have GE277 := GW277; replace HB := BS HB hb; clear hb hbox hg; obtain ⟨hcz21_0, hcz21_1, hcz21_2, hfz21_0, hfz21_1, hfz21_2⟩ := CZ3 BK277) | ((with_reducible refine GC 34 rfl ?_); refine GL 6 Try.func34 (spec_MazeOk.calls a0_0 a0_1 a0_2 false _ A3.out) ?_; rintro e w22 ⟨rfl, hb⟩; refine ⟨_, rfl, ?_⟩; replace BK277 := BB BK277 hb; replace HB := BS HB hb; clear hb))
  go_ret
  exact ⟨RZ, BZ⟩

def spec_Neighbor.j0 : Nat → Int → Int → Int → Int → Option (Int)
 | 0, _, _, _, _ => none
 | k + 1, x7, x8, x283000, x283001 => (spec_l01In.f x7 0 (wrap64 (x283000 - 1))).bind fun t285 => (if t285 = true then ((spec_l01In.f x8 0 (wrap64 (x283001 - 1))).bind fun t286 => (if t286 = true then (some (wrap64 ((wrap64 (x8 * x283000)) + x7))) else (some (-1)))) else (some (-1)))
def spec_Neighbor.f (k : Nat) (a0_0 : Int) (a0_1 : Int) (a1 : Int) (a2 : Int) : Option (Int) := (spec_CountCells.f a0_0 a0_1).bind fun t283 => ((spec_l01In.f a1 0 (wrap64 (t283 - 1))).bind fun t284 => (if t284 = true then (if a0_0 = 0 then (none) else (if a2 = 0 then (spec_Neighbor.j0 k (Int.tmod a1 a0_0) (wrap64 ((wrap64 (Int.tdiv a1 a0_0)) - 1)) a0_0 a0_1) else (if a2 = 1 then (spec_Neighbor.j0 k (wrap64 ((Int.tmod a1 a0_0) + 1)) (wrap64 (Int.tdiv a1 a0_0)) a0_0 a0_1) else (if a2 = 2 then (spec_Neighbor.j0 k (Int.tmod a1 a0_0) (wrap64 ((wrap64 (Int.tdiv a1 a0_0)) + 1)) a0_0 a0_1) else (if a2 = 3 then (spec_Neighbor.j0 k (wrap64 ((Int.tmod a1 a0_0) - 1)) (wrap64 (Int.tdiv a1 a0_0)) a0_0 a0_1) else (some (-1))))))) else (some (-1))))
theorem spec_Neighbor.mono_l : ∀ k, (∀ y0 y1 y2 y3, LeO (spec_Neighbor.j0 k y0 y1 y2 y3) (spec_Neighbor.j0 (k + 1) y0 y1 y2 y3))
 | 0 => fun _ _ _ _ r h => by simp [spec_Neighbor.j0] at h
 | k + 1 => by
  have ih0 := spec_Neighbor.mono_l k
  ·intro y0 y1 y2 y3
   unfold spec_Neighbor.j0
   repeat' first
   | (with_reducible exact ih0 _ _ _ _)
   | (with_reducible exact LeO.refl _)
   | (with_reducible exact LeO.none _)
   | (with_reducible refine LeO.ite ?_ ?_)
   | (with_reducible refine LeO.bind ?_ (fun _ => ?_))
   | exact ih0 _ _ _ _
   | exact LeO.none _
   | refine LeO.ite ?_ ?_
   | refine LeO.bind ?_ (fun _ => ?_)
theorem spec_Neighbor.mono : ∀ a0 a1 a2 a3 k, LeO (spec_Neighbor.f k a0 a1 a2 a3) (spec_Neighbor.f (k + 1) a0 a1 a2 a3) := by
 intro a0 a1 a2 a3 k
 have ih0 := spec_Neighbor.mono_l k
 unfold spec_Neighbor.f
 repeat' first
   | (with_reducible exact ih0 _ _ _ _)
   | (with_reducible exact LeO.refl _)
   | (with_reducible exact LeO.none _)
   | (with_reducible refine LeO.ite ?_ ?_)
   | (with_reducible refine LeO.bind ?_ (fun _ => ?_))
   | exact ih0 _ _ _ _
   | exact LeO.none _
   | refine LeO.ite ?_ ?_
   | refine LeO.bind ?_ (fun _ => ?_)
set_option maxHeartbeats 8000000 in
set_option maxRecDepth 100000 in
theorem spec_Neighbor.calls (k : Nat) (a0_0 : Int) (a0_1 : Int) (a1 : Int) (a2 : Int) (r : Int) (w : World) (h : spec_Neighbor.f k a0_0 a0_1 a1 a2 = some r) :
  Calls Try.prog 53 #[.agg #[.int .i64 a0_0, .int .i64 a0_1], .int .i64 a1, .int .i64 a2] w fun e w' => e = .returned (.int .i64 r) ∧ Below w.heap.size w w' := by
 have hu28 := Try.underlying28
 have HB := Aside0.mk (Below.refl w.heap.size w)
 have H := h
 unfold spec_Neighbor.f at H
 clear h
 obtain ⟨t283, A4, H⟩ := BD H
 obtain ⟨t284, A5, H⟩ := BD H
 by_cases c6 : t284 = true
 ·subst c6
  replace H := IT H
  by_cases c7 : a0_0 = 0
  ·rw [if_pos c7] at H
   exact absurd H (by simp)
  ·rw [if_neg c7] at H
   obtain ⟨c7b0, c7b1⟩ := QF c7
   have HC8 := Aside0.mk H
   clear H
   go_enter Try.func53, Try.ntmps53
   go_upto_block 0 with (first | ((with_reducible refine gate_dst (N := 3) rfl ?_); refine BX 3 28 #[.int .i64 a0_0, .int .i64 a0_1] ?_; intro gb282 hg w9 hbox hb; have BK282 := Aside0.mk (hbox); have GW282 := (GS hg : Aside0 (w.heap.size ≤ gb282)); have GE282 := GW282; replace HB := BS HB hb; clear hb hbox hg; obtain ⟨hcz10_0, hcz10_1, hfz10_0, hfz10_1⟩ := CZ2 BK282) | ((with_reducible refine GC 22 rfl ?_); refine GL 11 Try.func22 (spec_CountCells.calls a0_0 a0_1 t283 _ A4.out) ?_; rintro e w11 ⟨rfl, hb⟩; refine ⟨_, rfl, ?_⟩; replace BK282 := BB BK282 hb; replace HB := BS HB hb; clear hb) | ((with_reducible refine GC 67 rfl ?_); refine GL 13 Try.func67 (spec_l01In.calls a1 0 (wrap64 (t283 - 1)) true _ A5.out) ?_; rintro e w' ⟨rfl, ⟨nd, rfl⟩⟩; refine ⟨_, rfl, ?_⟩; obtain ⟨hcz12_0, hcz12_1, hfz12_0, hfz12_1⟩ := CZ2 BK282))
   (try simp only [Act.put, List.setIfInBounds_toArray, List.set_cons_zero, List.set_cons_succ])
   go_cut [7, 8] (fun v7 v8 wc => ∃ (kq : Nat) (x7_7 : Int) (x8_7 : Int), v7 = .int .i64 x7_7 ∧ v8 = .int .i64 x8_7 ∧ Aside0 (spec_Neighbor.j0 kq x7_7 x8_7 a0_0 a0_1 = some r) ∧ Aside0 (kq ≤ k) ∧ Aside0 (wc.heap[gb282]? = some (.cells #[.int .i64 a0_0, .int .i64 a0_1] 28 (0, 0))) ∧ Aside0 (Below w.heap.size w wc))
   case first =>
    have H := HC8.out
    clear HC8
    by_cases c13 : a2 = 0
    ·rw [if_pos c13] at H
     obtain ⟨c13b0, c13b1⟩ := QT c13
     clear c13
     (first | rw [c13b0] | (simp only [i64_w, i32_w]; rw [c13b0]) | skip)
     have H' := Aside0.mk H
     clear H
     go_wp2
     go_meet
     case rel => exact ⟨_, (Int.tmod a1 a0_0), (wrap64 ((wrap64 (Int.tdiv a1 a0_0)) - 1)), VZ, VZ, H', ⟨by first | omega | exact Nat.le_refl _⟩, ⟨BKZ⟩, ⟨BZ⟩⟩
    ·rw [if_neg c13] at H
     obtain ⟨c13b0, c13b1⟩ := QF c13
     (first | rw [c13b0] | (simp only [i64_w, i32_w]; rw [c13b0]) | skip)
     by_cases c14 : a2 = 1
     ·rw [if_pos c14] at H
      obtain ⟨c14b0, c14b1⟩ := QT c14
      clear c14
      have H' := Aside0.mk H
      clear H
      go_wp2
      go_meet
      case rel => exact ⟨_, (wrap64 ((Int.tmod a1 a0_0) + 1)), (wrap64 (Int.tdiv a1 a0_0)), VZ, VZ, H', ⟨by first | omega | exact Nat.le_refl _⟩, ⟨BKZ⟩, ⟨BZ⟩⟩
     ·rw [if_neg c14] at H
      obtain ⟨c14b0, c14b1⟩ := QF c14
      by_cases c15 : a2 = 2
      ·rw [if_pos c15] at H
       obtain ⟨c15b0, c15b1⟩ := QT c15
       clear c15
       have H' := Aside0.mk H
       clear H
       go_wp2
       go_meet
       case rel => exact ⟨_, (Int.tmod a1 a0_0), (wrap64 ((wrap64 (Int.tdiv a1 a0_0)) + 1)), VZ, VZ, H', ⟨by first | omega | exact Nat.le_refl _⟩, ⟨BKZ⟩, ⟨BZ⟩⟩
      ·rw [if_neg c15] at H
       obtain ⟨c15b0, c15b1⟩ := QF c15
       by_cases c16 : a2 = 3
       ·rw [if_pos c16] at H
        obtain ⟨c16b0, c16b1⟩ := QT c16
        clear c16
        have H' := Aside0.mk H
        clear H
        go_wp2
        go_meet
        case rel => exact ⟨_, (wrap64 ((Int.tmod a1 a0_0) - 1)), (wrap64 (Int.tdiv a1 a0_0)), VZ, VZ, H', ⟨by first | omega | exact Nat.le_refl _⟩, ⟨BKZ⟩, ⟨BZ⟩⟩
       ·rw [if_neg c16] at H
        obtain ⟨c16b0, c16b1⟩ := QF c16
        obtain rfl := Option.some.inj H
        go_wp2
        go_ret
        exact ⟨RZ, BZ⟩
   case rest =>
    clear HC8
    (try clear c7); (try clear c7b0); (try clear c7b1); (try clear hcz10_0); (try clear hcz10_1); (try clear hcz12_0); (try clear hcz12_1); (try clear hfz10_0); (try clear hfz10_1); (try clear hfz12_0); (try clear hfz12_1)
    obtain ⟨kq, x7_7, x8_7, rfl, rfl, HA, HJ7, BK282, HB⟩ := hcut
    cases kq with
    | zero => exact absurd HA.out (by simp [spec_Neighbor.j0])
    | succ kj7 =>
     have H := HA.out
     clear HA
     simp only [spec_Neighbor.j0] at H
     obtain ⟨t285, A17, H⟩ := BD H
     by_cases c18 : t285 = true
     ·subst c18
      replace H := IT H
      obtain ⟨t286, A19, H⟩ := BD H
      by_cases c20 : t286 = true
      ·subst c20
       replace H := IT H
       obtain rfl := Option.some.inj H
       obtain ⟨hcz21_0, hcz21_1, hfz21_0, hfz21_1⟩ := CZ2 BK282
       go_wp2_with (first | ((with_reducible refine GC 67 rfl ?_); refine GL 44 Try.func67 (spec_l01In.calls x7_7 0 (wrap64 (a0_0 - 1)) true _ A17.out) ?_; rintro e w' ⟨rfl, ⟨nd, rfl⟩⟩; refine ⟨_, rfl, ?_⟩) | (go_at_call 67; (with_reducible refine (spec_l01In.calls x8_7 0 (wrap64 (a0_1 - 1)) true _ A19.out).mono ?_); rintro e w' ⟨rfl, ⟨nd, rfl⟩⟩))
       go_ret
       exact ⟨RZ, BZ⟩
      ·replace c20 := Bool.eq_false_iff.mpr c20
       subst c20
       replace H := IE H
       obtain rfl := Option.some.inj H
       obtain ⟨hcz22_0, hcz22_1, hfz22_0, hfz22_1⟩ := CZ2 BK282
       go_wp2_with (first | ((with_reducible refine GC 67 rfl ?_); refine GL 44 Try.func67 (spec_l01In.calls x7_7 0 (wrap64 (a0_0 - 1)) true _ A17.out) ?_; rintro e w' ⟨rfl, ⟨nd, rfl⟩⟩; refine ⟨_, rfl, ?_⟩) | (go_at_call 67; (with_reducible refine (spec_l01In.calls x8_7 0 (wrap64 (a0_1 - 1)) false _ A19.out).mono ?_); rintro e w' ⟨rfl, ⟨nd, rfl⟩⟩))
       go_ret
       exact ⟨RZ, BZ⟩
     ·replace c18 := Bool.eq_false_iff.mpr c18
      subst c18
      replace H := IE H
      obtain rfl := Option.some.inj H
      obtain ⟨hcz23_0, hcz23_1, hfz23_0, hfz23_1⟩ := CZ2 BK282
      go_wp2_with (first | ((with_reducible refine GC 67 rfl ?_); refine GL 44 Try.func67 (spec_l01In.calls x7_7 0 (wrap64 (a0_0 - 1)) false _ A17.out) ?_; rintro e w' ⟨rfl, ⟨nd, rfl⟩⟩; refine ⟨_, rfl, ?_⟩))
      go_ret
      exact ⟨RZ, BZ⟩
 ·replace c6 := Bool.eq_false_iff.mpr c6
  subst c6
  replace H := IE H
  obtain rfl := Option.some.inj H
  go_enter Try.func53, Try.ntmps53
  go_wp2_with (first | ((with_reducible refine gate_dst (N := 3) rfl ?_); refine BX 3 28 #[.int .i64 a0_0, .int .i64 a0_1] ?_; intro gb282 hg w24 hbox hb; have BK282 := Aside0.mk (hbox); have GW282 := (GS hg : Aside0 (w.heap.size ≤ gb282)); have GE282 := GW282; replace HB := BS HB hb; clear hb hbox hg; obtain ⟨hcz25_0, hcz25_1, hfz25_0, hfz25_1⟩ := CZ2 BK282) | ((with_reducible refine GC 22 rfl ?_); refine GL 11 Try.func22 (spec_CountCells.calls a0_0 a0_1 t283 _ A4.out) ?_; rintro e w26 ⟨rfl, hb⟩; refine ⟨_, rfl, ?_⟩; replace BK282 := BB BK282 hb; replace HB := BS HB hb; clear hb) | ((with_reducible refine GC 67 rfl ?_); refine GL 13 Try.func67 (spec_l01In.calls a1 0 (wrap64 (t283 - 1)) false _ A5.out) ?_; rintro e w' ⟨rfl, ⟨nd, rfl⟩⟩; refine ⟨_, rfl, ?_⟩))
  go_ret
  exact ⟨RZ, BZ⟩

def spec_GapAt.f (k : Nat) (a0_0 : Int) (a0_1 : Int) (a1 : Int) (a2 : Int) : Option (Int) := (spec_Neighbor.f k a0_0 a0_1 a1 a2).bind fun t288 => (if t288 < 0 then (some (-1)) else (if a2 = 1 then (if a0_0 = 0 then (none) else (some (wrap64 ((wrap64 ((wrap64 (Int.tdiv (mn a1 t288) a0_0)) * (wrap64 (a0_0 - 1)))) + (Int.tmod (mn a1 t288) a0_0))))) else (if a2 = 3 then (if a0_0 = 0 then (none) else (some (wrap64 ((wrap64 ((wrap64 (Int.tdiv (mn a1 t288) a0_0)) * (wrap64 (a0_0 - 1)))) + (Int.tmod (mn a1 t288) a0_0))))) else ((spec_l02East.f a0_0 a0_1).bind fun t289 => (some (wrap64 (t289 + (mn a1 t288))))))))
theorem spec_GapAt.mono : ∀ a0 a1 a2 a3 k, LeO (spec_GapAt.f k a0 a1 a2 a3) (spec_GapAt.f (k + 1) a0 a1 a2 a3) := by
 intro a0 a1 a2 a3 k
 unfold spec_GapAt.f
 repeat' first
   | (with_reducible exact spec_Neighbor.mono _ _ _ _ _)
   | (with_reducible exact LeO.refl _)
   | (with_reducible exact LeO.none _)
   | (with_reducible refine LeO.ite ?_ ?_)
   | (with_reducible refine LeO.bind ?_ (fun _ => ?_))
   | exact spec_Neighbor.mono _ _ _ _ _
   | exact LeO.none _
   | refine LeO.ite ?_ ?_
   | refine LeO.bind ?_ (fun _ => ?_)
set_option maxHeartbeats 8000000 in
set_option maxRecDepth 100000 in
theorem spec_GapAt.calls (k : Nat) (a0_0 : Int) (a0_1 : Int) (a1 : Int) (a2 : Int) (r : Int) (w : World) (h : spec_GapAt.f k a0_0 a0_1 a1 a2 = some r) :
  Calls Try.prog 52 #[.agg #[.int .i64 a0_0, .int .i64 a0_1], .int .i64 a1, .int .i64 a2] w fun e w' => e = .returned (.int .i64 r) ∧ Below w.heap.size w w' := by
 have hu28 := Try.underlying28
 have HB := Aside0.mk (Below.refl w.heap.size w)
 have H := h
 unfold spec_GapAt.f at H
 clear h
 obtain ⟨t288, A4, H⟩ := BD H
 by_cases c5 : t288 < 0
 ·rw [if_pos c5] at H
  have c5b0 := decide_eq_true c5
  clear c5
  obtain rfl := Option.some.inj H
  go_enter Try.func52, Try.ntmps52
  go_wp2_with (first | ((with_reducible refine gate_dst (N := 3) rfl ?_); refine BX 3 28 #[.int .i64 a0_0, .int .i64 a0_1] ?_; intro gb287 hg w6 hbox hb; have BK287 := Aside0.mk (hbox); have GW287 := (GS hg : Aside0 (w.heap.size ≤ gb287)); have GE287 := GW287; replace HB := BS HB hb; clear hb hbox hg; obtain ⟨hcz7_0, hcz7_1, hfz7_0, hfz7_1⟩ := CZ2 BK287) | (go_at_call 53; (with_reducible refine (spec_Neighbor.calls k a0_0 a0_1 a1 a2 t288 _ A4.out).mono ?_); rintro e w8 ⟨rfl, hb⟩; replace BK287 := BB BK287 hb; replace HB := BS HB hb; clear hb))
  repeat (go_quiet (first | ((with_reducible refine gate_dst (N := 3) rfl ?_); refine BX 3 28 #[.int .i64 a0_0, .int .i64 a0_1] ?_; intro gb287 hg w6 hbox hb; have BK287 := Aside0.mk (hbox); have GW287 := (GS hg : Aside0 (w.heap.size ≤ gb287)); have GE287 := GW287; replace HB := BS HB hb; clear hb hbox hg; obtain ⟨hcz7_0, hcz7_1, hfz7_0, hfz7_1⟩ := CZ2 BK287) | (go_at_call 53; (with_reducible refine (spec_Neighbor.calls k a0_0 a0_1 a1 a2 t288 _ A4.out).mono ?_); rintro e w8 ⟨rfl, hb⟩; replace BK287 := BB BK287 hb; replace HB := BS HB hb; clear hb)); try go_wp2_with (first | ((with_reducible refine gate_dst (N := 3) rfl ?_); refine BX 3 28 #[.int .i64 a0_0, .int .i64 a0_1] ?_; intro gb287 hg w6 hbox hb; have BK287 := Aside0.mk (hbox); have GW287 := (GS hg : Aside0 (w.heap.size ≤ gb287)); have GE287 := GW287; replace HB := BS HB hb; clear hb hbox hg; obtain ⟨hcz7_0, hcz7_1, hfz7_0, hfz7_1⟩ := CZ2 BK287) | (go_at_call 53; (with_reducible refine (spec_Neighbor.calls k a0_0 a0_1 a1 a2 t288 _ A4.out).mono ?_); rintro e w8 ⟨rfl, hb⟩; replace BK287 := BB BK287 hb; replace HB := BS HB hb; clear hb)))
  go_ret
  exact ⟨RZ, BZ⟩
 ·rw [if_neg c5] at H
  have c5b0 := decide_eq_false c5
  clear c5
  obtain ⟨ji9, hji9⟩ : ∃ j_ : Int, (mn a1 t288) = j_ := ⟨_, rfl⟩
  replace H : (if a2 = 1 then (if a0_0 = 0 then (none) else (some (wrap64 ((wrap64 ((wrap64 (Int.tdiv (ji9) a0_0)) * (wrap64 (a0_0 - 1)))) + (Int.tmod (ji9) a0_0))))) else (if a2 = 3 then (if a0_0 = 0 then (none) else (some (wrap64 ((wrap64 ((wrap64 (Int.tdiv (ji9) a0_0)) * (wrap64 (a0_0 - 1)))) + (Int.tmod (ji9) a0_0))))) else ((spec_l02East.f a0_0 a0_1).bind fun t289 => (some (wrap64 (t289 + (ji9))))))) = some r := by first | (rw [hji9] at H; exact H) | (simp only [hji9] at H ⊢; exact H)
  (try rw [hji9] at A4)
  have hji9_ : (if t288 < a1 then t288 else a1) = ji9 := hji9
  by_cases c10 : a2 = 1
  ·rw [if_pos c10] at H
   obtain ⟨c10b0, c10b1⟩ := QT c10
   clear c10
   by_cases c11 : a0_0 = 0
   ·rw [if_pos c11] at H
    exact absurd H (by simp)
   ·rw [if_neg c11] at H
    obtain ⟨c11b0, c11b1⟩ := QF c11
    obtain rfl := Option.some.inj H
    go_enter Try.func52, Try.ntmps52
    go_wp2_with (first | ((with_reducible refine gate_dst (N := 3) rfl ?_); refine BX 3 28 #[.int .i64 a0_0, .int .i64 a0_1] ?_; intro gb287 hg w12 hbox hb; have BK287 := Aside0.mk (hbox); have GW287 := (GS hg : Aside0 (w.heap.size ≤ gb287)); have GE287 := GW287; replace HB := BS HB hb; clear hb hbox hg; obtain ⟨hcz13_0, hcz13_1, hfz13_0, hfz13_1⟩ := CZ2 BK287) | (go_at_call 53; (with_reducible refine (spec_Neighbor.calls k a0_0 a0_1 a1 a2 t288 _ A4.out).mono ?_); rintro e w14 ⟨rfl, hb⟩; replace BK287 := BB BK287 hb; replace HB := BS HB hb; clear hb; obtain ⟨hcz15_0, hcz15_1, hfz15_0, hfz15_1⟩ := CZ2 BK287))
    repeat (go_quiet (first | ((with_reducible refine gate_dst (N := 3) rfl ?_); refine BX 3 28 #[.int .i64 a0_0, .int .i64 a0_1] ?_; intro gb287 hg w12 hbox hb; have BK287 := Aside0.mk (hbox); have GW287 := (GS hg : Aside0 (w.heap.size ≤ gb287)); have GE287 := GW287; replace HB := BS HB hb; clear hb hbox hg; obtain ⟨hcz13_0, hcz13_1, hfz13_0, hfz13_1⟩ := CZ2 BK287) | (go_at_call 53; (with_reducible refine (spec_Neighbor.calls k a0_0 a0_1 a1 a2 t288 _ A4.out).mono ?_); rintro e w14 ⟨rfl, hb⟩; replace BK287 := BB BK287 hb; replace HB := BS HB hb; clear hb; obtain ⟨hcz15_0, hcz15_1, hfz15_0, hfz15_1⟩ := CZ2 BK287)); try go_wp2_with (first | ((with_reducible refine gate_dst (N := 3) rfl ?_); refine BX 3 28 #[.int .i64 a0_0, .int .i64 a0_1] ?_; intro gb287 hg w12 hbox hb; have BK287 := Aside0.mk (hbox); have GW287 := (GS hg : Aside0 (w.heap.size ≤ gb287)); have GE287 := GW287; replace HB := BS HB hb; clear hb hbox hg; obtain ⟨hcz13_0, hcz13_1, hfz13_0, hfz13_1⟩ := CZ2 BK287) | (go_at_call 53; (with_reducible refine (spec_Neighbor.calls k a0_0 a0_1 a1 a2 t288 _ A4.out).mono ?_); rintro e w14 ⟨rfl, hb⟩; replace BK287 := BB BK287 hb; replace HB := BS HB hb; clear hb; obtain ⟨hcz15_0, hcz15_1, hfz15_0, hfz15_1⟩ := CZ2 BK287)))
    go_ret
    exact ⟨by first | rfl | (simp [errW_none, errW_some] <;> rfl) | (simp only [← hji9]; first | rfl | (simp [errW_none, errW_some] <;> rfl)) | (simp [*, errW_none, errW_some] <;> rfl), BZ⟩
  ·rw [if_neg c10] at H
   obtain ⟨c10b0, c10b1⟩ := QF c10
   by_cases c16 : a2 = 3
   ·rw [if_pos c16] at H
    obtain ⟨c16b0, c16b1⟩ := QT c16
    clear c16
    by_cases c17 : a0_0 = 0
    ·rw [if_pos c17] at H
     exact absurd H (by simp)
    ·rw [if_neg c17] at H
     obtain ⟨c17b0, c17b1⟩ := QF c17
     obtain rfl := Option.some.inj H
     go_enter Try.func52, Try.ntmps52
     go_wp2_with (first | ((with_reducible refine gate_dst (N := 3) rfl ?_); refine BX 3 28 #[.int .i64 a0_0, .int .i64 a0_1] ?_; intro gb287 hg w18 hbox hb; have BK287 := Aside0.mk (hbox); have GW287 := (GS hg : Aside0 (w.heap.size ≤ gb287)); have GE287 := GW287; replace HB := BS HB hb; clear hb hbox hg; obtain ⟨hcz19_0, hcz19_1, hfz19_0, hfz19_1⟩ := CZ2 BK287) | (go_at_call 53; (with_reducible refine (spec_Neighbor.calls k a0_0 a0_1 a1 a2 t288 _ A4.out).mono ?_); rintro e w20 ⟨rfl, hb⟩; replace BK287 := BB BK287 hb; replace HB := BS HB hb; clear hb; obtain ⟨hcz21_0, hcz21_1, hfz21_0, hfz21_1⟩ := CZ2 BK287))
     repeat (go_quiet (first | ((with_reducible refine gate_dst (N := 3) rfl ?_); refine BX 3 28 #[.int .i64 a0_0, .int .i64 a0_1] ?_; intro gb287 hg w18 hbox hb; have BK287 := Aside0.mk (hbox); have GW287 := (GS hg : Aside0 (w.heap.size ≤ gb287)); have GE287 := GW287; replace HB := BS HB hb; clear hb hbox hg; obtain ⟨hcz19_0, hcz19_1, hfz19_0, hfz19_1⟩ := CZ2 BK287) | (go_at_call 53; (with_reducible refine (spec_Neighbor.calls k a0_0 a0_1 a1 a2 t288 _ A4.out).mono ?_); rintro e w20 ⟨rfl, hb⟩; replace BK287 := BB BK287 hb; replace HB := BS HB hb; clear hb; obtain ⟨hcz21_0, hcz21_1, hfz21_0, hfz21_1⟩ := CZ2 BK287)); try go_wp2_with (first | ((with_reducible refine gate_dst (N := 3) rfl ?_); refine BX 3 28 #[.int .i64 a0_0, .int .i64 a0_1] ?_; intro gb287 hg w18 hbox hb; have BK287 := Aside0.mk (hbox); have GW287 := (GS hg : Aside0 (w.heap.size ≤ gb287)); have GE287 := GW287; replace HB := BS HB hb; clear hb hbox hg; obtain ⟨hcz19_0, hcz19_1, hfz19_0, hfz19_1⟩ := CZ2 BK287) | (go_at_call 53; (with_reducible refine (spec_Neighbor.calls k a0_0 a0_1 a1 a2 t288 _ A4.out).mono ?_); rintro e w20 ⟨rfl, hb⟩; replace BK287 := BB BK287 hb; replace HB := BS HB hb; clear hb; obtain ⟨hcz21_0, hcz21_1, hfz21_0, hfz21_1⟩ := CZ2 BK287)))
     go_ret
     exact ⟨by first | rfl | (simp [errW_none, errW_some] <;> rfl) | (simp only [← hji9]; first | rfl | (simp [errW_none, errW_some] <;> rfl)) | (simp [*, errW_none, errW_some] <;> rfl), BZ⟩
   ·rw [if_neg c16] at H
    obtain ⟨c16b0, c16b1⟩ := QF c16
    obtain ⟨t289, A22, H⟩ := BD H
    obtain rfl := Option.some.inj H
    go_enter Try.func52, Try.ntmps52
    go_wp2_with (first | ((with_reducible refine gate_dst (N := 3) rfl ?_); refine BX 3 28 #[.int .i64 a0_0, .int .i64 a0_1] ?_; intro gb287 hg w23 hbox hb; have BK287 := Aside0.mk (hbox); have GW287 := (GS hg : Aside0 (w.heap.size ≤ gb287)); have GE287 := GW287; replace HB := BS HB hb; clear hb hbox hg; obtain ⟨hcz24_0, hcz24_1, hfz24_0, hfz24_1⟩ := CZ2 BK287) | (go_at_call 53; (with_reducible refine (spec_Neighbor.calls k a0_0 a0_1 a1 a2 t288 _ A4.out).mono ?_); rintro e w25 ⟨rfl, hb⟩; replace BK287 := BB BK287 hb; replace HB := BS HB hb; clear hb; obtain ⟨hcz26_0, hcz26_1, hfz26_0, hfz26_1⟩ := CZ2 BK287) | (go_at_call 85; (with_reducible refine (spec_l02East.calls a0_0 a0_1 t289 _ A22.out).mono ?_); rintro e w27 ⟨rfl, hb⟩; replace BK287 := BB BK287 hb; replace HB := BS HB hb; clear hb))
    repeat (go_quiet (first | ((with_reducible refine gate_dst (N := 3) rfl ?_); refine BX 3 28 #[.int .i64 a0_0, .int .i64 a0_1] ?_; intro gb287 hg w23 hbox hb; have BK287 := Aside0.mk (hbox); have GW287 := (GS hg : Aside0 (w.heap.size ≤ gb287)); have GE287 := GW287; replace HB := BS HB hb; clear hb hbox hg; obtain ⟨hcz24_0, hcz24_1, hfz24_0, hfz24_1⟩ := CZ2 BK287) | (go_at_call 53; (with_reducible refine (spec_Neighbor.calls k a0_0 a0_1 a1 a2 t288 _ A4.out).mono ?_); rintro e w25 ⟨rfl, hb⟩; replace BK287 := BB BK287 hb; replace HB := BS HB hb; clear hb; obtain ⟨hcz26_0, hcz26_1, hfz26_0, hfz26_1⟩ := CZ2 BK287) | (go_at_call 85; (with_reducible refine (spec_l02East.calls a0_0 a0_1 t289 _ A22.out).mono ?_); rintro e w27 ⟨rfl, hb⟩; replace BK287 := BB BK287 hb; replace HB := BS HB hb; clear hb)); try go_wp2_with (first | ((with_reducible refine gate_dst (N := 3) rfl ?_); refine BX 3 28 #[.int .i64 a0_0, .int .i64 a0_1] ?_; intro gb287 hg w23 hbox hb; have BK287 := Aside0.mk (hbox); have GW287 := (GS hg : Aside0 (w.heap.size ≤ gb287)); have GE287 := GW287; replace HB := BS HB hb; clear hb hbox hg; obtain ⟨hcz24_0, hcz24_1, hfz24_0, hfz24_1⟩ := CZ2 BK287) | (go_at_call 53; (with_reducible refine (spec_Neighbor.calls k a0_0 a0_1 a1 a2 t288 _ A4.out).mono ?_); rintro e w25 ⟨rfl, hb⟩; replace BK287 := BB BK287 hb; replace HB := BS HB hb; clear hb; obtain ⟨hcz26_0, hcz26_1, hfz26_0, hfz26_1⟩ := CZ2 BK287) | (go_at_call 85; (with_reducible refine (spec_l02East.calls a0_0 a0_1 t289 _ A22.out).mono ?_); rintro e w27 ⟨rfl, hb⟩; replace BK287 := BB BK287 hb; replace HB := BS HB hb; clear hb)))
    go_ret
    exact ⟨by first | rfl | (simp [errW_none, errW_some] <;> rfl) | (simp only [← hji9]; first | rfl | (simp [errW_none, errW_some] <;> rfl)) | (simp [*, errW_none, errW_some] <;> rfl), BZ⟩

def spec_Step.f (k : Nat) (a0_0 : Int) (a0_1 : Int) (a0_2 : Int) (a1 : Int) (a2 : Int) : Option (Int) := (spec_MazeOk.f a0_0 a0_1 a0_2).bind fun t291 => (if t291 = true then ((spec_GapAt.f k a0_0 a0_1 a1 a2).bind fun t292 => ((spec_IsPassage.f a0_0 a0_1 a0_2 t292).bind fun t293 => (if t293 = true then ((spec_Neighbor.f k a0_0 a0_1 a1 a2).bind fun t294 => (some t294)) else (some (-1))))) else (some (-1)))
theorem spec_Step.mono : ∀ a0 a1 a2 a3 a4 k, LeO (spec_Step.f k a0 a1 a2 a3 a4) (spec_Step.f (k + 1) a0 a1 a2 a3 a4) := by
 intro a0 a1 a2 a3 a4 k
 unfold spec_Step.f
 repeat' first
   | (with_reducible exact spec_GapAt.mono _ _ _ _ _)
   | (with_reducible exact spec_Neighbor.mono _ _ _ _ _)
   | (with_reducible exact LeO.refl _)
   | (with_reducible exact LeO.none _)
   | (with_reducible refine LeO.ite ?_ ?_)
   | (with_reducible refine LeO.bind ?_ (fun _ => ?_))
   | exact spec_GapAt.mono _ _ _ _ _
   | exact spec_Neighbor.mono _ _ _ _ _
   | exact LeO.none _
   | refine LeO.ite ?_ ?_
   | refine LeO.bind ?_ (fun _ => ?_)
def spec_Step.T1 : Bool × List (List Nat × List Nat) := (true, [([], []), ([0], [0]), ([1], [1]), ([2, 1], [2]), ([3], [3]), ([3], [3]), ([5, 3], [3, 5]), ([3], [3]), ([3], [3]), ([6, 7, 8, 3, 3], [3, 6, 7, 8]), ([4, 9, 9, 3], [3, 4, 9]), ([10, 3], [3, 10]), ([3, 11], [3, 11])])
def spec_Step.B1 : List Nat := [0, 1, 3, 7, 15, 15, 47, 15, 15, 495, 1023, 2047, 4095]
theorem spec_Step.tab1 : rtab .any (opsOf Try.f21 1) = spec_Step.T1 := by kernel_rfl
theorem spec_Step.bits1 : waitsOk spec_Step.T1.2 spec_Step.B1 = true := by kernel_rfl
set_option maxHeartbeats 8000000 in
set_option maxRecDepth 100000 in
theorem spec_Step.calls (k : Nat) (a0_0 : Int) (a0_1 : Int) (a0_2 : Int) (a1 : Int) (a2 : Int) (r : Int) (w : World) (h : spec_Step.f k a0_0 a0_1 a0_2 a1 a2 = some r) :
  Calls Try.prog 21 #[.agg #[.int .i64 a0_0, .int .i64 a0_1, .int .i64 a0_2], .int .i64 a1, .int .i64 a2] w fun e w' => e = .returned (.int .i64 r) ∧ Below w.heap.size w w' := by
 have hu30 := Try.underlying30
 have hu28 := Try.underlying28
 have HB := Aside0.mk (Below.refl w.heap.size w)
 have H := h
 unfold spec_Step.f at H
 clear h
 obtain ⟨t291, A4, H⟩ := BD H
 by_cases c5 : t291 = true
 ·subst c5
  replace H := IT H
  obtain ⟨t292, A6, H⟩ := BD H
  obtain ⟨t293, A7, H⟩ := BD H
  by_cases c8 : t293 = true
  ·subst c8
   replace H := IT H
   obtain ⟨t294, A9, H⟩ := BD H
   obtain rfl := Option.some.inj H
   go_enter Try.func21, Try.ntmps21
   try go_wp2_with (first | ((with_reducible refine gate_dst (N := 3) rfl ?_); refine BX 3 30 #[.int .i64 a0_0, .int .i64 a0_1, .int .i64 a0_2] ?_; intro gb290 hg w10 hbox hb; have BK290 := Aside0.mk (hbox); have GW290 := (GS hg : Aside0 (w.heap.size ≤ gb290)); have GE290 := GW290; replace HB := BS HB hb; clear hb hbox hg))
   replace BK290 := Aside0.mk (blk_drew BK290.out)
   replace HB := Aside0.mk (below_drew1 HB.out)
   refine ST 13 (fun w' => w'.cell? ⟨gb290, 0, none⟩ = some (.int .i64 a0_0) ∧ w'.cell? ⟨gb290, 1, none⟩ = some (.int .i64 a0_1) ∧ w'.cell? ⟨gb290, 2, none⟩ = some (.int .i64 a0_2)) [] spec_Step.tab1 spec_Step.bits1 ⟨CE BK290 0, CE BK290 1, CE BK290 2⟩ (fun hHeld HT_ HW_ => ?_)
   generalize w10.drew = w11 at BK290 HB hHeld ⊢
   refine TA 0 7 HT_ HW_ hHeld ?_
   refine OG 1 8 HT_ Try.func34 (spec_MazeOk.calls a0_0 a0_1 a0_2 true _ A4.out) (fun K hK => ?_)
   rintro e w12 ⟨rfl, hb⟩
   refine ⟨_, rfl, ?_⟩
   replace BK290 := BB BK290 hb
   replace HB := BS HB hb
   clear hb
   refine HN hK ⟨CE BK290 0, CE BK290 1, CE BK290 2⟩ (fun hHeld => ?_)
   clear hK K
   refine PU 2 9 HT_ ?_
   refine PU 3 10 HT_ ?_
   refine PU 5 12 HT_ ?_
   refine PU 7 14 HT_ ?_
   refine PU 8 15 HT_ ?_
   refine TA 4 11 HT_ HW_ hHeld ?_
   refine TA 6 13 HT_ HW_ hHeld ?_
   refine OG 9 16 HT_ Try.func52 (spec_GapAt.calls k a0_0 a0_1 a1 a2 t292 _ A6.out) (fun K hK => ?_)
   rintro e w13 ⟨rfl, hb⟩
   refine ⟨_, rfl, ?_⟩
   replace BK290 := BB BK290 hb
   replace HB := BS HB hb
   clear hb
   refine HN hK ⟨CE BK290 0, CE BK290 1, CE BK290 2⟩ (fun hHeld => ?_)
   clear hK K
   refine OG 10 17 HT_ Try.func51 (spec_IsPassage.calls a0_0 a0_1 a0_2 t292 true _ A7.out) (fun K hK => ?_)
   rintro e w14 ⟨rfl, hb⟩
   refine ⟨_, rfl, ?_⟩
   replace BK290 := BB BK290 hb
   replace HB := BS HB hb
   clear hb
   refine HN hK ⟨CE BK290 0, CE BK290 1, CE BK290 2⟩ (fun hHeld => ?_)
   clear hK K
   refine PU 11 18 HT_ ?_
   refine PU 12 19 HT_ ?_
   refine done_ (done_of HT_.out (by kernel_rfl)) ?_
   obtain ⟨hcz15_0, hcz15_1, hcz15_2, hfz15_0, hfz15_1, hfz15_2⟩ := CZ3 BK290
   try go_wp2_with (first | ((with_reducible refine GC 53 rfl ?_); refine GL 24 Try.func53 (spec_Neighbor.calls k a0_0 a0_1 a1 a2 t294 _ A9.out) ?_; rintro e w16 ⟨rfl, hb⟩; refine ⟨_, rfl, ?_⟩; replace BK290 := BB BK290 hb; replace HB := BS HB hb; clear hb))
   go_ret
   exact ⟨RZ, BZ⟩
  ·replace c8 := Bool.eq_false_iff.mpr c8
   subst c8
   replace H := IE H
   obtain rfl := Option.some.inj H
   go_enter Try.func21, Try.ntmps21
   try go_wp2_with (first | ((with_reducible refine gate_dst (N := 3) rfl ?_); refine BX 3 30 #[.int .i64 a0_0, .int .i64 a0_1, .int .i64 a0_2] ?_; intro gb290 hg w17 hbox hb; have BK290 := Aside0.mk (hbox); have GW290 := (GS hg : Aside0 (w.heap.size ≤ gb290)); have GE290 := GW290; replace HB := BS HB hb; clear hb hbox hg))
   replace BK290 := Aside0.mk (blk_drew BK290.out)
   replace HB := Aside0.mk (below_drew1 HB.out)
   refine ST 13 (fun w' => w'.cell? ⟨gb290, 0, none⟩ = some (.int .i64 a0_0) ∧ w'.cell? ⟨gb290, 1, none⟩ = some (.int .i64 a0_1) ∧ w'.cell? ⟨gb290, 2, none⟩ = some (.int .i64 a0_2)) [] spec_Step.tab1 spec_Step.bits1 ⟨CE BK290 0, CE BK290 1, CE BK290 2⟩ (fun hHeld HT_ HW_ => ?_)
   generalize w17.drew = w18 at BK290 HB hHeld ⊢
   refine TA 0 7 HT_ HW_ hHeld ?_
   refine OG 1 8 HT_ Try.func34 (spec_MazeOk.calls a0_0 a0_1 a0_2 true _ A4.out) (fun K hK => ?_)
   rintro e w19 ⟨rfl, hb⟩
   refine ⟨_, rfl, ?_⟩
   replace BK290 := BB BK290 hb
   replace HB := BS HB hb
   clear hb
   refine HN hK ⟨CE BK290 0, CE BK290 1, CE BK290 2⟩ (fun hHeld => ?_)
   clear hK K
   refine PU 2 9 HT_ ?_
   refine PU 3 10 HT_ ?_
   refine PU 5 12 HT_ ?_
   refine PU 7 14 HT_ ?_
   refine PU 8 15 HT_ ?_
   refine TA 4 11 HT_ HW_ hHeld ?_
   refine TA 6 13 HT_ HW_ hHeld ?_
   refine OG 9 16 HT_ Try.func52 (spec_GapAt.calls k a0_0 a0_1 a1 a2 t292 _ A6.out) (fun K hK => ?_)
   rintro e w20 ⟨rfl, hb⟩
   refine ⟨_, rfl, ?_⟩
   replace BK290 := BB BK290 hb
   replace HB := BS HB hb
   clear hb
   refine HN hK ⟨CE BK290 0, CE BK290 1, CE BK290 2⟩ (fun hHeld => ?_)
   clear hK K
   refine OG 10 17 HT_ Try.func51 (spec_IsPassage.calls a0_0 a0_1 a0_2 t292 false _ A7.out) (fun K hK => ?_)
   rintro e w21 ⟨rfl, hb⟩
   refine ⟨_, rfl, ?_⟩
   replace BK290 := BB BK290 hb
   replace HB := BS HB hb
   clear hb
   refine HN hK ⟨CE BK290 0, CE BK290 1, CE BK290 2⟩ (fun hHeld => ?_)
   clear hK K
   refine PU 11 18 HT_ ?_
   refine PU 12 19 HT_ ?_
   refine done_ (done_of HT_.out (by kernel_rfl)) ?_
   try go_wp2
   go_ret
   exact ⟨RZ, BZ⟩
 ·replace c5 := Bool.eq_false_iff.mpr c5
  subst c5
  replace H := IE H
  obtain rfl := Option.some.inj H
  go_enter Try.func21, Try.ntmps21
  try go_wp2_with (first | ((with_reducible refine gate_dst (N := 3) rfl ?_); refine BX 3 30 #[.int .i64 a0_0, .int .i64 a0_1, .int .i64 a0_2] ?_; intro gb290 hg w22 hbox hb; have BK290 := Aside0.mk (hbox); have GW290 := (GS hg : Aside0 (w.heap.size ≤ gb290)); have GE290 := GW290; replace HB := BS HB hb; clear hb hbox hg))
  replace BK290 := Aside0.mk (blk_drew BK290.out)
  replace HB := Aside0.mk (below_drew1 HB.out)
  refine ST 13 (fun w' => w'.cell? ⟨gb290, 0, none⟩ = some (.int .i64 a0_0) ∧ w'.cell? ⟨gb290, 1, none⟩ = some (.int .i64 a0_1) ∧ w'.cell? ⟨gb290, 2, none⟩ = some (.int .i64 a0_2)) [] spec_Step.tab1 spec_Step.bits1 ⟨CE BK290 0, CE BK290 1, CE BK290 2⟩ (fun hHeld HT_ HW_ => ?_)
  generalize w22.drew = w23 at BK290 HB hHeld ⊢
  refine TA 0 7 HT_ HW_ hHeld ?_
  refine OG 1 8 HT_ Try.func34 (spec_MazeOk.calls a0_0 a0_1 a0_2 false _ A4.out) (fun K hK => ?_)
  rintro e w24 ⟨rfl, hb⟩
  refine ⟨_, rfl, ?_⟩
  replace BK290 := BB BK290 hb
  replace HB := BS HB hb
  clear hb
  refine HN hK ⟨CE BK290 0, CE BK290 1, CE BK290 2⟩ (fun hHeld => ?_)
  clear hK K
  refine PU 2 9 HT_ ?_
  refine PU 3 10 HT_ ?_
  refine PX 4 11 HT_ ?_
  refine PX 5 12 HT_ ?_
  refine PX 6 13 HT_ ?_
  refine PX 7 14 HT_ ?_
  refine PX 8 15 HT_ ?_
  refine PX 9 16 HT_ ?_
  refine PX 10 17 HT_ ?_
  refine PX 11 18 HT_ ?_
  refine PU 12 19 HT_ ?_
  refine done_ (done_of HT_.out (by kernel_rfl)) ?_
  try go_wp2
  go_ret
  exact ⟨RZ, BZ⟩

end Go.Proofs.Ytfpomjnhgcmgoaa.P

