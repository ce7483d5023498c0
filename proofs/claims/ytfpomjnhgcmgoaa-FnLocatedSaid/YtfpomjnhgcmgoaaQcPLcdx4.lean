/- Proved here: calls of functions of the program answer as the plain functions beside them say. Conditions: each theorem names its own. Written by a program of this session (hprint.py) out of the translation. -/
import Derived.Test.YtfpomjnhgcmgoaaQcPLcdx0
import Derived.Test.YtfpomjnhgcmgoaaQcPLcdx2
import Derived.Test.YtfpomjnhgcmgoaaQcPLcdx3
namespace Go.Proofs.Ytfpomjnhgcmgoaa.P
open Go.RowKit Go.Proofs.YtfpomjnhgcmgoaaW.PrintWords Go.Proofs.YtfpomjnhgcmgoaaW.PrintLast Go.Proofs.YtfpomjnhgcmgoaaW.PrintMore
attribute [local go_sem] max2_int min2_int max_two min_two max_three min_three max_four min_four   -- for this text's walks alone
set_option linter.unusedVariables false
set_option linter.unusedSimpArgs false

mutual
def impl_PossibleWalkers.j0 : Nat → List Int → List Int → Bool → Int → Int → Int → Option ((List (S43)))
 | 0, _, _, _, _, _, _ => none
 | k + 1, x1, x2, x27, x147000, x147001, x147002 => if x27 = true then (some ([] : List (S43))) else (impl_PossibleWalkers.l0 k x1 x2 ([] : List (S43)) 0 x147000 x147001 x147002)
def impl_PossibleWalkers.l0 : Nat → List Int → List Int → List (S43) → Int → Int → Int → Int → Option ((List (S43)))
 | 0, _, _, _, _, _, _, _ => none
 | k + 1, x1, x2, x7, x8, x147000, x147001, x147002 => (impl_CountCells.f x147000 x147001).bind fun t149 => (if x8 < (wrap64 (4 * t149)) then ((impl_PatternAt.f k x147000 x147001 x147002 (wrap64 (Int.tdiv x8 4)) (Int.tmod x8 4)).bind fun t152 => (if 0 < (x1.length : Int) then (impl_PossibleWalkers.l1 k x1 x2 x7 x8 (t152 == (rd x1 0)) 0 x147000 x147001 x147002 (wrap64 (Int.tdiv x8 4)) (Int.tmod x8 4)) else (none))) else ((slices_SortFunc_impl_Walker_impl_Walker.f x7 ()).bind fun t150 => (some t150)))
def impl_PossibleWalkers.l1 : Nat → List Int → List Int → List (S43) → Int → Bool → Int → Int → Int → Int → Int → Int → Option ((List (S43)))
 | 0, _, _, _, _, _, _, _, _, _, _, _ => none
 | k + 1, x1, x2, x7, x8, x10, x11, x147000, x147001, x147002, x152000, x152001 => if x10 = true then (impl_PossibleWalkers.j3 k x1 x2 x7 x8 x10 x11 (decide (x11 < (x2.length : Int))) x147000 x147001 x147002 x152000 x152001) else (impl_PossibleWalkers.j3 k x1 x2 x7 x8 x10 x11 false x147000 x147001 x147002 x152000 x152001)
def impl_PossibleWalkers.j3 : Nat → List Int → List Int → List (S43) → Int → Bool → Int → Bool → Int → Int → Int → Int → Int → Option ((List (S43)))
 | 0, _, _, _, _, _, _, _, _, _, _, _, _ => none
 | k + 1, x1, x2, x7, x8, x10, x11, x54, x147000, x147001, x147002, x152000, x152001 => if x54 = true then (if 0 ≤ x11 then (if x11 < (x2.length : Int) then ((impl_went.f k x147000 x147001 x147002 x152000 x152001 (rd x2 x11)).bind fun bt159 => (if bt159.2.2 = true then ((impl_PatternAt.f k x147000 x147001 x147002 bt159.1 bt159.2.1).bind fun t162 => (if 0 ≤ (wrap64 (x11 + 1)) then (if (wrap64 (x11 + 1)) < (x1.length : Int) then (impl_PossibleWalkers.l1 k x1 x2 x7 x8 (t162 == (rd x1 (wrap64 (x11 + 1)))) (wrap64 (x11 + 1)) x147000 x147001 x147002 bt159.1 bt159.2.1) else (none)) else (none))) else (impl_PossibleWalkers.l1 k x1 x2 x7 x8 bt159.2.2 (wrap64 (x11 + 1)) x147000 x147001 x147002 bt159.1 bt159.2.1))) else (none)) else (none)) else (if x10 = true then ((slices_Contains_impl_Walker_impl_Walker.f k x7 x152000 x152001).bind fun t154 => (if t154 = true then (impl_PossibleWalkers.l0 k x1 x2 x7 (wrap64 (x8 + 1)) x147000 x147001 x147002) else (if x7.length < 8796093022208 then (impl_PossibleWalkers.l0 k x1 x2 (x7 ++ [(⟨x152000, x152001⟩ : S43)]) (wrap64 (x8 + 1)) x147000 x147001 x147002) else (none)))) else (impl_PossibleWalkers.l0 k x1 x2 x7 (wrap64 (x8 + 1)) x147000 x147001 x147002))
end
def impl_PossibleWalkers.f (k : Nat) (a0_0 : Int) (a0_1 : Int) (a0_2 : Int) (l1 : List Int) (l2 : List Int) : Option ((List (S43))) := (impl_MazeOk.f a0_0 a0_1 a0_2).bind fun t147 => (if t147 = true then (if (l1.length : Int) = (wrap64 ((l2.length : Int) + 1)) then ((impl_areTurns.f l2 40).bind fun t148 => (impl_PossibleWalkers.j0 k l1 l2 (!t148) a0_0 a0_1 a0_2)) else (impl_PossibleWalkers.j0 k l1 l2 true a0_0 a0_1 a0_2)) else (impl_PossibleWalkers.j0 k l1 l2 true a0_0 a0_1 a0_2))
def impl_PossibleWalkers.T8 : Bool × List (List Nat × List Nat) := (true, [([], []), ([], []), ([0, 1], [0, 1]), ([], []), ([3], [3]), ([4], [4]), ([2, 5], [2, 5]), ([6, 2, 0, 1, 2, 3, 4, 5, 6], [6])])
def impl_PossibleWalkers.B8 : List Nat := [0, 0, 3, 0, 8, 24, 63, 127]
theorem impl_PossibleWalkers.tab8 : rtab .any (opsOf Try.f13 8) = impl_PossibleWalkers.T8 := by kernel_rfl
theorem impl_PossibleWalkers.bits8 : waitsOk impl_PossibleWalkers.T8.2 impl_PossibleWalkers.B8 = true := by kernel_rfl
def impl_PossibleWalkers.T12 : Bool × List (List Nat × List Nat) := (true, [([], []), ([], []), ([], []), ([], []), ([2, 3], [2, 3]), ([4], [4]), ([0, 1, 5], [0, 1, 5]), ([6], [6]), ([7], [7]), ([7], [7]), ([8, 6, 0, 1, 2, 3, 4, 5, 6, 7, 8], [8]), ([9, 10, 0, 1, 2, 3, 4, 5, 6, 7, 8, 9, 10], [9])])
def impl_PossibleWalkers.B12 : List Nat := [0, 0, 0, 0, 12, 28, 63, 127, 255, 255, 511, 2047]
theorem impl_PossibleWalkers.tab12 : rtab .any (opsOf Try.f13 12) = impl_PossibleWalkers.T12 := by kernel_rfl
theorem impl_PossibleWalkers.bits12 : waitsOk impl_PossibleWalkers.T12.2 impl_PossibleWalkers.B12 = true := by kernel_rfl
def impl_PossibleWalkers.T14 : Bool × List (List Nat × List Nat) := (true, [([], []), ([], []), ([0, 1], [0, 1]), ([], []), ([], []), ([4], [4]), ([3, 5], [3, 5]), ([6], [6]), ([2, 7], [2, 7]), ([8, 2, 0, 1, 2, 3, 4, 5, 6, 7, 8], [8])])
def impl_PossibleWalkers.B14 : List Nat := [0, 0, 3, 0, 0, 16, 56, 120, 255, 511]
theorem impl_PossibleWalkers.tab14 : rtab .any (opsOf Try.f13 14) = impl_PossibleWalkers.T14 := by kernel_rfl
theorem impl_PossibleWalkers.bits14 : waitsOk impl_PossibleWalkers.T14.2 impl_PossibleWalkers.B14 = true := by kernel_rfl
set_option maxHeartbeats 8000000 in
set_option maxRecDepth 100000 in
theorem impl_PossibleWalkers.calls (k : Nat) (a0_0 : Int) (a0_1 : Int) (a0_2 : Int) (A1 : Option Addr) (c1 : Nat) (l1 : List Int) (A2 : Option Addr) (c2 : Nat) (l2 : List Int) (r : List (S43)) (w : World) (hr1 : Kd.C (Kd.int .i64) w A1 l1.length l1) (hc1 : l1.length ≤ c1) (hr2 : Kd.C (Kd.int .i64) w A2 l2.length l2) (hc2 : l2.length ≤ c2) (h : impl_PossibleWalkers.f k a0_0 a0_1 a0_2 l1 l2 = some r) :
  Calls Try.prog 13 #[.agg #[.int .i64 a0_0, .int .i64 a0_1, .int .i64 a0_2], .slice A1 l1.length c1, .slice A2 l2.length c2] w fun e w' => ∃ v0_ : Value, e = .returned (v0_) ∧ Kd.R k43 43 w' w.heap.size (fun _ => True) v0_ r ∧ Below w.heap.size w w' := by
 have hu30 := Try.underlying30
 have hu28 := Try.underlying28
 have hu43 := Try.underlying43
 have HR1 := Aside0.mk hr1
 have HC1 := Aside0.mk hc1
 clear hr1 hc1
 have HR2 := Aside0.mk hr2
 have HC2 := Aside0.mk hc2
 clear hr2 hc2
 have HB := Aside0.mk (Below.refl w.heap.size w)
 have H := h
 unfold impl_PossibleWalkers.f at H
 clear h
 have HC4 := Aside0.mk H
 clear H
 go_enter Try.func13, Try.ntmps13
 go_upto_region 1 with (first | ((with_reducible refine gate_dst (N := 3) rfl ?_); (try (refine gate_guard (by rfl) ?_; dsimp only)); refine BX 3 30 #[.int .i64 a0_0, .int .i64 a0_1, .int .i64 a0_2] ?_; intro gb146 hg w5 hbox hb; have BK146 := Aside0.mk (hbox); have GW146 := (GS hg : Aside0 (w.heap.size ≤ gb146)); have GE146 := GW146; replace HB := BS HB hb; clear hb hbox hg))
 (try simp only [Act.put, List.setIfInBounds_toArray, List.set_cons_zero, List.set_cons_succ])
 go_cut [27] (fun v27 wc => ∃ (kq : Nat) (x27_3 : Bool), v27 = .bool x27_3 ∧ Aside0 (impl_PossibleWalkers.j0 kq l1 l2 x27_3 a0_0 a0_1 a0_2 = some r) ∧ Aside0 (kq ≤ k) ∧ Aside0 (wc.heap[gb146]? = some (.cells #[.int .i64 a0_0, .int .i64 a0_1, .int .i64 a0_2] 30 (0, 0))) ∧ Aside0 (Below w.heap.size w wc))
 case first =>
  have H := HC4.out
  clear HC4
  obtain ⟨t147, A6, H⟩ := BD H
  by_cases c7 : t147 = true
  ·subst c7
   replace H := IT H
   by_cases c8 : (l1.length : Int) = (wrap64 ((l2.length : Int) + 1))
   ·rw [if_pos c8] at H
    obtain ⟨c8b0, c8b1⟩ := QT c8
    clear c8
    (first | rw [c8b0] | (simp only [i64_w, i32_w]; rw [c8b0]) | skip)
    obtain ⟨t148, A9, H⟩ := BD H
    have H' := Aside0.mk H
    clear H
    obtain ⟨hcz10_0, hcz10_1, hcz10_2, hfz10_0, hfz10_1, hfz10_2⟩ := CZ3 BK146
    go_wp2_with (first | ((with_reducible refine GC 38 rfl ?_); refine GL 13 Try.func38 (impl_MazeOk.calls a0_0 a0_1 a0_2 true _ A6.out) ?_; rintro e w11 ⟨rfl, hb⟩; refine ⟨_, rfl, ?_⟩; replace BK146 := BB BK146 hb; replace HB := BS HB hb; clear hb) | (go_at_call 39; (with_reducible refine (impl_areTurns.calls _ _ l2 40 t148 _ ?side1 ?side2 A9.out).mono ?_); (case side1 => repeat (first | exact (Kd.C_below HR2.out HB.out) | (with_reducible refine Kd.C_alloc ?_ _) | (with_reducible refine Kd.C_drewN ?_ _) | (with_reducible refine Kd.C_drew ?_))); (case side2 => exact HC2.out); rintro e w12 ⟨rfl, hb⟩; replace BK146 := BB BK146 hb; replace HB := BS HB hb; clear hb))
    go_meet
    case rel => exact ⟨_, (!t148), VZ, H', ⟨by first | omega | exact Nat.le_refl _⟩, ⟨BKZ⟩, ⟨BZ⟩⟩
   ·rw [if_neg c8] at H
    obtain ⟨c8b0, c8b1⟩ := QF c8
    (first | rw [c8b0] | (simp only [i64_w, i32_w]; rw [c8b0]) | skip)
    have H' := Aside0.mk H
    clear H
    obtain ⟨hcz13_0, hcz13_1, hcz13_2, hfz13_0, hfz13_1, hfz13_2⟩ := CZ3 BK146
    go_wp2_with (first | ((with_reducible refine GC 38 rfl ?_); refine GL 13 Try.func38 (impl_MazeOk.calls a0_0 a0_1 a0_2 true _ A6.out) ?_; rintro e w14 ⟨rfl, hb⟩; refine ⟨_, rfl, ?_⟩; replace BK146 := BB BK146 hb; replace HB := BS HB hb; clear hb))
    go_meet
    case rel => exact ⟨_, (true), VZ, H', ⟨by first | omega | exact Nat.le_refl _⟩, ⟨BKZ⟩, ⟨BZ⟩⟩
  ·replace c7 := Bool.eq_false_iff.mpr c7
   subst c7
   replace H := IE H
   have H' := Aside0.mk H
   clear H
   obtain ⟨hcz15_0, hcz15_1, hcz15_2, hfz15_0, hfz15_1, hfz15_2⟩ := CZ3 BK146
   go_wp2_with (first | ((with_reducible refine GC 38 rfl ?_); refine GL 13 Try.func38 (impl_MazeOk.calls a0_0 a0_1 a0_2 false _ A6.out) ?_; rintro e w16 ⟨rfl, hb⟩; refine ⟨_, rfl, ?_⟩; replace BK146 := BB BK146 hb; replace HB := BS HB hb; clear hb))
   go_meet
   case rel => exact ⟨_, (true), VZ, H', ⟨by first | omega | exact Nat.le_refl _⟩, ⟨BKZ⟩, ⟨BZ⟩⟩
 case rest =>
  clear HC4
  (try clear c1); (try clear c2)
  obtain ⟨kq, x27_3, rfl, HA, HJ3, BK146, HB⟩ := hcut
  cases kq with
  | zero => exact absurd HA.out (by simp [impl_PossibleWalkers.j0])
  | succ kj3 =>
   have H := HA.out
   clear HA
   simp only [impl_PossibleWalkers.j0] at H
   by_cases c17 : x27_3 = true
   ·subst c17
    replace H := IT H
    obtain rfl := Option.some.inj H
    go_wp2
    go_ret
    exact ⟨_, RZ, by first | exact Kd.R_nil _ _ _ _ _ | exact Kd.N_nil _ _ _ _ _ | exact Kd.V_nil _ _ _ _ _ | exact Kd.Q_nil _ _ _ _ _ | exact Kd.S_nil _ _ _ _ _, BZ⟩
   ·replace c17 := Bool.eq_false_iff.mpr c17
    subst c17
    replace H := IE H
    have H' := Aside0.mk H
    clear H
    go_wp2
    go_loopg [7, 8] kj3 (fun kq v7 v8 w' => ∃ (x7_2 : List (S43)) (x8_2 : Int), v8 = .int .i64 x8_2 ∧ Aside0 (impl_PossibleWalkers.l0 kq l1 l2 x7_2 x8_2 a0_0 a0_1 a0_2 = some r) ∧ Aside0 (kq ≤ kj3) ∧ Aside0 (Kd.R k43 43 w' w.heap.size (fun _ => True) v7 x7_2) ∧ Aside0 (w'.heap[gb146]? = some (.cells #[.int .i64 a0_0, .int .i64 a0_1, .int .i64 a0_2] 30 (0, 0))) ∧ Aside0 (Below w.heap.size w w'))
    case atStart => exact ⟨(([] : List (S43))), (0), VZ, H', ⟨Nat.le_refl _⟩, ⟨by first | exact Kd.R_nil _ _ _ _ _ | exact Kd.N_nil _ _ _ _ _ | exact Kd.V_nil _ _ _ _ _ | exact Kd.Q_nil _ _ _ _ _ | exact Kd.S_nil _ _ _ _ _⟩, ⟨BKZ⟩, ⟨BZ⟩⟩
    case round =>
     clear H'
     (try clear c1); (try clear c2); (try clear c17)
     obtain ⟨x7_2, x8_2, rfl, HA, HK2, HO_7, BK146, HB⟩ := hrel
     cases gk with
     | zero => exact absurd HA.out (by simp [impl_PossibleWalkers.l0])
     | succ k2 =>
      have H := HA.out
      clear HA
      simp only [impl_PossibleWalkers.l0] at H
      obtain ⟨t149, A18, H⟩ := BD H
      by_cases c19 : x8_2 < (wrap64 (4 * t149))
      ·rw [if_pos c19] at H
       have c19b0 := decide_eq_true c19
       clear c19
       obtain ⟨t152, A20, H⟩ := BD H
       by_cases c21 : 0 < (l1.length : Int)
       ·rw [if_pos c21] at H
        have c21b0 := decide_eq_true c21
        have c21b1 : decide (0 < l1.length) = true := decide_eq_true (by omega)
        clear c21
        have H' := Aside0.mk H
        clear H
        obtain ⟨hcz22_0, hcz22_1, hcz22_2, hfz22_0, hfz22_1, hfz22_2⟩ := CZ3 BK146
        try go_wp2_with (first | ((with_reducible refine GC 40 rfl ?_); refine GL 31 Try.func40 (impl_CountCells.calls a0_0 a0_1 t149 _ A18.out) ?_; rintro e w23 ⟨rfl, hb⟩; refine ⟨_, rfl, ?_⟩; replace HO_7 := RB HO_7 hb; replace BK146 := BB BK146 hb; replace HB := BS HB hb; clear hb) | ((with_reducible refine gate_dst (N := 9) rfl ?_); (try (refine gate_guard (by rfl) ?_; dsimp only)); refine BX 9 43 #[.int .i64 0, .int .i64 0] ?_; intro gb151 hg w24 hbox hb; have BK151 := Aside0.mk (hbox); have GW151 := (GS hg : Aside0 (w.heap.size ≤ gb151)); have GE151 := GW151; have NB146_151 := NL BK146 hg; have NB151_146 := NG BK146 hg; replace HO_7 := Aside0.mk (Kd.R_below (Kd.R_elderB (KR HO_7) gb151 (Nat.le_of_eq hg.symm)) hb); replace BK146 := BB BK146 hb; replace HB := BS HB hb; clear hb hbox hg; have hnb25 := NB151_146.out; have hnc25 := NB146_151.out; obtain ⟨hcz26_0, hcz26_1, hfz26_0, hfz26_1⟩ := CZ2 BK151))
        have n0_ : Aside0 (Kd.R k43 43 (S2W w24 gb151 (.int .i64 (wrap64 (Int.tdiv x8_2 4))) (.int .i64 (Int.tmod x8_2 4))) w.heap.size (fun k_ => k_ ≠ gb151) u7 x7_2) := ⟨RT (Kd.R_mono (Kd.R_far (p := ⟨gb151, 1, none⟩) (Kd.R_far (p := ⟨gb151, 0, none⟩) (Kd.R_mono HO_7.out (fun k_ hk => (⟨hk, hk.2⟩ : _ ∧ k_ ≠ gb151))) (fun _ hk => hk.2) (.int .i64 (wrap64 (Int.tdiv x8_2 4)))) (fun _ hk => hk.2) (.int .i64 (Int.tmod x8_2 4))) (fun _ hk => hk.1.2))⟩
        have n1_ : Aside0 ((S2W w24 gb151 (.int .i64 (wrap64 (Int.tdiv x8_2 4))) (.int .i64 (Int.tmod x8_2 4))).heap[gb146]? = some (.cells #[.int .i64 a0_0, .int .i64 a0_1, .int .i64 a0_2] 30 (0, 0))) := ⟨BF2 NB146_151 BK146⟩
        have n2_ : Aside0 ((S2W w24 gb151 (.int .i64 (wrap64 (Int.tdiv x8_2 4))) (.int .i64 (Int.tmod x8_2 4))).heap[gb151]? = some (.cells #[.int .i64 (wrap64 (Int.tdiv x8_2 4)), .int .i64 (Int.tmod x8_2 4)] 43 (0, 0))) := ⟨PQ2 BK151⟩
        have n3_ : Aside0 (Below w.heap.size w (S2W w24 gb151 (.int .i64 (wrap64 (Int.tdiv x8_2 4))) (.int .i64 (Int.tmod x8_2 4)))) := ⟨BZ⟩
        (try clear HO_7)
        (try clear BK146)
        (try clear BK151)
        (try clear HB)
        (try dsimp only [S2W] at n0_ n1_ n2_ n3_); generalize ((w24.setCell ⟨gb151, 0, none⟩ (.int .i64 (wrap64 (Int.tdiv x8_2 4)))).setCell ⟨gb151, 1, none⟩ (.int .i64 (Int.tmod x8_2 4))) = w27 at n0_ n1_ n2_ n3_ ⊢
        have HO_7 := n0_
        have BK146 := n1_
        have BK151 := n2_
        have HB := n3_
        clear n0_ n1_ n2_ n3_
        replace HO_7 := Aside0.mk (Kd.R_drew HO_7.out)
        replace BK146 := Aside0.mk (blk_drew BK146.out)
        replace BK151 := Aside0.mk (blk_drew BK151.out)
        replace HB := Aside0.mk (below_drew1 HB.out)
        have p153 : 0 ≤ (0 : Int) := (by omega)
        have q153 : 0 < (l1.length : Int) := of_decide_eq_true PZ
        obtain ⟨ad153, e153, hx153_0⟩ := Kd.at_int HR1.out 0 p153 q153
        have hw153_0 := hx153_0
        (try rw [show ((0 : Int)).toNat = 0 from rfl] at hw153_0)
        (try rw [show 0 * 1 = 0 from rfl] at hw153_0)
        (try rw [Addr.add_zero'] at hw153_0)
        cases e153
        have qi153 : (0 < l1.length) = True := eq_true (by omega)
        (try rw [show ((0 : Int)).toNat = 0 from rfl] at hx153_0)
        (try rw [Addr.add_zero'] at hx153_0)
        (try replace hx153_0 := (HB.out.cell (World.block_lt_of_cell? w _ hx153_0)).trans hx153_0)
        replace p153 := eq_true p153
        replace q153 := eq_true q153
        refine ST 8 (fun w' => w'.cell? ⟨gb146, 0, none⟩ = some (.int .i64 a0_0) ∧ w'.cell? ⟨gb146, 1, none⟩ = some (.int .i64 a0_1) ∧ w'.cell? ⟨gb146, 2, none⟩ = some (.int .i64 a0_2) ∧ w'.cell? ⟨gb151, 0, none⟩ = some (.int .i64 (wrap64 (Int.tdiv x8_2 4))) ∧ w'.cell? ⟨gb151, 1, none⟩ = some (.int .i64 (Int.tmod x8_2 4)) ∧ w'.cell? ad153 = some (.int .i64 (rd l1 0))) [] impl_PossibleWalkers.tab8 impl_PossibleWalkers.bits8 ⟨CE BK146 0, CE BK146 1, CE BK146 2, CE BK151 0, CE BK151 1, ((HB.out.cell (World.block_lt_of_cell? w _ hw153_0)).trans hw153_0)⟩ (fun hHeld HT_ HW_ => ?_)
        generalize w27.drew = w28 at HO_7 BK146 BK151 HB hx153_0 hHeld ⊢
        refine PU 3 44 HT_ ?_
        refine PU 4 45 HT_ ?_
        refine TA 0 41 HT_ HW_ hHeld ?_
        refine TA 1 42 HT_ HW_ hHeld ?_
        refine TA 5 46 HT_ HW_ hHeld ?_
        refine OG 2 43 HT_ Try.func25 (impl_PatternAt.calls k2 a0_0 a0_1 a0_2 (wrap64 (Int.tdiv x8_2 4)) (Int.tmod x8_2 4) t152 _ A20.out) (fun K hK => ?_)
        rintro e w29 ⟨rfl, hb⟩
        refine ⟨_, rfl, ?_⟩
        replace HO_7 := RB HO_7 hb
        replace BK146 := BB BK146 hb
        replace BK151 := BB BK151 hb
        replace HB := BS HB hb
        clear hb
        refine HN hK ⟨CE BK146 0, CE BK146 1, CE BK146 2, CE BK151 0, CE BK151 1, ((HB.out.cell (World.block_lt_of_cell? w _ hw153_0)).trans hw153_0)⟩ (fun hHeld => ?_)
        clear hK K
        refine PU 6 47 HT_ ?_
        refine PU 7 10 HT_ ?_
        refine done_ (done_of HT_.out (by kernel_rfl)) ?_
        try go_wp2
        go_loopg [10, 11] k2 (fun kq v10 v11 w' => ∃ (x10_3 : Bool) (x11_3 : Int) (x152000_3 : Int) (x152001_3 : Int), v10 = .bool x10_3 ∧ v11 = .int .i64 x11_3 ∧ Aside0 (impl_PossibleWalkers.l1 kq l1 l2 x7_2 x8_2 x10_3 x11_3 a0_0 a0_1 a0_2 x152000_3 x152001_3 = some r) ∧ Aside0 (kq ≤ k2) ∧ Aside0 (Kd.R k43 43 w' w.heap.size (fun k_ => k_ ≠ gb151) u7 x7_2) ∧ Aside0 (w'.heap[gb146]? = some (.cells #[.int .i64 a0_0, .int .i64 a0_1, .int .i64 a0_2] 30 (0, 0))) ∧ Aside0 (w'.heap[gb151]? = some (.cells #[.int .i64 x152000_3, .int .i64 x152001_3] 43 (0, 0))) ∧ Aside0 (Below w.heap.size w w'))
        case atStart => exact ⟨((t152 == (rd l1 0))), (0), (wrap64 (Int.tdiv x8_2 4)), (Int.tmod x8_2 4), VZ, VZ, H', ⟨Nat.le_refl _⟩, ⟨KR HO_7⟩, ⟨BKZ⟩, ⟨BKZ⟩, ⟨BZ⟩⟩
        case round =>
         clear H'
         (try clear c1); (try clear c2); (try clear c17); (try clear c21); (try clear c21b0); (try clear c21b1); (try clear hcz22_0); (try clear hcz22_1); (try clear hcz22_2); (try clear hcz26_0); (try clear hcz26_1); (try clear hfz22_0); (try clear hfz22_1); (try clear hfz22_2); (try clear hfz26_0); (try clear hfz26_1); (try clear hx153_0); (try clear p153); (try clear q153)
         obtain ⟨x10_3, x11_3, x152000_3, x152001_3, rfl, rfl, HA, HK3, HO_7, BK146, BK151, HB⟩ := hrel
         cases gk with
         | zero => exact absurd HA.out (by simp [impl_PossibleWalkers.l1])
         | succ k3 =>
          have H := HA.out
          clear HA
          simp only [impl_PossibleWalkers.l1] at H
          have HC30 := Aside0.mk H
          clear H
          go_upto_region 10 with (fail)
          go_cut [54] (fun v54 wc => ∃ (kq : Nat) (x54_29 : Bool), v54 = .bool x54_29 ∧ Aside0 (impl_PossibleWalkers.j3 kq l1 l2 x7_2 x8_2 x10_3 x11_3 x54_29 a0_0 a0_1 a0_2 x152000_3 x152001_3 = some r) ∧ Aside0 (kq ≤ k3) ∧ Aside0 (Kd.R k43 43 wc w.heap.size (fun k_ => k_ ≠ gb151) u7 x7_2) ∧ Aside0 (wc.heap[gb146]? = some (.cells #[.int .i64 a0_0, .int .i64 a0_1, .int .i64 a0_2] 30 (0, 0))) ∧ Aside0 (wc.heap[gb151]? = some (.cells #[.int .i64 x152000_3, .int .i64 x152001_3] 43 (0, 0))) ∧ Aside0 (Below w.heap.size w wc))
          case first =>
           have H := HC30.out
           clear HC30
           by_cases c31 : x10_3 = true
           ·subst c31
            replace H := IT H
            have H' := Aside0.mk H
            clear H
            go_wp2
            go_meet
            case rel => exact ⟨_, (decide (x11_3 < (l2.length : Int))), VZ, H', ⟨by have := HJ3.out; have := HK2.out; have := HK3.out; first | omega | exact Nat.le_refl _⟩, ⟨KR HO_7⟩, ⟨BKZ⟩, ⟨BKZ⟩, ⟨BZ⟩⟩
           ·replace c31 := Bool.eq_false_iff.mpr c31
            subst c31
            replace H := IE H
            have H' := Aside0.mk H
            clear H
            go_wp2
            go_meet
            case rel => exact ⟨_, (false), VZ, H', ⟨by have := HJ3.out; have := HK2.out; have := HK3.out; first | omega | exact Nat.le_refl _⟩, ⟨KR HO_7⟩, ⟨BKZ⟩, ⟨BKZ⟩, ⟨BZ⟩⟩
          case rest =>
           clear HC30
           (try clear c1); (try clear c2); (try clear c17); (try clear c21); (try clear c21b0); (try clear c21b1); (try clear hcz22_0); (try clear hcz22_1); (try clear hcz22_2); (try clear hcz26_0); (try clear hcz26_1); (try clear hfz22_0); (try clear hfz22_1); (try clear hfz22_2); (try clear hfz26_0); (try clear hfz26_1); (try clear hx153_0); (try clear p153); (try clear q153)
           obtain ⟨kq, x54_29, rfl, HA, HJ29, HO_7, BK146, BK151, HB⟩ := hcut
           cases kq with
           | zero => exact absurd HA.out (by simp [impl_PossibleWalkers.j3])
           | succ kj29 =>
            have H := HA.out
            clear HA
            simp only [impl_PossibleWalkers.j3] at H
            by_cases c32 : x54_29 = true
            ·subst c32
             replace H := IT H
             by_cases c33 : 0 ≤ x11_3
             ·rw [if_pos c33] at H
              have c33b0 := decide_eq_true c33
              clear c33
              by_cases c34 : x11_3 < (l2.length : Int)
              ·rw [if_pos c34] at H
               have c34b0 := decide_eq_true c34
               clear c34
               obtain ⟨⟨t159, t160, t161⟩, A35, H⟩ := BD H
               dsimp only at H
               by_cases c36 : t161 = true
               ·subst c36
                replace H := IT H
                obtain ⟨t162, A37, H⟩ := BD H
                obtain ⟨ji38, hji38⟩ : ∃ j_ : Int, (wrap64 (x11_3 + 1)) = j_ := ⟨_, rfl⟩
                replace H : (if 0 ≤ (ji38) then (if (ji38) < (l1.length : Int) then (impl_PossibleWalkers.l1 kj29 l1 l2 x7_2 x8_2 (t162 == (rd l1 (ji38))) ji38 a0_0 a0_1 a0_2 t159 t160) else (none)) else (none)) = some r := by first | (rw [hji38] at H; exact H) | (simp only [hji38] at H ⊢; exact H)
                (try rw [hji38] at A35)
                (try rw [hji38] at A37)
                have hji38w : (IntKind.i64.wrap (x11_3 + 1)) = ji38 := (i64_w _).trans hji38
                by_cases c39 : 0 ≤ (ji38)
                ·rw [if_pos c39] at H
                 have c39b0 := decide_eq_true c39
                 clear c39
                 by_cases c40 : (ji38) < (l1.length : Int)
                 ·rw [if_pos c40] at H
                  have c40b0 := decide_eq_true c40
                  clear c40
                  have H' := Aside0.mk H
                  clear H
                  try go_wp2
                  replace HO_7 := Aside0.mk (Kd.R_drew HO_7.out)
                  replace BK146 := Aside0.mk (blk_drew BK146.out)
                  replace BK151 := Aside0.mk (blk_drew BK151.out)
                  replace HB := Aside0.mk (below_drew1 HB.out)
                  have p158 : 0 ≤ (x11_3 : Int) := of_decide_eq_true PZ
                  have q158 : x11_3 < (l2.length : Int) := of_decide_eq_true PZ
                  obtain ⟨ad158, e158, hx158_0⟩ := Kd.at_int HR2.out x11_3 p158 q158
                  have hw158_0 := hx158_0
                  cases e158
                  (try replace hx158_0 := (HB.out.cell (World.block_lt_of_cell? w _ hx158_0)).trans hx158_0)
                  replace p158 := eq_true p158
                  replace q158 := eq_true q158
                  refine ST 12 (fun w' => w'.cell? ⟨gb146, 0, none⟩ = some (.int .i64 a0_0) ∧ w'.cell? ⟨gb146, 1, none⟩ = some (.int .i64 a0_1) ∧ w'.cell? ⟨gb146, 2, none⟩ = some (.int .i64 a0_2) ∧ w'.cell? ⟨gb151, 0, none⟩ = some (.int .i64 x152000_3) ∧ w'.cell? ⟨gb151, 1, none⟩ = some (.int .i64 x152001_3) ∧ w'.cell? (ad158.add (x11_3).toNat) = some (.int .i64 (rd l2 x11_3))) [10] impl_PossibleWalkers.tab12 impl_PossibleWalkers.bits12 ⟨CE BK146 0, CE BK146 1, CE BK146 2, CE BK151 0, CE BK151 1, ((HB.out.cell (World.block_lt_of_cell? w _ hw158_0)).trans hw158_0)⟩ (fun hHeld HT_ HW_ => ?_)
                  generalize wc.drew = w41 at HO_7 BK146 BK151 HB hx158_0 hHeld ⊢
                  refine PU 2 60 HT_ ?_
                  refine PU 3 61 HT_ ?_
                  refine PU 4 62 HT_ ?_
                  refine TA 0 58 HT_ HW_ hHeld ?_
                  refine TA 1 59 HT_ HW_ hHeld ?_
                  refine TA 5 63 HT_ HW_ hHeld ?_
                  refine OG 6 64 HT_ Try.func41 (impl_went.calls kj29 a0_0 a0_1 a0_2 x152000_3 x152001_3 (rd l2 x11_3) t159 t160 true _ A35.out) (fun K hK => ?_)
                  rintro e w42 ⟨rfl, hb⟩
                  refine ⟨_, rfl, ?_⟩
                  replace HO_7 := RB HO_7 hb
                  replace BK146 := BB BK146 hb
                  replace BK151 := BB BK151 hb
                  replace HB := BS HB hb
                  clear hb
                  refine HN hK ⟨CE BK146 0, CE BK146 1, CE BK146 2, CE BK151 0, CE BK151 1, ((HB.out.cell (World.block_lt_of_cell? w _ hw158_0)).trans hw158_0)⟩ (fun hHeld => ?_)
                  clear hK K
                  refine PU 7 57 HT_ ?_
                  refine PU 8 65 HT_ ?_
                  refine PU 9 66 HT_ ?_
                  refine last_ (i := 10) (N := none) #[true, true, true, true, true, true, true, true, true, true, true, false] rfl rfl (one_of HT_.out (by kernel_rfl)) (by decide) (fun K hK => ?_)
                  have hs43 : w42.cell? ⟨gb151, 0, none⟩ = some (.int .i64 x152000_3) := CE BK151 0
                  have hfs43 := blk_frozen BK151.out 0
                  have hns43_0 := NB146_151.out
                  have hms43_0 := NB151_146.out
                  have hs44 : w42.cell? ⟨gb151, 1, none⟩ = some (.int .i64 x152001_3) := CE BK151 1
                  have hfs44 := blk_frozen BK151.out 1
                  have hns44_0 := NB146_151.out
                  have hms44_0 := NB151_146.out
                  refine skip_ (w1 := ?_) (by rfl) rfl ?_ ?_
                  rotate_left
                  ·go_simp
                   rfl
                  refine hK.out _ _ ?_
                  clear hK K
                  refine PU 11 10 HT_ ?_
                  refine done_ (done_of HT_.out (by kernel_rfl)) ?_
                  try go_wp2
                  have n0_ : Aside0 (Kd.R k43 43 (S2W w42 gb151 (.int .i64 t159) (.int .i64 t160)) w.heap.size (fun k_ => k_ ≠ gb151) u7 x7_2) := ⟨RT (RF2 (Kd.R_mono HO_7.out (fun k_ hk => (⟨hk, hk⟩ : _ ∧ k_ ≠ gb151))))⟩
                  have n1_ : Aside0 ((S2W w42 gb151 (.int .i64 t159) (.int .i64 t160)).heap[gb146]? = some (.cells #[.int .i64 a0_0, .int .i64 a0_1, .int .i64 a0_2] 30 (0, 0))) := ⟨BF2 NB146_151 BK146⟩
                  have n2_ : Aside0 ((S2W w42 gb151 (.int .i64 t159) (.int .i64 t160)).heap[gb151]? = some (.cells #[.int .i64 t159, .int .i64 t160] 43 (0, 0))) := ⟨PQ2 BK151⟩
                  have n3_ : Aside0 (Below w.heap.size w (S2W w42 gb151 (.int .i64 t159) (.int .i64 t160))) := ⟨BZ⟩
                  (try clear HO_7)
                  (try clear BK146)
                  (try clear BK151)
                  (try clear HB)
                  (try dsimp only [S2W] at n0_ n1_ n2_ n3_); generalize ((w42.setCell ⟨gb151, 0, none⟩ (.int .i64 t159)).setCell ⟨gb151, 1, none⟩ (.int .i64 t160)) = w45 at n0_ n1_ n2_ n3_ ⊢
                  have HO_7 := n0_
                  have BK146 := n1_
                  have BK151 := n2_
                  have HB := n3_
                  clear n0_ n1_ n2_ n3_
                  replace HO_7 := Aside0.mk (Kd.R_drew HO_7.out)
                  replace BK146 := Aside0.mk (blk_drew BK146.out)
                  replace BK151 := Aside0.mk (blk_drew BK151.out)
                  replace HB := Aside0.mk (below_drew1 HB.out)
                  have p163 : 0 ≤ ((ji38) : Int) := of_decide_eq_true PZ
                  have q163 : (ji38) < (l1.length : Int) := of_decide_eq_true PZ
                  obtain ⟨ad163, e163, hx163_0⟩ := Kd.at_int HR1.out (ji38) p163 q163
                  have hw163_0 := hx163_0
                  obtain rfl : ad153 = ad163 := (by injection e163)
                  (try replace hx163_0 := (HB.out.cell (World.block_lt_of_cell? w _ hx163_0)).trans hx163_0)
                  replace p163 := eq_true p163
                  replace q163 := eq_true q163
                  refine ST 10 (fun w' => w'.cell? ⟨gb146, 0, none⟩ = some (.int .i64 a0_0) ∧ w'.cell? ⟨gb146, 1, none⟩ = some (.int .i64 a0_1) ∧ w'.cell? ⟨gb146, 2, none⟩ = some (.int .i64 a0_2) ∧ w'.cell? ⟨gb151, 0, none⟩ = some (.int .i64 t159) ∧ w'.cell? ⟨gb151, 1, none⟩ = some (.int .i64 t160) ∧ w'.cell? (ad153.add ((ji38)).toNat) = some (.int .i64 (rd l1 (ji38)))) [] impl_PossibleWalkers.tab14 impl_PossibleWalkers.bits14 ⟨CE BK146 0, CE BK146 1, CE BK146 2, CE BK151 0, CE BK151 1, ((HB.out.cell (World.block_lt_of_cell? w _ hw163_0)).trans hw163_0)⟩ (fun hHeld HT_ HW_ => ?_)
                  generalize w45.drew = w46 at HO_7 BK146 BK151 HB hx163_0 hHeld ⊢
                  refine PU 3 71 HT_ ?_
                  refine PU 4 72 HT_ ?_
                  refine PU 5 73 HT_ ?_
                  refine PU 6 74 HT_ ?_
                  refine TA 0 68 HT_ HW_ hHeld ?_
                  refine TA 1 69 HT_ HW_ hHeld ?_
                  refine TA 7 75 HT_ HW_ hHeld ?_
                  refine OG 2 70 HT_ Try.func25 (impl_PatternAt.calls kj29 a0_0 a0_1 a0_2 t159 t160 t162 _ A37.out) (fun K hK => ?_)
                  rintro e w47 ⟨rfl, hb⟩
                  refine ⟨_, rfl, ?_⟩
                  replace HO_7 := RB HO_7 hb
                  replace BK146 := BB BK146 hb
                  replace BK151 := BB BK151 hb
                  replace HB := BS HB hb
                  clear hb
                  refine HN hK ⟨CE BK146 0, CE BK146 1, CE BK146 2, CE BK151 0, CE BK151 1, ((HB.out.cell (World.block_lt_of_cell? w _ hw163_0)).trans hw163_0)⟩ (fun hHeld => ?_)
                  clear hK K
                  refine PU 8 76 HT_ ?_
                  refine PU 9 10 HT_ ?_
                  refine done_ (done_of HT_.out (by kernel_rfl)) ?_
                  try go_wp2
                  go_roundg kj29
                  case measure => have := HJ3.out; have := HK2.out; have := HK3.out; have := HJ29.out; omega
                  case rel => exact ⟨((t162 == (rd l1 (ji38)))), (ji38), (t159), (t160), (by first | rfl | (simp; done) | (simp only [← hji38] <;> (first | rfl | simp)) | (simp [*]; done)), (by first | rfl | (simp; done) | (simp only [← hji38] <;> (first | rfl | simp)) | (simp [*]; done)), H', ⟨by have := HJ3.out; have := HK2.out; have := HK3.out; have := HJ29.out; omega⟩, ⟨KR HO_7⟩, ⟨BKZ⟩, ⟨BKZ⟩, ⟨BZ⟩⟩
                 ·rw [if_neg c40] at H
                  exact absurd H (by simp)
                ·rw [if_neg c39] at H
                 exact absurd H (by simp)
               ·replace c36 := Bool.eq_false_iff.mpr c36
                subst c36
                replace H := IE H
                have H' := Aside0.mk H
                clear H
                try go_wp2
                replace HO_7 := Aside0.mk (Kd.R_drew HO_7.out)
                replace BK146 := Aside0.mk (blk_drew BK146.out)
                replace BK151 := Aside0.mk (blk_drew BK151.out)
                replace HB := Aside0.mk (below_drew1 HB.out)
                have p158 : 0 ≤ (x11_3 : Int) := of_decide_eq_true PZ
                have q158 : x11_3 < (l2.length : Int) := of_decide_eq_true PZ
                obtain ⟨ad158, e158, hx158_0⟩ := Kd.at_int HR2.out x11_3 p158 q158
                have hw158_0 := hx158_0
                cases e158
                (try replace hx158_0 := (HB.out.cell (World.block_lt_of_cell? w _ hx158_0)).trans hx158_0)
                replace p158 := eq_true p158
                replace q158 := eq_true q158
                refine ST 12 (fun w' => w'.cell? ⟨gb146, 0, none⟩ = some (.int .i64 a0_0) ∧ w'.cell? ⟨gb146, 1, none⟩ = some (.int .i64 a0_1) ∧ w'.cell? ⟨gb146, 2, none⟩ = some (.int .i64 a0_2) ∧ w'.cell? ⟨gb151, 0, none⟩ = some (.int .i64 x152000_3) ∧ w'.cell? ⟨gb151, 1, none⟩ = some (.int .i64 x152001_3) ∧ w'.cell? (ad158.add (x11_3).toNat) = some (.int .i64 (rd l2 x11_3))) [10] impl_PossibleWalkers.tab12 impl_PossibleWalkers.bits12 ⟨CE BK146 0, CE BK146 1, CE BK146 2, CE BK151 0, CE BK151 1, ((HB.out.cell (World.block_lt_of_cell? w _ hw158_0)).trans hw158_0)⟩ (fun hHeld HT_ HW_ => ?_)
                generalize wc.drew = w48 at HO_7 BK146 BK151 HB hx158_0 hHeld ⊢
                refine PU 2 60 HT_ ?_
                refine PU 3 61 HT_ ?_
                refine PU 4 62 HT_ ?_
                refine TA 0 58 HT_ HW_ hHeld ?_
                refine TA 1 59 HT_ HW_ hHeld ?_
                refine TA 5 63 HT_ HW_ hHeld ?_
                refine OG 6 64 HT_ Try.func41 (impl_went.calls kj29 a0_0 a0_1 a0_2 x152000_3 x152001_3 (rd l2 x11_3) t159 t160 false _ A35.out) (fun K hK => ?_)
                rintro e w49 ⟨rfl, hb⟩
                refine ⟨_, rfl, ?_⟩
                replace HO_7 := RB HO_7 hb
                replace BK146 := BB BK146 hb
                replace BK151 := BB BK151 hb
                replace HB := BS HB hb
                clear hb
                refine HN hK ⟨CE BK146 0, CE BK146 1, CE BK146 2, CE BK151 0, CE BK151 1, ((HB.out.cell (World.block_lt_of_cell? w _ hw158_0)).trans hw158_0)⟩ (fun hHeld => ?_)
                clear hK K
                refine PU 7 57 HT_ ?_
                refine PU 8 65 HT_ ?_
                refine PU 9 66 HT_ ?_
                refine last_ (i := 10) (N := none) #[true, true, true, true, true, true, true, true, true, true, true, false] rfl rfl (one_of HT_.out (by kernel_rfl)) (by decide) (fun K hK => ?_)
                have hs50 : w49.cell? ⟨gb151, 0, none⟩ = some (.int .i64 x152000_3) := CE BK151 0
                have hfs50 := blk_frozen BK151.out 0
                have hns50_0 := NB146_151.out
                have hms50_0 := NB151_146.out
                have hs51 : w49.cell? ⟨gb151, 1, none⟩ = some (.int .i64 x152001_3) := CE BK151 1
                have hfs51 := blk_frozen BK151.out 1
                have hns51_0 := NB146_151.out
                have hms51_0 := NB151_146.out
                refine skip_ (w1 := ?_) (by rfl) rfl ?_ ?_
                rotate_left
                ·go_simp
                 rfl
                refine hK.out _ _ ?_
                clear hK K
                refine PU 11 10 HT_ ?_
                refine done_ (done_of HT_.out (by kernel_rfl)) ?_
                try go_wp2
                go_roundg kj29
                case measure => have := HJ3.out; have := HK2.out; have := HK3.out; have := HJ29.out; omega
                case rel => exact ⟨(false), (wrap64 (x11_3 + 1)), (t159), (t160), VZ, VZ, H', ⟨by have := HJ3.out; have := HK2.out; have := HK3.out; have := HJ29.out; omega⟩, ⟨RT (RF2 (Kd.R_mono HO_7.out (fun k_ hk => (⟨hk, hk⟩ : _ ∧ k_ ≠ gb151))))⟩, ⟨BF2 NB146_151 BK146⟩, ⟨PQ2 BK151⟩, ⟨BZ⟩⟩
              ·rw [if_neg c34] at H
               exact absurd H (by simp)
             ·rw [if_neg c33] at H
              exact absurd H (by simp)
            ·replace c32 := Bool.eq_false_iff.mpr c32
             subst c32
             replace H := IE H
             by_cases c52 : x10_3 = true
             ·subst c52
              replace H := IT H
              obtain ⟨t154, A53, H⟩ := BD H
              by_cases c54 : t154 = true
              ·subst c54
               replace H := IT H
               have H' := Aside0.mk H
               clear H
               have hnb55 := NB151_146.out
               have hnc55 := NB146_151.out
               obtain ⟨hcz56_0, hcz56_1, hfz56_0, hfz56_1⟩ := CZ2 BK151
               obtain ⟨Ao57, co57, eo57⟩ := Kd.R_slice HO_7.out
               subst eo57
               go_wp2_with (first | (go_at_call 42; (with_reducible refine (slices_Contains_impl_Walker_impl_Walker.calls kj29 _ _ x7_2 x152000_3 x152001_3 true _ ?side1 ?side2 A53.out).mono ?_); (case side1 => repeat (first | exact (Kd.R_reads' HO_7.out).2.2 | (with_reducible refine Kd.C_alloc ?_ _) | (with_reducible refine Kd.C_drewN ?_ _) | (with_reducible refine Kd.C_drew ?_))); (case side2 => exact (Kd.R_reads' HO_7.out).2.1); rintro e w58 ⟨rfl, hb⟩; replace HO_7 := RB HO_7 hb; replace BK146 := BB BK146 hb; replace BK151 := BB BK151 hb; replace HB := BS HB hb; clear hb))
               go_roundg kj29
               case measure => have := HJ3.out; have := HK2.out; have := HK3.out; have := HJ29.out; omega
               case rel => exact ⟨(x7_2), (wrap64 (x8_2 + 1)), VZ, H', ⟨by have := HJ3.out; have := HK2.out; have := HK3.out; have := HJ29.out; omega⟩, ⟨RT (Kd.R_mono HO_7.out (fun _ hk => trivial))⟩, ⟨BKZ⟩, ⟨BZ⟩⟩
              ·replace c54 := Bool.eq_false_iff.mpr c54
               subst c54
               replace H := IE H
               by_cases c59 : x7_2.length < 8796093022208
               ·rw [if_pos c59] at H
                have LMc59 := Aside0.mk c59
                clear c59
                generalize hy155 : ((x7_2 ++ [(⟨x152000_3, x152001_3⟩ : S43)]) : List (S43)) = y155 at H
                have Ny155 := Aside0.mk hy155.symm
                clear hy155
                have H' := Aside0.mk H
                clear H
                have hnb60 := NB151_146.out
                have hnc60 := NB146_151.out
                obtain ⟨hcz61_0, hcz61_1, hfz61_0, hfz61_1⟩ := CZ2 BK151
                obtain ⟨Ao62, co62, eo62⟩ := Kd.R_slice HO_7.out
                subst eo62
                go_wp2_with (first | (go_at_call 42; (with_reducible refine (slices_Contains_impl_Walker_impl_Walker.calls kj29 _ _ x7_2 x152000_3 x152001_3 false _ ?side1 ?side2 A53.out).mono ?_); (case side1 => repeat (first | exact (Kd.R_reads' HO_7.out).2.2 | (with_reducible refine Kd.C_alloc ?_ _) | (with_reducible refine Kd.C_drewN ?_ _) | (with_reducible refine Kd.C_drew ?_))); (case side2 => exact (Kd.R_reads' HO_7.out).2.1); rintro e w63 ⟨rfl, hb⟩; replace HO_7 := RB HO_7 hb; replace BK146 := BB BK146 hb; replace BK151 := BB BK151 hb; replace HB := BS HB hb; clear hb; obtain ⟨hcz64_0, hcz64_1, hfz64_0, hfz64_1⟩ := CZ2 BK151) | ((with_reducible refine gate_builtin (b := .append) (xs := #[.tmp 84, .tmp 86]) rfl ?_); (try (refine gate_guard (by rfl) ?_; dsimp only)); at_builtin; refine Kd.R_append k43 (w0 := w) w.heap.size rfl (.tmp 84) (.tmp 86) 35 43 (.agg #[(.int .i64 0), (.int .i64 0)]) 16 rfl Try.underlying35 info43 rfl (by decide) (by omega) (.slice Ao62 x7_2.length co62) x7_2 (⟨x152000_3, x152001_3⟩ : S43) [.int .i64 x152000_3, .int .i64 x152001_3] (fun k_ => k_ ≠ gb151) (fun _ => False) rfl rfl ?aP (fun _ hk => hk.elim) ?aF ?aO ?aB ?aS ?aL ?_; (case aP => exact k43_mkM _ _ _ (⟨x152000_3, x152001_3⟩ : S43)); (case aB => exact BZ); (case aF => exact (fun k_ hk => Kd.freshB (g := gb151) (o := .cells #[.int .i64 x152000_3, .int .i64 x152001_3] 43 (0, 0)) BKZ k_ hk)); (case aO => exact (KR HO_7)); (case aS => exact (below_size BZ)); (case aL => have := LMc59.out; omega); intro v156 w65 ho hb hg hat; rw [← Ny155.out] at ho; have n0_ := Aside0.mk (blk_grown (g := gb146) (o := .cells #[.int .i64 a0_0, .int .i64 a0_1, .int .i64 a0_2] 30 (0, 0)) BKZ hg (Kd.R_ne HO_7.out BK146.out (by decide))); have n1_ := Aside0.mk (blk_grown (g := gb151) (o := .cells #[.int .i64 x152000_3, .int .i64 x152001_3] 43 (0, 0)) BKZ hg (Kd.R_away HO_7.out (fun _ hk => hk))); have n2_ := Aside0.mk (hb); have n3_ := Aside0.mk (ho); clear BK146; clear BK151; clear HB; clear HO_7; have BK146 := n0_; have BK151 := n1_; have HB := n2_; have HO157 := n3_; clear n0_ n1_ n2_ n3_; clear ho hb hg hat))
                go_roundg kj29
                case measure => have := HJ3.out; have := HK2.out; have := HK3.out; have := HJ29.out; omega
                case rel => exact ⟨(y155), (wrap64 (x8_2 + 1)), VZ, H', ⟨by have := HJ3.out; have := HK2.out; have := HK3.out; have := HJ29.out; omega⟩, ⟨RT (Kd.R_mono HO157.out (fun _ hk => trivial))⟩, ⟨BKZ⟩, ⟨BZ⟩⟩
               ·rw [if_neg c59] at H
                exact absurd H (by simp)
             ·replace c52 := Bool.eq_false_iff.mpr c52
              subst c52
              replace H := IE H
              have H' := Aside0.mk H
              clear H
              go_wp2
              go_roundg kj29
              case measure => have := HJ3.out; have := HK2.out; have := HK3.out; have := HJ29.out; omega
              case rel => exact ⟨(x7_2), (wrap64 (x8_2 + 1)), VZ, H', ⟨by have := HJ3.out; have := HK2.out; have := HK3.out; have := HJ29.out; omega⟩, ⟨RT (Kd.R_mono HO_7.out (fun _ hk => trivial))⟩, ⟨BKZ⟩, ⟨BZ⟩⟩
       ·rw [if_neg c21] at H
        exact absurd H (by simp)
      ·rw [if_neg c19] at H
       have c19b0 := decide_eq_false c19
       clear c19
       obtain ⟨t150, A66, H⟩ := BD H
       obtain rfl := Option.some.inj H
       obtain ⟨hcz67_0, hcz67_1, hcz67_2, hfz67_0, hfz67_1, hfz67_2⟩ := CZ3 BK146
       go_wp2_with (first | ((with_reducible refine GC 40 rfl ?_); refine GL 31 Try.func40 (impl_CountCells.calls a0_0 a0_1 t149 _ A18.out) ?_; rintro e w68 ⟨rfl, hb⟩; refine ⟨_, rfl, ?_⟩; replace HO_7 := RB HO_7 hb; replace BK146 := BB BK146 hb; replace HB := BS HB hb; clear hb; obtain ⟨Ao69, co69, eo69⟩ := Kd.R_slice HO_7.out; subst eo69) | ((with_reducible refine GC 43 rfl ?_); refine GL 89 Try.func43 (slices_SortFunc_impl_Walker_impl_Walker.calls (fun k_ => some k_ = (.slice Ao69 x7_2.length co69 : Value).ownBlock) (.slice Ao69 x7_2.length co69) x7_2 () t150 w _ ?side1 ?side2 A66.out) ?_; (case side1 => repeat (first | (with_reducible first | exact HB.out | apply below_alloc | apply pw_below_drewN | apply below_drew1 | refine below_set ?_ GE146.out) | exact HB.out)); (case side2 => exact Kd.R_tight rfl HO_7.out); rintro e w70 ⟨rfl, hy0, hb, hkp⟩; refine ⟨_, rfl, ?_⟩; have n0_ := Aside0.mk (Kd.R_reok rfl hy0 (fun k_ e_ => HO_7.out.1 k_ e_)); have n1_ := Aside0.mk (blk_kept BKZ hkp (fun hs_ => (fun e_ => (Kd.R_ne HO_7.out BK146.out (by decide)) e_) hs_)); have n2_ := Aside0.mk (hb); clear HO_7; clear BK146; clear HB; have HO_7 := n0_; have BK146 := n1_; have HB := n2_; clear n0_ n1_ n2_; (try clear hb); (try clear hkp); (try clear hy0)))
       go_ret
       exact ⟨_, RZ, KR HO_7, BZ⟩

def impl_IsLocated.f (k : Nat) (a0_0 : Int) (a0_1 : Int) (a0_2 : Int) (l1 : List Int) (l2 : List Int) : Option (Bool) := (impl_PossibleWalkers.f k a0_0 a0_1 a0_2 l1 l2).bind fun t165 => (some ((t165.length : Int) == 1))
set_option maxHeartbeats 8000000 in
set_option maxRecDepth 100000 in
theorem impl_IsLocated.calls (k : Nat) (a0_0 : Int) (a0_1 : Int) (a0_2 : Int) (A1 : Option Addr) (c1 : Nat) (l1 : List Int) (A2 : Option Addr) (c2 : Nat) (l2 : List Int) (r : Bool) (w : World) (hr1 : Kd.C (Kd.int .i64) w A1 l1.length l1) (hc1 : l1.length ≤ c1) (hr2 : Kd.C (Kd.int .i64) w A2 l2.length l2) (hc2 : l2.length ≤ c2) (h : impl_IsLocated.f k a0_0 a0_1 a0_2 l1 l2 = some r) :
  Calls Try.prog 10 #[.agg #[.int .i64 a0_0, .int .i64 a0_1, .int .i64 a0_2], .slice A1 l1.length c1, .slice A2 l2.length c2] w fun e w' => e = .returned (.bool r) ∧ Below w.heap.size w w' := by
 have hu30 := Try.underlying30
 have HR1 := Aside0.mk hr1
 have HC1 := Aside0.mk hc1
 clear hr1 hc1
 have HR2 := Aside0.mk hr2
 have HC2 := Aside0.mk hc2
 clear hr2 hc2
 have HB := Aside0.mk (Below.refl w.heap.size w)
 have H := h
 unfold impl_IsLocated.f at H
 clear h
 obtain ⟨t165, A4, H⟩ := BD H
 obtain rfl := Option.some.inj H
 go_enter Try.func10, Try.ntmps10
 go_wp2_with (first | ((with_reducible refine gate_dst (N := 3) rfl ?_); refine BX 3 30 #[.int .i64 a0_0, .int .i64 a0_1, .int .i64 a0_2] ?_; intro gb164 hg w5 hbox hb; have BK164 := Aside0.mk (hbox); have GW164 := (GS hg : Aside0 (w.heap.size ≤ gb164)); have GE164 := GW164; replace HB := BS HB hb; clear hb hbox hg; obtain ⟨hcz6_0, hcz6_1, hcz6_2, hfz6_0, hfz6_1, hfz6_2⟩ := CZ3 BK164) | ((with_reducible refine GC 13 rfl ?_); refine GL 10 Try.func13 (impl_PossibleWalkers.calls k a0_0 a0_1 a0_2 _ _ l1 _ _ l2 t165 _ (CB HR1) HC1.out (CB HR2) HC2.out A4.out) ?_; rintro e w7 ⟨v166, rfl, ho0, hb⟩; refine ⟨_, rfl, ?_⟩; have HO167 := Aside0.mk (Kd.R_lower ho0 (below_size BZ)); replace BK164 := BB BK164 hb; replace HB := BS HB hb; clear hb; (try clear ho0); obtain ⟨Ao8, co8, eo8⟩ := Kd.R_slice HO167.out; subst eo8))
 go_ret
 exact ⟨RZ, BZ⟩

def laws_big.f (l0 : List Int) : Option (Bool) := some (decide ((l0.length : Int) > 1048576))
set_option maxHeartbeats 8000000 in
set_option maxRecDepth 100000 in
theorem laws_big.calls (A0 : Option Addr) (c0 : Nat) (l0 : List Int) (r : Bool) (w : World) (hr0 : Kd.C (Kd.int .u8) w A0 l0.length l0) (hc0 : l0.length ≤ c0) (h : laws_big.f l0 = some r) :
  Calls Try.prog 18 #[.slice A0 l0.length c0] w fun e w' => e = .returned (.bool r) ∧ Drawn0 w w' := by
 have HR0 := Aside0.mk hr0
 have HC0 := Aside0.mk hc0
 clear hr0 hc0
 have H := h
 unfold laws_big.f at H
 clear h
 obtain rfl := Option.some.inj H
 go_enter Try.func18, Try.ntmps18
 go_wp2
 go_ret
 exact ⟨by first | rfl | (simp; done) | (simp [*]; done), DZ⟩

/-- A state of type 94 at block g of W; what its slices lead to came in by w0. -/
def IsS94 (w0 W : World) (g : Nat) (f0 : List Int) (f1 : Int) (f2 : Int) : Prop := ∃ A0 c0, W.heap[g]? = some (.cells #[.slice A0 f0.length c0, .int .i64 f1, .int .i64 f2] 94 (0, 0)) ∧ w0.heap.size ≤ g ∧ Kd.C (Kd.int .u8) w0 A0 f0.length f0
theorem IsS94.grown {w0 W : World} {g : Nat} {f0 : List Int} {f1 : Int} {f2 : Int} {W1 : World} {row : Option Nat} (h : IsS94 w0 W g f0 f1 f2) (hw : W.grownBy W1 row) (hne : some g ≠ row) : IsS94 w0 W1 g f0 f1 f2 := by
 obtain ⟨A0, c0, hb, hg, hr0⟩ := h
 exact ⟨A0, c0, blk_grown hb hw hne, hg, hr0⟩
theorem IsS94.below {w0 W : World} {g : Nat} {f0 : List Int} {f1 : Int} {f2 : Int} {W1 : World} (h : IsS94 w0 W g f0 f1 f2) (hw : Below W.heap.size W W1) : IsS94 w0 W1 g f0 f1 f2 := h.grown (grown_of_below hw none) (by simp)
theorem IsS94.alloc {w0 W : World} {g : Nat} {f0 : List Int} {f1 : Int} {f2 : Int} (h : IsS94 w0 W g f0 f1 f2) (o : Obj) : IsS94 w0 (W.alloc o) g f0 f1 f2 := h.below (below_alloc (Below.refl _ _) o)
theorem IsS94.drewN {w0 W : World} {g : Nat} {f0 : List Int} {f1 : Int} {f2 : Int} (h : IsS94 w0 W g f0 f1 f2) (m : Nat) : IsS94 w0 (W.drewN m) g f0 f1 f2 := h
theorem IsS94.drew {w0 W : World} {g : Nat} {f0 : List Int} {f1 : Int} {f2 : Int} (h : IsS94 w0 W g f0 f1 f2) : IsS94 w0 W.drew g f0 f1 f2 := h
theorem IsS94.apart {w0 W : World} {g : Nat} {f0 : List Int} {f1 : Int} {f2 : Int} {α : Type} {d : Kd α} {e : Nat} {base : Nat} {ok : Nat → Prop} {v : Value} {xs : List α} (h : IsS94 w0 W g f0 f1 f2) (ho : d.R e W base ok v xs) (ht : ∀ q, q ∈ e :: d.E → q ≠ 94) : d.R e W base (fun k => ok k ∧ k ≠ g) v xs := by
 obtain ⟨A0, c0, hb, hg, hr0⟩ := h
 exact Kd.R_types ho hb ht
theorem IsS94.own_ne {w0 W : World} {g : Nat} {f0 : List Int} {f1 : Int} {f2 : Int} {α : Type} {d : Kd α} {e : Nat} {base : Nat} {ok : Nat → Prop} {v : Value} {xs : List α} (h : IsS94 w0 W g f0 f1 f2) (ho : d.R e W base ok v xs) (ht : e ≠ 94) : some g ≠ v.ownBlock := by
 obtain ⟨A0, c0, hb, hg, hr0⟩ := h
 exact Kd.R_ne ho hb ht
theorem IsS94.lt {w0 W : World} {g : Nat} {f0 : List Int} {f1 : Int} {f2 : Int} (h : IsS94 w0 W g f0 f1 f2) : g < W.heap.size := by
 obtain ⟨A0, c0, hb, hg, hr0⟩ := h
 exact blk_lt hb
theorem IsS94.ge {w0 W : World} {g : Nat} {f0 : List Int} {f1 : Int} {f2 : Int} (h : IsS94 w0 W g f0 f1 f2) : w0.heap.size ≤ g := by
 obtain ⟨A0, c0, hb, hg, hr0⟩ := h
 exact hg
theorem IsS94.ne_blk {w0 W : World} {g : Nat} {f0 : List Int} {f1 : Int} {f2 : Int} {a : Nat} {cs : Array Value} {t : TypeId} {fr : Nat × Nat} (h : IsS94 w0 W g f0 f1 f2) (hb2 : W.heap[a]? = some (.cells cs t fr)) (ht : t ≠ 94) : g ≠ a := by
 obtain ⟨A0, c0, hb, hg, hr0⟩ := h
 rintro rfl
 rw [hb] at hb2
 injection hb2 with hb2
 injection hb2 with _ ht2
 exact ht ht2.symm
theorem IsS94.far {w0 W : World} {g : Nat} {f0 : List Int} {f1 : Int} {f2 : Int} {p : Addr} (h : IsS94 w0 W g f0 f1 f2) (hne : g ≠ p.block) (u : Value) : IsS94 w0 (W.setCell p u) g f0 f1 f2 := by
 obtain ⟨A0, c0, hb, hg, hr0⟩ := h
 exact ⟨A0, c0, blk_far hb hne u, hg, hr0⟩
theorem cellS94_0 {W : World} {g : Nat} {A0 : Option Addr} {c0 : Nat} {f0 : List Int} {f1 : Int} {f2 : Int} (h : W.heap[g]? = some (.cells #[.slice A0 f0.length c0, .int .i64 f1, .int .i64 f2] 94 (0, 0))) : W.cell? ⟨g, 0, none⟩ = some (.slice A0 f0.length c0) := (blk_cell h 0).trans rfl
theorem cellS94_1 {W : World} {g : Nat} {A0 : Option Addr} {c0 : Nat} {f0 : List Int} {f1 : Int} {f2 : Int} (h : W.heap[g]? = some (.cells #[.slice A0 f0.length c0, .int .i64 f1, .int .i64 f2] 94 (0, 0))) : W.cell? ⟨g, 1, none⟩ = some (.int .i64 f1) := (blk_cell h 1).trans rfl
theorem IsS94.set_1 {w0 W : World} {g : Nat} {f0 : List Int} {f1 : Int} {f2 : Int} (h : IsS94 w0 W g f0 f1 f2) (x : Int) : IsS94 w0 (W.setCell ⟨g, 1, none⟩ (.int .i64 x)) g f0 x f2 := by
 obtain ⟨A0, c0, hb, hg, hr0⟩ := h
 exact ⟨A0, c0, by simpa using blk_set hb 1 (.int .i64 x), hg, hr0⟩
theorem cellS94_2 {W : World} {g : Nat} {A0 : Option Addr} {c0 : Nat} {f0 : List Int} {f1 : Int} {f2 : Int} (h : W.heap[g]? = some (.cells #[.slice A0 f0.length c0, .int .i64 f1, .int .i64 f2] 94 (0, 0))) : W.cell? ⟨g, 2, none⟩ = some (.int .i64 f2) := (blk_cell h 2).trans rfl
theorem IsS94.set_2 {w0 W : World} {g : Nat} {f0 : List Int} {f1 : Int} {f2 : Int} (h : IsS94 w0 W g f0 f1 f2) (x : Int) : IsS94 w0 (W.setCell ⟨g, 2, none⟩ (.int .i64 x)) g f0 f1 x := by
 obtain ⟨A0, c0, hb, hg, hr0⟩ := h
 exact ⟨A0, c0, by simpa using blk_set hb 2 (.int .i64 x), hg, hr0⟩
def spec_l01New.l0 : Nat → List Int → Int → Int → Option (List Int × Int × Int)
  | 0, _, _, _ => none
  | k + 1, x0, x3, x4 => if x4 < (x0.length : Int) then (if x4 < 4000 then (if 0 ≤ x4 then (spec_l01New.l0 k x0 (Go.bits .and .i64 (wrap64 ((wrap64 ((wrap64 (x3 * 131)) + (wrap64 (rd x0 x4)))) + 7)) 1073741823) (wrap64 (x4 + 1))) else (none)) else (some (x0, 0, x3))) else (some (x0, 0, x3))
def spec_l01New.f (k : Nat) (l0 : List Int) : Option (List Int × Int × Int) := spec_l01New.l0 k l0 (wrap64 (99041 + (l0.length : Int))) 0
theorem spec_l01New.mono_l : ∀ k, (∀ y0 y1 y2, LeO (spec_l01New.l0 k y0 y1 y2) (spec_l01New.l0 (k + 1) y0 y1 y2))
  | 0 => fun _ _ _ r h => by simp [spec_l01New.l0] at h
  | k + 1 => by
    have ih0 := spec_l01New.mono_l k
    intro y0 y1 y2
    unfold spec_l01New.l0
    repeat' first
      | (with_reducible exact ih0 _ _ _)
      | (with_reducible exact LeO.refl _)
      | (with_reducible exact LeO.none _)
      | (with_reducible refine LeO.ite ?_ ?_)
theorem spec_l01New.mono : ∀ a0 k, LeO (spec_l01New.f k a0) (spec_l01New.f (k + 1) a0) := fun a0 k => spec_l01New.mono_l k _ _ _
set_option maxHeartbeats 4000000 in
set_option maxRecDepth 100000 in
theorem spec_l01New.calls (k : Nat) (A0 : Option Addr) (c0 : Nat) (l0 : List Int) (r1 : List Int) (r2 : Int) (r3 : Int) (w0 w : World) (hB : Below w0.heap.size w0 w) (hr0 : Kd.C (Kd.int .u8) w0 A0 l0.length l0) (hc0 : l0.length ≤ c0) (h : spec_l01New.f k l0 = some (r1, r2, r3)) :
    Calls Try.prog 46 #[.slice A0 l0.length c0] w fun e w' => ∃ g_ : Nat, e = .returned (.pointer (some ⟨g_, 0, none⟩)) ∧ IsS94 w0 w' g_ r1 r2 r3 ∧ Below w0.heap.size w0 w' ∧ Below w.heap.size w w' := by
  have hu94 := Try.underlying94
  have HR0 := Aside0.mk hr0
  have HR1 := Aside0.mk (Kd.C_below hr0 hB)
  have HB := Aside0.mk hB
  clear hr0 hB
  have H' := Aside0.mk (show spec_l01New.l0 k l0 (wrap64 (99041 + (l0.length : Int))) 0 = some (r1, r2, r3) from h)
  clear h
  go_enter Try.func46, Try.ntmps46
  go_wp2
  go_loopg [3, 4] k (fun kq v3 v4 w' => ∃ (x3_1 : Int) (x4_1 : Int), v3 = .int .i64 x3_1 ∧ v4 = .int .i64 x4_1 ∧ Aside0 (spec_l01New.l0 kq l0 x3_1 x4_1 = some (r1, r2, r3)) ∧ Aside0 (kq ≤ k) ∧ w = w')
  case atStart => exact ⟨(wrap64 (99041 + (l0.length : Int))), 0, rfl, rfl, H', ⟨Nat.le_refl _⟩, rfl⟩
  case round =>
    clear H'
    obtain ⟨x3_1, x4_1, rfl, rfl, HA, HK1, rfl⟩ := hrel
    cases gk with
    | zero => exact absurd HA.out (by simp [spec_l01New.l0])
    | succ k1 =>
      have H := HA.out
      clear HA
      simp only [spec_l01New.l0] at H
      by_cases c2 : x4_1 < (l0.length : Int)
      · rw [if_pos c2] at H
        have c2b0 : decide (x4_1 < (l0.length : Int)) = true := decide_eq_true c2
        clear c2
        by_cases c3 : x4_1 < 4000
        · rw [if_pos c3] at H
          have c3b0 : decide (x4_1 < 4000) = true := decide_eq_true c3
          clear c3
          by_cases c4 : 0 ≤ x4_1
          · rw [if_pos c4] at H
            have c4b0 : decide (0 ≤ x4_1) = true := decide_eq_true c4
            clear c4
            have H' := Aside0.mk H
            clear H
            have p301 : 0 ≤ (x4_1 : Int) := of_decide_eq_true (by first | (with_reducible assumption) | assumption)
            have q301 : x4_1 < (l0.length : Int) := of_decide_eq_true (by first | (with_reducible assumption) | assumption)
            obtain ⟨ad301, e301, hx301_0⟩ := Kd.at_int HR1.out x4_1 p301 q301
            cases e301
            replace p301 := eq_true p301
            replace q301 := eq_true q301
            go_wp2
            go_roundg k1
            case measure => have := HK1.out; omega
            case rel => exact ⟨(Go.bits .and .i64 (wrap64 ((wrap64 ((wrap64 (x3_1 * 131)) + (wrap64 (rd l0 x4_1)))) + 7)) 1073741823), (wrap64 (x4_1 + 1)), (by first | rfl | (simp; done) | (simp [*]; done)), (by first | rfl | (simp; done) | (simp [*]; done)), H', ⟨by have := HK1.out; omega⟩, rfl⟩
          · rw [if_neg c4] at H
            exact absurd H (by simp)
        · rw [if_neg c3] at H
          have c3b0 : decide (x4_1 < 4000) = false := decide_eq_false c3
          clear c3
          simp only [Option.some.injEq, Prod.mk.injEq] at H
          obtain ⟨rfl, rfl, rfl⟩ := H
          go_wp2
          go_ret
          exact ⟨w.heap.size, rfl, ⟨_, _, (MapKept.heap_alloc w _).1, HB.out.size, HR0.out⟩, HB.out.alloc HB.out.size _, (Below.refl _ _).alloc (Nat.le_refl _) _⟩
      · rw [if_neg c2] at H
        have c2b0 : decide (x4_1 < (l0.length : Int)) = false := decide_eq_false c2
        clear c2
        simp only [Option.some.injEq, Prod.mk.injEq] at H
        obtain ⟨rfl, rfl, rfl⟩ := H
        go_wp2
        go_ret
        exact ⟨w.heap.size, rfl, ⟨_, _, (MapKept.heap_alloc w _).1, HB.out.size, HR0.out⟩, HB.out.alloc HB.out.size _, (Below.refl _ _).alloc (Nat.le_refl _) _⟩


def spec_l01Byte.f (s0_0 : List Int) (s0_1 : Int) (s0_2 : Int) : Option (Int × Int × Int) := if s0_1 < (s0_0.length : Int) then (if 0 ≤ s0_1 then (some (Go.bits .and .i64 (wrap64 ((Go.bits .and .i64 (Go.bits .xor .i64 ((wrap64 ((wrap64 (s0_2 * 6364136223846793005)) + 1442695040888963407)) / 8589934592) ((wrap64 ((wrap64 (s0_2 * 6364136223846793005)) + 1442695040888963407)) / 35184372088832)) 255) + (wrap64 (rd s0_0 s0_1)))) 255, wrap64 (s0_1 + 1), wrap64 ((wrap64 (s0_2 * 6364136223846793005)) + 1442695040888963407))) else (none)) else (some (Go.bits .and .i64 (Go.bits .xor .i64 ((wrap64 ((wrap64 (s0_2 * 6364136223846793005)) + 1442695040888963407)) / 8589934592) ((wrap64 ((wrap64 (s0_2 * 6364136223846793005)) + 1442695040888963407)) / 35184372088832)) 255, s0_1, wrap64 ((wrap64 (s0_2 * 6364136223846793005)) + 1442695040888963407)))
set_option maxHeartbeats 8000000 in
set_option maxRecDepth 100000 in
theorem spec_l01Byte.calls (g : Nat) (s0_0 : List Int) (s0_1 : Int) (s0_2 : Int) (r1 : Int) (r2 : Int) (r3 : Int) (w0 w : World) (hI : IsS94 w0 w g s0_0 s0_1 s0_2) (hB : Below w0.heap.size w0 w) (h : spec_l01Byte.f s0_0 s0_1 s0_2 = some (r1, r2, r3)) :
  Calls Try.prog 89 #[.pointer (some ⟨g, 0, none⟩)] w fun e w' => e = .returned (.int .i64 r1) ∧ IsS94 w0 w' g s0_0 r2 r3 ∧ Below w0.heap.size w0 w' ∧ KeepBut w w' g none := by
 have HI0 := Aside0.mk hI
 have HK := Aside0.mk (KeepBut.refl w g none)
 have HL := Aside0.mk hB.size
 clear hI
 have HW0 := Aside0.mk hB.size
 have HB := Aside0.mk hB
 clear hB
 have H := h
 unfold spec_l01Byte.f at H
 clear h
 by_cases c2 : s0_1 < (s0_0.length : Int)
 ·rw [if_pos c2] at H
  have c2b0 := decide_eq_true c2
  clear c2
  by_cases c3 : 0 ≤ s0_1
  ·rw [if_pos c3] at H
   have c3b0 := decide_eq_true c3
   clear c3
   simp only [Option.some.injEq, Prod.mk.injEq] at H
   obtain ⟨rfl, rfl, rfl⟩ := H
   obtain ⟨ASz4_0, cSz4_0, HGz4, hgz4, HSz4_0⟩ := HI0.out
   have hcz4_0 := cellS94_0 HGz4
   have hcz4_1 := cellS94_1 HGz4
   have hcz4_2 := cellS94_2 HGz4
   have hfz4_1 := blk_frozen HGz4 1
   have hfz4_2 := blk_frozen HGz4 2
   clear HGz4 hgz4
   have p168 : 0 ≤ (s0_1 : Int) := of_decide_eq_true PZ
   have q168 : s0_1 < (s0_0.length : Int) := of_decide_eq_true PZ
   obtain ⟨ad168, e168, hx168_0⟩ := Kd.at_int HSz4_0 s0_1 p168 q168
   cases e168
   have hn168_0 : ad168.block ≠ g := Nat.ne_of_lt (Nat.lt_of_lt_of_le (by have := World.block_lt_of_cell? _ _ hx168_0; first | rwa [add_block] at this | exact this) (IsS94.ge HI0.out))
   replace hx168_0 := pw_cell_below HB.out hx168_0
   replace hx168_0 := (cell_far (p := ⟨g, 2, none⟩) (by first | (rw [add_block]; exact hn168_0) | (show (Addr.add _ _).block ≠ _; rw [add_block]; exact hn168_0) | exact hn168_0) (.int .i64 (wrap64 ((wrap64 (s0_2 * 6364136223846793005)) + 1442695040888963407)))).trans hx168_0
   (try have hy168_0 := fun (n_ : Nat) => (show (((w.drewN n_).setCell ⟨g, 2, none⟩ (.int .i64 (wrap64 ((wrap64 (s0_2 * 6364136223846793005)) + 1442695040888963407))))).cell? _ = some _ from hx168_0))
   clear hn168_0
   replace p168 := eq_true p168
   replace q168 := eq_true q168
   go_enter Try.func89, Try.ntmps89
   go_wp2
   repeat (go_quiet (fail); try go_wp2)
   go_ret
   exact ⟨RZ, by repeat (first | (with_reducible first | exact HI0.out | apply IsS94.alloc | apply IsS94.drewN | apply IsS94.drew | apply IsS94.set_1 | apply IsS94.set_2) | exact HI0.out), by repeat (first | (with_reducible first | exact HB.out | apply below_alloc | apply pw_below_drewN | apply below_drew1 | refine below_set ?_ (IsS94.ge HI0.out)) | exact HB.out), by repeat (first | (with_reducible first | exact HK.out | apply KeepBut.set_ | apply keep_drewN | apply keep_drew | apply keep_alloc) | exact HK.out)⟩
  ·rw [if_neg c3] at H
   exact absurd H (by simp)
 ·rw [if_neg c2] at H
  have c2b0 := decide_eq_false c2
  clear c2
  simp only [Option.some.injEq, Prod.mk.injEq] at H
  obtain ⟨rfl, rfl, rfl⟩ := H
  obtain ⟨ASz5_0, cSz5_0, HGz5, hgz5, HSz5_0⟩ := HI0.out
  have hcz5_0 := cellS94_0 HGz5
  have hcz5_1 := cellS94_1 HGz5
  have hcz5_2 := cellS94_2 HGz5
  have hfz5_1 := blk_frozen HGz5 1
  have hfz5_2 := blk_frozen HGz5 2
  clear HGz5 hgz5
  go_enter Try.func89, Try.ntmps89
  go_wp2
  repeat (go_quiet (fail); try go_wp2)
  go_ret
  exact ⟨RZ, by repeat (first | (with_reducible first | exact HI0.out | apply IsS94.alloc | apply IsS94.drewN | apply IsS94.drew | apply IsS94.set_1 | apply IsS94.set_2) | exact HI0.out), by repeat (first | (with_reducible first | exact HB.out | apply below_alloc | apply pw_below_drewN | apply below_drew1 | refine below_set ?_ (IsS94.ge HI0.out)) | exact HB.out), by repeat (first | (with_reducible first | exact HK.out | apply KeepBut.set_ | apply keep_drewN | apply keep_drew | apply keep_alloc) | exact HK.out)⟩

end Go.Proofs.Ytfpomjnhgcmgoaa.P

