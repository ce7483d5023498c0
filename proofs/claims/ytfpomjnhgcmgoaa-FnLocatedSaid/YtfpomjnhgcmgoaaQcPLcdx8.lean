/- Proved here: calls of functions of the program answer as the plain functions beside them say. Conditions: each theorem names its own. Written by a program of this session (hprint.py) out of the translation. -/
import Derived.Test.YtfpomjnhgcmgoaaQcPLcdx0
import Derived.Test.YtfpomjnhgcmgoaaQcPLcdx2
import Derived.Test.YtfpomjnhgcmgoaaQcPLcdx3
import Derived.Test.YtfpomjnhgcmgoaaQcPLcdx4
import Derived.Test.YtfpomjnhgcmgoaaQcPLcdx5
import Derived.Test.YtfpomjnhgcmgoaaQcPLcdx7
namespace Go.Proofs.Ytfpomjnhgcmgoaa.P
open Go.RowKit Go.Proofs.YtfpomjnhgcmgoaaW.PrintWords Go.Proofs.YtfpomjnhgcmgoaaW.PrintLast Go.Proofs.YtfpomjnhgcmgoaaW.PrintMore
attribute [local go_sem] max2_int min2_int max_two min_two max_three min_three max_four min_four   -- for this text's walks alone
set_option linter.unusedVariables false
set_option linter.unusedSimpArgs false

def spec_l33Turned.f (k : Nat) (a0_0 : Int) (a0_1 : Int) (a0_2 : Int) (a1_0 : Int) (a1_1 : Int) (a2 : Int) : Option (Int × Int × Bool) := (spec_Step.f k a0_0 a0_1 a0_2 a1_0 (Int.tmod (wrap64 (a1_1 + a2)) 4)).bind fun t298 => (if t298 < 0 then (some (a1_0, a1_1, false)) else (some (t298, Int.tmod (wrap64 (a1_1 + a2)) 4, true)))
theorem spec_l33Turned.mono : ∀ a0 a1 a2 a3 a4 a5 k, LeO (spec_l33Turned.f k a0 a1 a2 a3 a4 a5) (spec_l33Turned.f (k + 1) a0 a1 a2 a3 a4 a5) := by
 intro a0 a1 a2 a3 a4 a5 k
 unfold spec_l33Turned.f
 repeat' first
   | (with_reducible exact spec_Step.mono _ _ _ _ _ _)
   | (with_reducible exact LeO.refl _)
   | (with_reducible exact LeO.none _)
   | (with_reducible refine LeO.ite ?_ ?_)
   | (with_reducible refine LeO.bind ?_ (fun _ => ?_))
   | exact spec_Step.mono _ _ _ _ _ _
   | exact LeO.none _
   | refine LeO.ite ?_ ?_
   | refine LeO.bind ?_ (fun _ => ?_)
set_option maxHeartbeats 8000000 in
set_option maxRecDepth 100000 in
theorem spec_l33Turned.calls (k : Nat) (a0_0 : Int) (a0_1 : Int) (a0_2 : Int) (a1_0 : Int) (a1_1 : Int) (a2 : Int) (r1 : Int) (r2 : Int) (r3 : Bool) (w : World) (h : spec_l33Turned.f k a0_0 a0_1 a0_2 a1_0 a1_1 a2 = some (r1, r2, r3)) :
  Calls Try.prog 37 #[.agg #[.int .i64 a0_0, .int .i64 a0_1, .int .i64 a0_2], .agg #[.int .i64 a1_0, .int .i64 a1_1], .int .i64 a2] w fun e w' => e = .returned (.tuple #[.agg #[.int .i64 r1, .int .i64 r2], .bool r3]) ∧ Below w.heap.size w w' := by
 have hu30 := Try.underlying30
 have hu43 := Try.underlying43
 have HB := Aside0.mk (Below.refl w.heap.size w)
 have H := h
 unfold spec_l33Turned.f at H
 clear h
 obtain ⟨t298, A4, H⟩ := BD H
 by_cases c5 : t298 < 0
 ·rw [if_pos c5] at H
  have c5b0 := decide_eq_true c5
  clear c5
  simp only [Option.some.injEq, Prod.mk.injEq] at H
  obtain ⟨rfl, rfl, rfl⟩ := H
  go_enter Try.func37, Try.ntmps37
  go_wp2_with (first | ((with_reducible refine gate_dst (N := 3) rfl ?_); refine BX 3 30 #[.int .i64 a0_0, .int .i64 a0_1, .int .i64 a0_2] ?_; intro gb295 hg w6 hbox hb; have BK295 := Aside0.mk (hbox); have GW295 := (GS hg : Aside0 (w.heap.size ≤ gb295)); have GE295 := GW295; replace HB := BS HB hb; clear hb hbox hg) | ((with_reducible refine gate_dst (N := 4) rfl ?_); refine BX 4 43 #[.int .i64 a1_0, .int .i64 a1_1] ?_; intro gb296 hg w7 hbox hb; have BK296 := Aside0.mk (hbox); have GW296 := (GS hg : Aside0 (w.heap.size ≤ gb296)); have GE296 := GW296; have NB295_296 := NL BK295 hg; have NB296_295 := NG BK295 hg; replace BK295 := BB BK295 hb; replace HB := BS HB hb; clear hb hbox hg) | ((with_reducible refine gate_dst (N := 6) rfl ?_); refine BX 6 43 #[.int .i64 0, .int .i64 0] ?_; intro gb297 hg w8 hbox hb; have BK297 := Aside0.mk (hbox); have GW297 := (GS hg : Aside0 (w.heap.size ≤ gb297)); have GE297 := GW297; have NB295_297 := NL BK295 hg; have NB297_295 := NG BK295 hg; have NB296_297 := NL BK296 hg; have NB297_296 := NG BK296 hg; replace BK295 := BB BK295 hb; replace BK296 := BB BK296 hb; replace HB := BS HB hb; clear hb hbox hg; have hnb9 := NB296_295.out; have hnc9 := NB295_296.out; have hnb10 := NB296_297.out; have hnc10 := NB297_296.out; obtain ⟨hcz11_0, hcz11_1, hfz11_0, hfz11_1⟩ := CZ2 BK296; have hnb12 := NB295_297.out; have hnc12 := NB297_295.out; obtain ⟨hcz13_0, hcz13_1, hcz13_2, hfz13_0, hfz13_1, hfz13_2⟩ := CZ3 BK295) | ((with_reducible refine GC 21 rfl ?_); refine GL 19 Try.func21 (spec_Step.calls k a0_0 a0_1 a0_2 a1_0 (Int.tmod (wrap64 (a1_1 + a2)) 4) t298 _ A4.out) ?_; rintro e w14 ⟨rfl, hb⟩; refine ⟨_, rfl, ?_⟩; replace BK295 := BB BK295 hb; replace BK296 := BB BK296 hb; replace BK297 := BB BK297 hb; replace HB := BS HB hb; clear hb; obtain ⟨hcz15_0, hcz15_1, hfz15_0, hfz15_1⟩ := CZ2 BK296; obtain ⟨hcz16_0, hcz16_1, hfz16_0, hfz16_1⟩ := CZ2 BK297))
  refine bodyPost_ret (results_ct rfl _ _ gb297 43 #[.int .i64 a1_0, .int .i64 a1_1] (0, 0) _ rfl (PQ2 BK297) Try.underlying43 rfl (by kernel_rfl)) rfl ?_
  exact ⟨RZ, BZ⟩
 ·rw [if_neg c5] at H
  have c5b0 := decide_eq_false c5
  clear c5
  simp only [Option.some.injEq, Prod.mk.injEq] at H
  obtain ⟨rfl, rfl, rfl⟩ := H
  go_enter Try.func37, Try.ntmps37
  go_wp2_with (first | ((with_reducible refine gate_dst (N := 3) rfl ?_); refine BX 3 30 #[.int .i64 a0_0, .int .i64 a0_1, .int .i64 a0_2] ?_; intro gb295 hg w17 hbox hb; have BK295 := Aside0.mk (hbox); have GW295 := (GS hg : Aside0 (w.heap.size ≤ gb295)); have GE295 := GW295; replace HB := BS HB hb; clear hb hbox hg) | ((with_reducible refine gate_dst (N := 4) rfl ?_); refine BX 4 43 #[.int .i64 a1_0, .int .i64 a1_1] ?_; intro gb296 hg w18 hbox hb; have BK296 := Aside0.mk (hbox); have GW296 := (GS hg : Aside0 (w.heap.size ≤ gb296)); have GE296 := GW296; have NB295_296 := NL BK295 hg; have NB296_295 := NG BK295 hg; replace BK295 := BB BK295 hb; replace HB := BS HB hb; clear hb hbox hg) | ((with_reducible refine gate_dst (N := 6) rfl ?_); refine BX 6 43 #[.int .i64 0, .int .i64 0] ?_; intro gb297 hg w19 hbox hb; have BK297 := Aside0.mk (hbox); have GW297 := (GS hg : Aside0 (w.heap.size ≤ gb297)); have GE297 := GW297; have NB295_297 := NL BK295 hg; have NB297_295 := NG BK295 hg; have NB296_297 := NL BK296 hg; have NB297_296 := NG BK296 hg; replace BK295 := BB BK295 hb; replace BK296 := BB BK296 hb; replace HB := BS HB hb; clear hb hbox hg; have hnb20 := NB296_295.out; have hnc20 := NB295_296.out; have hnb21 := NB296_297.out; have hnc21 := NB297_296.out; obtain ⟨hcz22_0, hcz22_1, hfz22_0, hfz22_1⟩ := CZ2 BK296; have hnb23 := NB295_297.out; have hnc23 := NB297_295.out; obtain ⟨hcz24_0, hcz24_1, hcz24_2, hfz24_0, hfz24_1, hfz24_2⟩ := CZ3 BK295) | ((with_reducible refine GC 21 rfl ?_); refine GL 19 Try.func21 (spec_Step.calls k a0_0 a0_1 a0_2 a1_0 (Int.tmod (wrap64 (a1_1 + a2)) 4) t298 _ A4.out) ?_; rintro e w25 ⟨rfl, hb⟩; refine ⟨_, rfl, ?_⟩; replace BK295 := BB BK295 hb; replace BK296 := BB BK296 hb; replace BK297 := BB BK297 hb; replace HB := BS HB hb; clear hb; obtain ⟨hcz26_0, hcz26_1, hfz26_0, hfz26_1⟩ := CZ2 BK297))
  refine bodyPost_ret (results_ct rfl _ _ gb297 43 #[.int .i64 t298, .int .i64 (Int.tmod (wrap64 (a1_1 + a2)) 4)] (0, 0) _ rfl (PQ2 BK297) Try.underlying43 rfl (by kernel_rfl)) rfl ?_
  exact ⟨RZ, BZ⟩

def spec_WaysFrom.l0 : Nat → Int → List Int → Int → Int → Int → Int → Option (List Int)
 | 0, _, _, _, _, _, _ => none
 | k + 1, x1, x5, x6, x300000, x300001, x300002 => if x6 ≤ 3 then ((spec_Step.f k x300000 x300001 x300002 x1 x6).bind fun t303 => (if t303 ≥ 0 then (if x5.length < 17592186044416 then (spec_WaysFrom.l0 k x1 (x5 ++ [x6]) (wrap64 (x6 + 1)) x300000 x300001 x300002) else (none)) else (spec_WaysFrom.l0 k x1 x5 (wrap64 (x6 + 1)) x300000 x300001 x300002))) else (some x5)
def spec_WaysFrom.f (k : Nat) (a0_0 : Int) (a0_1 : Int) (a0_2 : Int) (a1 : Int) : Option (List Int) := spec_WaysFrom.l0 k a1 (([] : List Int)) 0 a0_0 a0_1 a0_2
theorem spec_WaysFrom.mono_l : ∀ k, (∀ y0 y1 y2 y3 y4 y5, LeO (spec_WaysFrom.l0 k y0 y1 y2 y3 y4 y5) (spec_WaysFrom.l0 (k + 1) y0 y1 y2 y3 y4 y5))
 | 0 => fun _ _ _ _ _ _ r h => by simp [spec_WaysFrom.l0] at h
 | k + 1 => by
  have ih0 := spec_WaysFrom.mono_l k
  ·intro y0 y1 y2 y3 y4 y5
   unfold spec_WaysFrom.l0
   repeat' first
   | (with_reducible exact ih0 _ _ _ _ _ _)
   | (with_reducible exact spec_Step.mono _ _ _ _ _ _)
   | (with_reducible exact LeO.refl _)
   | (with_reducible exact LeO.none _)
   | (with_reducible refine LeO.ite ?_ ?_)
   | (with_reducible refine LeO.bind ?_ (fun _ => ?_))
   | exact ih0 _ _ _ _ _ _
   | exact spec_Step.mono _ _ _ _ _ _
   | exact LeO.none _
   | refine LeO.ite ?_ ?_
   | refine LeO.bind ?_ (fun _ => ?_)
theorem spec_WaysFrom.mono : ∀ a0 a1 a2 a3 k, LeO (spec_WaysFrom.f k a0 a1 a2 a3) (spec_WaysFrom.f (k + 1) a0 a1 a2 a3) := by
 intro a0 a1 a2 a3 k
 have ih0 := spec_WaysFrom.mono_l k
 unfold spec_WaysFrom.f
 repeat' first
   | (with_reducible exact ih0 _ _ _ _ _ _)
   | (with_reducible exact spec_Step.mono _ _ _ _ _ _)
   | (with_reducible exact LeO.refl _)
   | (with_reducible exact LeO.none _)
   | (with_reducible refine LeO.ite ?_ ?_)
   | (with_reducible refine LeO.bind ?_ (fun _ => ?_))
   | exact ih0 _ _ _ _ _ _
   | exact spec_Step.mono _ _ _ _ _ _
   | exact LeO.none _
   | refine LeO.ite ?_ ?_
   | refine LeO.bind ?_ (fun _ => ?_)
set_option maxHeartbeats 8000000 in
set_option maxRecDepth 100000 in
theorem spec_WaysFrom.calls (k : Nat) (a0_0 : Int) (a0_1 : Int) (a0_2 : Int) (a1 : Int) (r : List Int) (w : World) (h : spec_WaysFrom.f k a0_0 a0_1 a0_2 a1 = some r) :
  Calls Try.prog 82 #[.agg #[.int .i64 a0_0, .int .i64 a0_1, .int .i64 a0_2], .int .i64 a1] w fun e w' => ∃ v0_ : Value, e = .returned (v0_) ∧ Kd.R (Kd.int .i64) 3 w' w.heap.size (fun _ => True) v0_ r ∧ Below w.heap.size w w' := by
 have hu30 := Try.underlying30
 have HB := Aside0.mk (Below.refl w.heap.size w)
 have H := h
 unfold spec_WaysFrom.f at H
 clear h
 generalize hy300 : ((([] : List Int)) : List Int) = y300 at H
 have Ny300 := Aside0.mk hy300.symm
 clear hy300
 have H' := Aside0.mk H
 clear H
 go_enter Try.func82, Try.ntmps82
 go_wp2_with (first | ((with_reducible refine gate_dst (N := 2) rfl ?_); refine BX 2 30 #[.int .i64 a0_0, .int .i64 a0_1, .int .i64 a0_2] ?_; intro gb299 hg w3 hbox hb; have BK299 := Aside0.mk (hbox); have GW299 := (GS hg : Aside0 (w.heap.size ≤ gb299)); have GE299 := GW299; replace HB := BS HB hb; clear hb hbox hg) | ((with_reducible refine gate_dst (N := 7) rfl ?_); refine Kd.R_lit (Kd.int .i64) _ 3 ?hg (N := 7) ?hd (xs := ([] : List Int)) (inner := []) (ok := fun _ => True) (okp := fun _ => True) ?hr ?hp (fun _ hk => hk) trivial (Below.refl _ _) (Nat.le_refl _) (by simp) ?_; (case hd => rfl); (case hg => rfl); (case hr => first | (go_simp; done) | (go_simp; rfl)); (case hp => exact (Reps.none _ _)); intro v301 w4 ho5 hb hg_ hnew_; clear hg_ hnew_; (first | rw [← Ny300.out] at ho5 | (simp only [Int.reduceToNat] at ho5; rw [← Ny300.out] at ho5)); have HO302 := Aside0.mk (Kd.R_lower ho5 (below_size BZ)); replace BK299 := BB BK299 hb; replace HB := BS HB hb; clear hb ho5))
 go_loopg [5, 6] k (fun kq v5 v6 w' => ∃ (x5_1 : List Int) (x6_1 : Int), v6 = .int .i64 x6_1 ∧ Aside0 (spec_WaysFrom.l0 kq a1 x5_1 x6_1 a0_0 a0_1 a0_2 = some r) ∧ Aside0 (kq ≤ k) ∧ Aside0 (Kd.R (Kd.int .i64) 3 w' w.heap.size (fun _ => True) v5 x5_1) ∧ Aside0 (w'.heap[gb299]? = some (.cells #[.int .i64 a0_0, .int .i64 a0_1, .int .i64 a0_2] 30 (0, 0))) ∧ Aside0 (Below w.heap.size w w'))
 case atStart => exact ⟨(y300), (0), VZ, H', ⟨Nat.le_refl _⟩, ⟨KR HO302⟩, ⟨BKZ⟩, ⟨BZ⟩⟩
 case round =>
  clear H'
  try clear p2
  obtain ⟨x5_1, x6_1, rfl, HA, HK1, HO_5, BK299, HB⟩ := hrel
  cases gk with
  | zero => exact absurd HA.out (by simp [spec_WaysFrom.l0])
  | succ k1 =>
   have H := HA.out
   clear HA
   simp only [spec_WaysFrom.l0] at H
   by_cases c6 : x6_1 ≤ 3
   ·rw [if_pos c6] at H
    have c6b0 := decide_eq_true c6
    clear c6
    obtain ⟨t303, A7, H⟩ := BD H
    by_cases c8 : t303 ≥ 0
    ·rw [if_pos c8] at H
     have c8b0 := decide_eq_true c8
     clear c8
     by_cases c9 : x5_1.length < 17592186044416
     ·rw [if_pos c9] at H
      have LMc9 := Aside0.mk c9
      clear c9
      generalize hy304 : ((x5_1 ++ [x6_1]) : List Int) = y304 at H
      have Ny304 := Aside0.mk hy304.symm
      clear hy304
      have H' := Aside0.mk H
      clear H
      obtain ⟨hcz10_0, hcz10_1, hcz10_2, hfz10_0, hfz10_1, hfz10_2⟩ := CZ3 BK299
      go_wp2_with (first | ((with_reducible refine GC 21 rfl ?_); refine GL 15 Try.func21 (spec_Step.calls k1 a0_0 a0_1 a0_2 a1 x6_1 t303 _ A7.out) ?_; rintro e w11 ⟨rfl, hb⟩; refine ⟨_, rfl, ?_⟩; replace HO_5 := RB HO_5 hb; replace BK299 := BB BK299 hb; replace HB := BS HB hb; clear hb) | ((with_reducible refine gate_builtin (b := .append) (xs := #[.tmp 17, .tmp 19]) rfl ?_); at_builtin; refine Kd.R_append (Kd.int .i64) (w0 := w) w.heap.size rfl (.tmp 17) (.tmp 19) 26 3 (.int .i64 0) 8 rfl Try.underlying26 info3 rfl (by decide) (by omega) u5 x5_1 x6_1 [.int .i64 x6_1] (fun _ => True) (fun _ => False) rfl rfl ?aP (fun _ hk => hk.elim) ?aF ?aO ?aB ?aS ?aL ?_; (case aP => exact rfl); (case aB => exact BZ); (case aF => exact (fun _ _ => trivial)); (case aO => exact (KR HO_5)); (case aS => exact (below_size BZ)); (case aL => have := LMc9.out; omega); intro v305 w12 ho hb hg hat; rw [← Ny304.out] at ho; have n0_ := Aside0.mk (blk_grown (g := gb299) (o := .cells #[.int .i64 a0_0, .int .i64 a0_1, .int .i64 a0_2] 30 (0, 0)) BKZ hg (Kd.R_ne HO_5.out BK299.out (by decide))); have n1_ := Aside0.mk (hb); have n2_ := Aside0.mk (ho); clear BK299; clear HB; clear HO_5; have BK299 := n0_; have HB := n1_; have HO306 := n2_; clear n0_ n1_ n2_; clear ho hb hg hat))
      go_roundg k1
      case measure => have := HK1.out; omega
      case rel => exact ⟨(y304), (wrap64 (x6_1 + 1)), VZ, H', ⟨by have := HK1.out; omega⟩, ⟨KR HO306⟩, ⟨BKZ⟩, ⟨BZ⟩⟩
     ·rw [if_neg c9] at H
      exact absurd H (by simp)
    ·rw [if_neg c8] at H
     have c8b0 := decide_eq_false c8
     clear c8
     have H' := Aside0.mk H
     clear H
     obtain ⟨hcz13_0, hcz13_1, hcz13_2, hfz13_0, hfz13_1, hfz13_2⟩ := CZ3 BK299
     go_wp2_with (first | ((with_reducible refine GC 21 rfl ?_); refine GL 15 Try.func21 (spec_Step.calls k1 a0_0 a0_1 a0_2 a1 x6_1 t303 _ A7.out) ?_; rintro e w14 ⟨rfl, hb⟩; refine ⟨_, rfl, ?_⟩; replace HO_5 := RB HO_5 hb; replace BK299 := BB BK299 hb; replace HB := BS HB hb; clear hb))
     go_roundg k1
     case measure => have := HK1.out; omega
     case rel => exact ⟨(x5_1), (wrap64 (x6_1 + 1)), VZ, H', ⟨by have := HK1.out; omega⟩, ⟨KR HO_5⟩, ⟨BKZ⟩, ⟨BZ⟩⟩
   ·rw [if_neg c6] at H
    have c6b0 := decide_eq_false c6
    clear c6
    obtain rfl := Option.some.inj H
    go_wp2
    go_ret
    exact ⟨_, RZ, KR HO_5, BZ⟩

def spec_l33Walk.l0 : Nat → List Int → Int → Int → List Int → Int → Int → Int → Int → Int → Int → Int → Option (List Int × Int × Int)
 | 0, _, _, _, _, _, _, _, _, _, _, _ => none
 | k + 1, x7, x8, x9, x1000, x1001, x1002, x308000, x308001, x308002, x309000, x309001 => if x9 < x8 then ((spec_WaysFrom.f k x308000 x308001 x308002 x309000).bind fun t315 => (if (t315.length : Int) = 0 then (some (x7, x1001, x1002)) else ((spec_l01Below.f x1000 x1001 x1002 (t315.length : Int)).bind fun bt318 => (if 0 ≤ bt318.1 then (if bt318.1 < (t315.length : Int) then (if x7.length < 17592186044416 then ((spec_l33Turned.f k x308000 x308001 x308002 x309000 x309001 (Int.tmod (wrap64 ((wrap64 ((rd t315 bt318.1) - x309001)) + 4)) 4)).bind fun bt325 => (spec_l33Walk.l0 k (x7 ++ [Int.tmod (wrap64 ((wrap64 ((rd t315 bt318.1) - x309001)) + 4)) 4]) x8 (wrap64 (x9 + 1)) x1000 bt318.2.1 bt318.2.2 x308000 x308001 x308002 bt325.1 bt325.2.1)) else (none)) else (none)) else (none))))) else (some (x7, x1001, x1002))
def spec_l33Walk.f (k : Nat) (s0_0 : List Int) (s0_1 : Int) (s0_2 : Int) (a1_0 : Int) (a1_1 : Int) (a1_2 : Int) (a2_0 : Int) (a2_1 : Int) : Option (List Int × Int × Int) := (spec_l01Below.f s0_0 s0_1 s0_2 8).bind fun bt312 => (spec_l33Walk.l0 k (([] : List Int)) bt312.1 0 s0_0 bt312.2.1 bt312.2.2 a1_0 a1_1 a1_2 a2_0 a2_1)
theorem spec_l33Walk.mono_l : ∀ k, (∀ y0 y1 y2 y3 y4 y5 y6 y7 y8 y9 y10, LeO (spec_l33Walk.l0 k y0 y1 y2 y3 y4 y5 y6 y7 y8 y9 y10) (spec_l33Walk.l0 (k + 1) y0 y1 y2 y3 y4 y5 y6 y7 y8 y9 y10))
 | 0 => fun _ _ _ _ _ _ _ _ _ _ _ r h => by simp [spec_l33Walk.l0] at h
 | k + 1 => by
  have ih0 := spec_l33Walk.mono_l k
  ·intro y0 y1 y2 y3 y4 y5 y6 y7 y8 y9 y10
   unfold spec_l33Walk.l0
   repeat' first
   | (with_reducible exact ih0 _ _ _ _ _ _ _ _ _ _ _)
   | (with_reducible exact spec_WaysFrom.mono _ _ _ _ _)
   | (with_reducible exact spec_l33Turned.mono _ _ _ _ _ _ _)
   | (with_reducible exact LeO.refl _)
   | (with_reducible exact LeO.none _)
   | (with_reducible refine LeO.ite ?_ ?_)
   | (with_reducible refine LeO.bind ?_ (fun _ => ?_))
   | exact ih0 _ _ _ _ _ _ _ _ _ _ _
   | exact spec_WaysFrom.mono _ _ _ _ _
   | exact spec_l33Turned.mono _ _ _ _ _ _ _
   | exact LeO.none _
   | refine LeO.ite ?_ ?_
   | refine LeO.bind ?_ (fun _ => ?_)
theorem spec_l33Walk.mono : ∀ a0 a1 a2 a3 a4 a5 a6 a7 k, LeO (spec_l33Walk.f k a0 a1 a2 a3 a4 a5 a6 a7) (spec_l33Walk.f (k + 1) a0 a1 a2 a3 a4 a5 a6 a7) := by
 intro a0 a1 a2 a3 a4 a5 a6 a7 k
 have ih0 := spec_l33Walk.mono_l k
 unfold spec_l33Walk.f
 repeat' first
   | (with_reducible exact ih0 _ _ _ _ _ _ _ _ _ _ _)
   | (with_reducible exact spec_WaysFrom.mono _ _ _ _ _)
   | (with_reducible exact spec_l33Turned.mono _ _ _ _ _ _ _)
   | (with_reducible exact LeO.refl _)
   | (with_reducible exact LeO.none _)
   | (with_reducible refine LeO.ite ?_ ?_)
   | (with_reducible refine LeO.bind ?_ (fun _ => ?_))
   | exact ih0 _ _ _ _ _ _ _ _ _ _ _
   | exact spec_WaysFrom.mono _ _ _ _ _
   | exact spec_l33Turned.mono _ _ _ _ _ _ _
   | exact LeO.none _
   | refine LeO.ite ?_ ?_
   | refine LeO.bind ?_ (fun _ => ?_)
set_option maxHeartbeats 8000000 in
set_option maxRecDepth 100000 in
theorem spec_l33Walk.calls (k : Nat) (g : Nat) (s0_0 : List Int) (s0_1 : Int) (s0_2 : Int) (a1_0 : Int) (a1_1 : Int) (a1_2 : Int) (a2_0 : Int) (a2_1 : Int) (r1 : List Int) (r2 : Int) (r3 : Int) (w0 w : World) (hI : IsS94 w0 w g s0_0 s0_1 s0_2) (hB : Below w0.heap.size w0 w) (h : spec_l33Walk.f k s0_0 s0_1 s0_2 a1_0 a1_1 a1_2 a2_0 a2_1 = some (r1, r2, r3)) :
  Calls Try.prog 49 #[.pointer (some ⟨g, 0, none⟩), .agg #[.int .i64 a1_0, .int .i64 a1_1, .int .i64 a1_2], .agg #[.int .i64 a2_0, .int .i64 a2_1]] w fun e w' => ∃ v0_ : Value, e = .returned (v0_) ∧ Kd.R (Kd.int .i64) 3 w' w.heap.size (fun _ => True) v0_ r1 ∧ IsS94 w0 w' g s0_0 r2 r3 ∧ Below w0.heap.size w0 w' ∧ KeepBut w w' g none := by
 have hu30 := Try.underlying30
 have hu43 := Try.underlying43
 have HI0 := Aside0.mk hI
 have HK := Aside0.mk (KeepBut.refl w g none)
 have HL := Aside0.mk hB.size
 clear hI
 have HW0 := Aside0.mk hB.size
 have HB := Aside0.mk hB
 clear hB
 have H := h
 unfold spec_l33Walk.f at H
 clear h
 generalize hy309 : ((([] : List Int)) : List Int) = y309 at H
 have Ny309 := Aside0.mk hy309.symm
 clear hy309
 obtain ⟨⟨t312, t313, t314⟩, A4, H⟩ := BD H
 dsimp only at H
 have H' := Aside0.mk H
 clear H
 go_enter Try.func49, Try.ntmps49
 go_wp2_with (first | ((with_reducible refine gate_dst (N := 4) rfl ?_); refine BX 4 30 #[.int .i64 a1_0, .int .i64 a1_1, .int .i64 a1_2] ?_; intro gb307 hg w5 hbox hb; have n0_ := Aside0.mk (IsS94.below (by repeat (first | (with_reducible first | exact HI0.out | apply IsS94.alloc | apply IsS94.drewN | apply IsS94.drew | apply IsS94.set_1 | apply IsS94.set_2) | exact HI0.out)) hb); have n1_ := Aside0.mk (KeepBut.trans (by repeat (first | (with_reducible first | exact HK.out | apply KeepBut.set_ | apply keep_drewN | apply keep_drew | apply keep_alloc) | exact HK.out)) (KeepBut.of_below hb g none) (.inl rfl)); have n2_ := Aside0.mk (below_step (by repeat (first | (with_reducible first | exact HB.out | apply below_alloc | apply pw_below_drewN | apply below_drew1 | refine below_set ?_ (IsS94.ge HI0.out)) | exact HB.out)) hb); have n3_ := Aside0.mk (hbox); have n4_ := Aside0.mk ((by rw [hg]; exact (keep_size (w := w) (g := g) (row := none) (by repeat (first | (with_reducible first | exact HK.out | apply KeepBut.set_ | apply keep_drewN | apply keep_drew | apply keep_alloc) | exact HK.out))) : w.heap.size ≤ gb307)); have n5_ := Aside0.mk ((Nat.le_trans HW0.out (by rw [hg]; exact (keep_size (w := w) (g := g) (row := none) (by repeat (first | (with_reducible first | exact HK.out | apply KeepBut.set_ | apply keep_drewN | apply keep_drew | apply keep_alloc) | exact HK.out))) : w.heap.size ≤ gb307) : w0.heap.size ≤ gb307)); have n6_ := Aside0.mk ((by rw [hg]; exact Nat.ne_of_lt (IsS94.lt (show IsS94 w0 _ g s0_0 s0_1 s0_2 from by repeat (first | (with_reducible first | exact HI0.out | apply IsS94.alloc | apply IsS94.drewN | apply IsS94.drew | apply IsS94.set_1 | apply IsS94.set_2) | exact HI0.out))) : g ≠ gb307)); have n7_ := Aside0.mk ((by rw [hg]; exact Nat.ne_of_gt (IsS94.lt (show IsS94 w0 _ g s0_0 s0_1 s0_2 from by repeat (first | (with_reducible first | exact HI0.out | apply IsS94.alloc | apply IsS94.drewN | apply IsS94.drew | apply IsS94.set_1 | apply IsS94.set_2) | exact HI0.out))) : gb307 ≠ g)); clear HI0; clear HK; clear HB; have HI0 := n0_; have HK := n1_; have HB := n2_; have BK307 := n3_; have GW307 := n4_; have GE307 := n5_; have NB0_307 := n6_; have NB307_0 := n7_; clear n0_ n1_ n2_ n3_ n4_ n5_ n6_ n7_; clear hb hbox hg) | ((with_reducible refine gate_dst (N := 5) rfl ?_); refine BX 5 43 #[.int .i64 a2_0, .int .i64 a2_1] ?_; intro gb308 hg w6 hbox hb; have n0_ := Aside0.mk (IsS94.below (by repeat (first | (with_reducible first | exact HI0.out | apply IsS94.alloc | apply IsS94.drewN | apply IsS94.drew | apply IsS94.set_1 | apply IsS94.set_2 | refine IsS94.far ?_ NB0_307.out _) | exact HI0.out)) hb); have n1_ := Aside0.mk (blk_below (g := gb307) (o := .cells #[.int .i64 a1_0, .int .i64 a1_1, .int .i64 a1_2] 30 (0, 0)) BKZ hb); have n2_ := Aside0.mk (KeepBut.trans (by repeat (first | (with_reducible first | exact HK.out | apply KeepBut.set_ | apply keep_drewN | apply keep_drew | apply keep_alloc | refine keep_far ?_ GW307.out _) | exact HK.out)) (KeepBut.of_below hb g none) (.inl rfl)); have n3_ := Aside0.mk (below_step (by repeat (first | (with_reducible first | exact HB.out | apply below_alloc | apply pw_below_drewN | apply below_drew1 | refine below_set ?_ (IsS94.ge HI0.out) | refine below_set ?_ GE307.out) | exact HB.out)) hb); have n4_ := Aside0.mk (hbox); have n5_ := Aside0.mk ((by rw [hg]; exact (keep_size (w := w) (g := g) (row := none) (by repeat (first | (with_reducible first | exact HK.out | apply KeepBut.set_ | apply keep_drewN | apply keep_drew | apply keep_alloc | refine keep_far ?_ GW307.out _) | exact HK.out))) : w.heap.size ≤ gb308)); have n6_ := Aside0.mk ((Nat.le_trans HW0.out (by rw [hg]; exact (keep_size (w := w) (g := g) (row := none) (by repeat (first | (with_reducible first | exact HK.out | apply KeepBut.set_ | apply keep_drewN | apply keep_drew | apply keep_alloc | refine keep_far ?_ GW307.out _) | exact HK.out))) : w.heap.size ≤ gb308) : w0.heap.size ≤ gb308)); have n7_ := Aside0.mk ((by rw [hg]; exact Nat.ne_of_lt (blk_lt (g := gb307) (o := .cells #[.int .i64 a1_0, .int .i64 a1_1, .int .i64 a1_2] 30 (0, 0)) BKZ) : gb307 ≠ gb308)); have n8_ := Aside0.mk ((by rw [hg]; exact Nat.ne_of_gt (blk_lt (g := gb307) (o := .cells #[.int .i64 a1_0, .int .i64 a1_1, .int .i64 a1_2] 30 (0, 0)) BKZ) : gb308 ≠ gb307)); have n9_ := Aside0.mk ((by rw [hg]; exact Nat.ne_of_lt (IsS94.lt (show IsS94 w0 _ g s0_0 s0_1 s0_2 from by repeat (first | (with_reducible first | exact HI0.out | apply IsS94.alloc | apply IsS94.drewN | apply IsS94.drew | apply IsS94.set_1 | apply IsS94.set_2 | refine IsS94.far ?_ NB0_307.out _) | exact HI0.out))) : g ≠ gb308)); have n10_ := Aside0.mk ((by rw [hg]; exact Nat.ne_of_gt (IsS94.lt (show IsS94 w0 _ g s0_0 s0_1 s0_2 from by repeat (first | (with_reducible first | exact HI0.out | apply IsS94.alloc | apply IsS94.drewN | apply IsS94.drew | apply IsS94.set_1 | apply IsS94.set_2 | refine IsS94.far ?_ NB0_307.out _) | exact HI0.out))) : gb308 ≠ g)); clear HI0; clear BK307; clear HK; clear HB; have HI0 := n0_; have BK307 := n1_; have HK := n2_; have HB := n3_; have BK308 := n4_; have GW308 := n5_; have GE308 := n6_; have NB307_308 := n7_; have NB308_307 := n8_; have NB0_308 := n9_; have NB308_0 := n10_; clear n0_ n1_ n2_ n3_ n4_ n5_ n6_ n7_ n8_ n9_ n10_; clear hb hbox hg) | ((with_reducible refine gate_dst (N := 13) rfl ?_); refine Kd.R_lit (Kd.int .i64) _ 3 ?hg (N := 13) ?hd (xs := ([] : List Int)) (inner := []) (ok := fun _ => True) (okp := fun _ => True) ?hr ?hp (fun _ hk => hk) trivial (Below.refl _ _) (Nat.le_refl _) (by simp) ?_; (case hd => rfl); (case hg => rfl); (case hr => first | (go_simp; done) | (go_simp; rfl)); (case hp => exact (Reps.none _ _)); intro v310 w7 ho8 hb hg_ hnew_; clear hg_ hnew_; (first | rw [← Ny309.out] at ho8 | (simp only [Int.reduceToNat] at ho8; rw [← Ny309.out] at ho8)); have n0_ := Aside0.mk (Kd.R_lower ho8 (keep_size (w := w) (g := g) (row := none) (by repeat (first | (with_reducible first | exact HK.out | apply KeepBut.set_ | apply keep_drewN | apply keep_drew | apply keep_alloc | refine keep_far ?_ GW307.out _ | refine keep_far ?_ GW308.out _) | exact HK.out)))); have n1_ := Aside0.mk (IsS94.below (by repeat (first | (with_reducible first | exact HI0.out | apply IsS94.alloc | apply IsS94.drewN | apply IsS94.drew | apply IsS94.set_1 | apply IsS94.set_2 | refine IsS94.far ?_ NB0_307.out _ | refine IsS94.far ?_ NB0_308.out _) | exact HI0.out)) hb); have n2_ := Aside0.mk (blk_below (g := gb307) (o := .cells #[.int .i64 a1_0, .int .i64 a1_1, .int .i64 a1_2] 30 (0, 0)) BKZ hb); have n3_ := Aside0.mk (blk_below (g := gb308) (o := .cells #[.int .i64 a2_0, .int .i64 a2_1] 43 (0, 0)) BKZ hb); have n4_ := Aside0.mk (KeepBut.trans (by repeat (first | (with_reducible first | exact HK.out | apply KeepBut.set_ | apply keep_drewN | apply keep_drew | apply keep_alloc | refine keep_far ?_ GW307.out _ | refine keep_far ?_ GW308.out _) | exact HK.out)) (KeepBut.of_below hb g none) (.inl rfl)); have n5_ := Aside0.mk (below_step (by repeat (first | (with_reducible first | exact HB.out | apply below_alloc | apply pw_below_drewN | apply below_drew1 | refine below_set ?_ (IsS94.ge HI0.out) | refine below_set ?_ GE307.out | refine below_set ?_ GE308.out) | exact HB.out)) hb); clear HI0; clear BK307; clear BK308; clear HK; clear HB; have HO311 := n0_; have HI0 := n1_; have BK307 := n2_; have BK308 := n3_; have HK := n4_; have HB := n5_; clear n0_ n1_ n2_ n3_ n4_ n5_; clear hb ho8) | ((with_reducible refine GC 58 rfl ?_); refine GL 15 Try.func58 (spec_l01Below.calls g s0_0 s0_1 s0_2 8 t312 t313 t314 w0 _ ?side1 ?side2 A4.out) ?_; (case side1 => repeat (first | (with_reducible first | exact HI0.out | apply IsS94.alloc | apply IsS94.drewN | apply IsS94.drew | apply IsS94.set_1 | apply IsS94.set_2 | refine IsS94.far ?_ NB0_307.out _ | refine IsS94.far ?_ NB0_308.out _) | exact HI0.out)); (case side2 => repeat (first | (with_reducible first | exact HB.out | apply below_alloc | apply pw_below_drewN | apply below_drew1 | refine below_set ?_ (IsS94.ge HI0.out) | refine below_set ?_ GE307.out | refine below_set ?_ GE308.out) | exact HB.out)); rintro e w9 ⟨rfl, hi, hb, hk⟩; refine ⟨_, rfl, ?_⟩; replace BK307 := Aside0.mk (KeepBut.blk hk (g' := gb307) (o := .cells #[.int .i64 a1_0, .int .i64 a1_1, .int .i64 a1_2] 30 (0, 0)) BKZ NB307_0.out (by simp)); replace BK308 := Aside0.mk (KeepBut.blk hk (g' := gb308) (o := .cells #[.int .i64 a2_0, .int .i64 a2_1] 43 (0, 0)) BKZ NB308_0.out (by simp)); replace HO311 := Aside0.mk (Kd.R_mono (Kd.R_keep (IsS94.apart (show IsS94 w0 _ g s0_0 s0_1 s0_2 from by repeat (first | (with_reducible first | exact HI0.out | apply IsS94.alloc | apply IsS94.drewN | apply IsS94.drew | apply IsS94.set_1 | apply IsS94.set_2 | refine IsS94.far ?_ NB0_307.out _ | refine IsS94.far ?_ NB0_308.out _) | exact HI0.out)) (KR HO311) (by decide)) hk (fun _ h => h.2)) (fun _ h => h.1)); replace HK := Aside0.mk (KeepBut.trans (by repeat (first | (with_reducible first | exact HK.out | apply KeepBut.set_ | apply keep_drewN | apply keep_drew | apply keep_alloc | refine keep_far ?_ GW307.out _ | refine keep_far ?_ GW308.out _) | exact HK.out)) hk (.inl rfl)); replace HI0 := Aside0.mk (hi); replace HB := Aside0.mk (hb); clear hb hk hi))
 go_loopg [7, 9] k (fun kq v7 v9 w' => ∃ (x7_1 : List Int) (x9_1 : Int) (x1001_1 : Int) (x1002_1 : Int) (x309000_1 : Int) (x309001_1 : Int), v9 = .int .i64 x9_1 ∧ Aside0 (spec_l33Walk.l0 kq x7_1 t312 x9_1 s0_0 x1001_1 x1002_1 a1_0 a1_1 a1_2 x309000_1 x309001_1 = some (r1, r2, r3)) ∧ Aside0 (kq ≤ k) ∧ Aside0 (Kd.R (Kd.int .i64) 3 w' w.heap.size (fun _ => True) v7 x7_1) ∧ Aside0 (w'.heap[gb307]? = some (.cells #[.int .i64 a1_0, .int .i64 a1_1, .int .i64 a1_2] 30 (0, 0))) ∧ Aside0 (w'.heap[gb308]? = some (.cells #[.int .i64 x309000_1, .int .i64 x309001_1] 43 (0, 0))) ∧ Aside0 (IsS94 w0 w' g s0_0 x1001_1 x1002_1) ∧ Aside0 (KeepBut w w' g none) ∧ Aside0 (Below w0.heap.size w0 w'))
 case atStart => exact ⟨(y309), (0), (t313), (t314), (a2_0), (a2_1), VZ, H', ⟨Nat.le_refl _⟩, ⟨KR HO311⟩, ⟨BKZ⟩, ⟨BKZ⟩, ⟨by repeat (first | (with_reducible first | exact HI0.out | apply IsS94.alloc | apply IsS94.drewN | apply IsS94.drew | apply IsS94.set_1 | apply IsS94.set_2 | refine IsS94.far ?_ NB0_307.out _ | refine IsS94.far ?_ NB0_308.out _) | exact HI0.out)⟩, ⟨by repeat (first | (with_reducible first | exact HK.out | apply KeepBut.set_ | apply keep_drewN | apply keep_drew | apply keep_alloc | refine keep_far ?_ GW307.out _ | refine keep_far ?_ GW308.out _) | exact HK.out)⟩, ⟨by repeat (first | (with_reducible first | exact HB.out | apply below_alloc | apply pw_below_drewN | apply below_drew1 | refine below_set ?_ (IsS94.ge HI0.out) | refine below_set ?_ GE307.out | refine below_set ?_ GE308.out) | exact HB.out)⟩⟩
 case round =>
  clear H'
  obtain ⟨x7_1, x9_1, x1001_1, x1002_1, x309000_1, x309001_1, rfl, HA, HK1, HO_7, BK307, BK308, HI0, HK, HB⟩ := hrel
  cases gk with
  | zero => exact absurd HA.out (by simp [spec_l33Walk.l0])
  | succ k1 =>
   have H := HA.out
   clear HA
   simp only [spec_l33Walk.l0] at H
   by_cases c10 : x9_1 < t312
   ·rw [if_pos c10] at H
    have c10b0 := decide_eq_true c10
    clear c10
    obtain ⟨t315, A11, H⟩ := BD H
    by_cases c12 : (t315.length : Int) = 0
    ·rw [if_pos c12] at H
     obtain ⟨c12b0, c12b1⟩ := QT c12
     clear c12
     simp only [Option.some.injEq, Prod.mk.injEq] at H
     obtain ⟨rfl, rfl, rfl⟩ := H
     have hnb13 := NB307_308.out
     have hnc13 := NB308_307.out
     have hnb14 := NB307_0.out
     have hnc14 := NB0_307.out
     obtain ⟨hcz15_0, hcz15_1, hcz15_2, hfz15_0, hfz15_1, hfz15_2⟩ := CZ3 BK307
     have hnb16 := NB308_0.out
     have hnc16 := NB0_308.out
     obtain ⟨hcz17_0, hcz17_1, hfz17_0, hfz17_1⟩ := CZ2 BK308
     go_wp2_with (first | ((with_reducible refine GC 82 rfl ?_); refine GL 24 Try.func82 (spec_WaysFrom.calls k1 a1_0 a1_1 a1_2 x309000_1 t315 _ A11.out) ?_; rintro e w18 ⟨v316, rfl, ho0, hb⟩; refine ⟨_, rfl, ?_⟩; have n0_ := Aside0.mk (Kd.R_elder' (KR HO_7) (Kd.R_base ho0) hb); have n1_ := Aside0.mk (Kd.R_lower (Kd.R_new' ho0 (Kd.R_lt (KR HO_7))) (keep_size (w := w) (g := g) (row := none) (by repeat (first | (with_reducible first | exact HK.out | apply KeepBut.set_ | apply keep_drewN | apply keep_drew | apply keep_alloc | refine keep_far ?_ GW307.out _ | refine keep_far ?_ GW308.out _) | exact HK.out)))); have n2_ := Aside0.mk (blk_below (g := gb307) (o := .cells #[.int .i64 a1_0, .int .i64 a1_1, .int .i64 a1_2] 30 (0, 0)) BKZ hb); have n3_ := Aside0.mk (blk_below (g := gb308) (o := .cells #[.int .i64 x309000_1, .int .i64 x309001_1] 43 (0, 0)) BKZ hb); have n4_ := Aside0.mk (IsS94.below (by repeat (first | (with_reducible first | exact HI0.out | apply IsS94.alloc | apply IsS94.drewN | apply IsS94.drew | apply IsS94.set_1 | apply IsS94.set_2 | refine IsS94.far ?_ NB0_307.out _ | refine IsS94.far ?_ NB0_308.out _) | exact HI0.out)) hb); have n5_ := Aside0.mk (KeepBut.trans (by repeat (first | (with_reducible first | exact HK.out | apply KeepBut.set_ | apply keep_drewN | apply keep_drew | apply keep_alloc | refine keep_far ?_ GW307.out _ | refine keep_far ?_ GW308.out _) | exact HK.out)) (KeepBut.of_below hb g none) (.inl rfl)); have n6_ := Aside0.mk (below_step (by repeat (first | (with_reducible first | exact HB.out | apply below_alloc | apply pw_below_drewN | apply below_drew1 | refine below_set ?_ (IsS94.ge HI0.out) | refine below_set ?_ GE307.out | refine below_set ?_ GE308.out) | exact HB.out)) hb); clear HO_7; clear BK307; clear BK308; clear HI0; clear HK; clear HB; have HO_7 := n0_; have HO317 := n1_; have BK307 := n2_; have BK308 := n3_; have HI0 := n4_; have HK := n5_; have HB := n6_; clear n0_ n1_ n2_ n3_ n4_ n5_ n6_; clear hb; (try clear ho0); obtain ⟨Ao19, co19, eo19⟩ := Kd.R_slice HO317.out; subst eo19))
     go_ret
     exact ⟨_, RZ, RT (Kd.R_mono HO_7.out (fun _ hk => trivial)), by repeat (first | (with_reducible first | exact HI0.out | apply IsS94.alloc | apply IsS94.drewN | apply IsS94.drew | apply IsS94.set_1 | apply IsS94.set_2 | refine IsS94.far ?_ NB0_307.out _ | refine IsS94.far ?_ NB0_308.out _) | exact HI0.out), by repeat (first | (with_reducible first | exact HB.out | apply below_alloc | apply pw_below_drewN | apply below_drew1 | refine below_set ?_ (IsS94.ge HI0.out) | refine below_set ?_ GE307.out | refine below_set ?_ GE308.out) | exact HB.out), by repeat (first | (with_reducible first | exact HK.out | apply KeepBut.set_ | apply keep_drewN | apply keep_drew | apply keep_alloc | refine keep_far ?_ GW307.out _ | refine keep_far ?_ GW308.out _) | exact HK.out)⟩
    ·rw [if_neg c12] at H
     obtain ⟨c12b0, c12b1⟩ := QF c12
     have c12b2 : ¬ (t315 = []) := fun h_ => c12 (by rw [h_]; rfl)
     obtain ⟨⟨t318, t319, t320⟩, A20, H⟩ := BD H
     dsimp only at H
     by_cases c21 : 0 ≤ t318
     ·rw [if_pos c21] at H
      have c21b0 := decide_eq_true c21
      clear c21
      by_cases c22 : t318 < (t315.length : Int)
      ·rw [if_pos c22] at H
       have c22b0 := decide_eq_true c22
       clear c22
       by_cases c23 : x7_1.length < 17592186044416
       ·rw [if_pos c23] at H
        have LMc23 := Aside0.mk c23
        clear c23
        generalize hy322 : ((x7_1 ++ [Int.tmod (wrap64 ((wrap64 ((rd t315 t318) - x309001_1)) + 4)) 4]) : List Int) = y322 at H
        have Ny322 := Aside0.mk hy322.symm
        clear hy322
        obtain ⟨⟨t325, t326, t327⟩, A24, H⟩ := BD H
        dsimp only at H
        have H' := Aside0.mk H
        clear H
        have hnb25 := NB307_308.out
        have hnc25 := NB308_307.out
        have hnb26 := NB307_0.out
        have hnc26 := NB0_307.out
        obtain ⟨hcz27_0, hcz27_1, hcz27_2, hfz27_0, hfz27_1, hfz27_2⟩ := CZ3 BK307
        have hnb28 := NB308_0.out
        have hnc28 := NB0_308.out
        obtain ⟨hcz29_0, hcz29_1, hfz29_0, hfz29_1⟩ := CZ2 BK308
        go_wp2_with (first | ((with_reducible refine GC 82 rfl ?_); refine GL 24 Try.func82 (spec_WaysFrom.calls k1 a1_0 a1_1 a1_2 x309000_1 t315 _ A11.out) ?_; rintro e w30 ⟨v316, rfl, ho0, hb⟩; refine ⟨_, rfl, ?_⟩; have n0_ := Aside0.mk (Kd.R_elder' (KR HO_7) (Kd.R_base ho0) hb); have n1_ := Aside0.mk (Kd.R_lower (Kd.R_new' ho0 (Kd.R_lt (KR HO_7))) (keep_size (w := w) (g := g) (row := none) (by repeat (first | (with_reducible first | exact HK.out | apply KeepBut.set_ | apply keep_drewN | apply keep_drew | apply keep_alloc | refine keep_far ?_ GW307.out _ | refine keep_far ?_ GW308.out _) | exact HK.out)))); have n2_ := Aside0.mk (blk_below (g := gb307) (o := .cells #[.int .i64 a1_0, .int .i64 a1_1, .int .i64 a1_2] 30 (0, 0)) BKZ hb); have n3_ := Aside0.mk (blk_below (g := gb308) (o := .cells #[.int .i64 x309000_1, .int .i64 x309001_1] 43 (0, 0)) BKZ hb); have n4_ := Aside0.mk (IsS94.below (by repeat (first | (with_reducible first | exact HI0.out | apply IsS94.alloc | apply IsS94.drewN | apply IsS94.drew | apply IsS94.set_1 | apply IsS94.set_2 | refine IsS94.far ?_ NB0_307.out _ | refine IsS94.far ?_ NB0_308.out _) | exact HI0.out)) hb); have n5_ := Aside0.mk (KeepBut.trans (by repeat (first | (with_reducible first | exact HK.out | apply KeepBut.set_ | apply keep_drewN | apply keep_drew | apply keep_alloc | refine keep_far ?_ GW307.out _ | refine keep_far ?_ GW308.out _) | exact HK.out)) (KeepBut.of_below hb g none) (.inl rfl)); have n6_ := Aside0.mk (below_step (by repeat (first | (with_reducible first | exact HB.out | apply below_alloc | apply pw_below_drewN | apply below_drew1 | refine below_set ?_ (IsS94.ge HI0.out) | refine below_set ?_ GE307.out | refine below_set ?_ GE308.out) | exact HB.out)) hb); clear HO_7; clear BK307; clear BK308; clear HI0; clear HK; clear HB; have HO_7 := n0_; have HO317 := n1_; have BK307 := n2_; have BK308 := n3_; have HI0 := n4_; have HK := n5_; have HB := n6_; clear n0_ n1_ n2_ n3_ n4_ n5_ n6_; clear hb; (try clear ho0); obtain ⟨Ao31, co31, eo31⟩ := Kd.R_slice HO317.out; subst eo31) | ((with_reducible refine GC 58 rfl ?_); refine GL 32 Try.func58 (spec_l01Below.calls g s0_0 x1001_1 x1002_1 (t315.length : Int) t318 t319 t320 w0 _ ?side1 ?side2 A20.out) ?_; (case side1 => repeat (first | (with_reducible first | exact HI0.out | apply IsS94.alloc | apply IsS94.drewN | apply IsS94.drew | apply IsS94.set_1 | apply IsS94.set_2 | refine IsS94.far ?_ NB0_307.out _ | refine IsS94.far ?_ NB0_308.out _) | exact HI0.out)); (case side2 => repeat (first | (with_reducible first | exact HB.out | apply below_alloc | apply pw_below_drewN | apply below_drew1 | refine below_set ?_ (IsS94.ge HI0.out) | refine below_set ?_ GE307.out | refine below_set ?_ GE308.out) | exact HB.out)); rintro e w32 ⟨rfl, hi, hb, hk⟩; refine ⟨_, rfl, ?_⟩; replace HO_7 := Aside0.mk (Kd.R_mono (Kd.R_keep (IsS94.apart (show IsS94 w0 _ g s0_0 x1001_1 x1002_1 from by repeat (first | (with_reducible first | exact HI0.out | apply IsS94.alloc | apply IsS94.drewN | apply IsS94.drew | apply IsS94.set_1 | apply IsS94.set_2 | refine IsS94.far ?_ NB0_307.out _ | refine IsS94.far ?_ NB0_308.out _) | exact HI0.out)) (KR HO_7) (by decide)) hk (fun _ h => h.2)) (fun _ h => h.1)); replace BK307 := Aside0.mk (KeepBut.blk hk (g' := gb307) (o := .cells #[.int .i64 a1_0, .int .i64 a1_1, .int .i64 a1_2] 30 (0, 0)) BKZ NB307_0.out (by simp)); replace BK308 := Aside0.mk (KeepBut.blk hk (g' := gb308) (o := .cells #[.int .i64 x309000_1, .int .i64 x309001_1] 43 (0, 0)) BKZ NB308_0.out (by simp)); replace HO317 := Aside0.mk (Kd.R_mono (Kd.R_keep (IsS94.apart (show IsS94 w0 _ g s0_0 x1001_1 x1002_1 from by repeat (first | (with_reducible first | exact HI0.out | apply IsS94.alloc | apply IsS94.drewN | apply IsS94.drew | apply IsS94.set_1 | apply IsS94.set_2 | refine IsS94.far ?_ NB0_307.out _ | refine IsS94.far ?_ NB0_308.out _) | exact HI0.out)) (KR HO317) (by decide)) hk (fun _ h => h.2)) (fun _ h => h.1)); replace HK := Aside0.mk (KeepBut.trans (by repeat (first | (with_reducible first | exact HK.out | apply KeepBut.set_ | apply keep_drewN | apply keep_drew | apply keep_alloc | refine keep_far ?_ GW307.out _ | refine keep_far ?_ GW308.out _) | exact HK.out)) hk (.inl rfl)); replace HI0 := Aside0.mk (hi); replace HB := Aside0.mk (hb); clear hb hk hi; have p321 : 0 ≤ (t318 : Int) := of_decide_eq_true PZ; have q321 : t318 < (t315.length : Int) := of_decide_eq_true PZ; obtain ⟨ad321, e321, hx321_0⟩ := Kd.at_int (Kd.R_reads' HO317.out).2.2 t318 p321 q321; cases e321; replace p321 := eq_true p321; replace q321 := eq_true q321; obtain ⟨hcz33_0, hcz33_1, hfz33_0, hfz33_1⟩ := CZ2 BK308) | ((with_reducible refine gate_builtin (b := .append) (xs := #[.tmp 41, .tmp 43]) rfl ?_); at_builtin; refine Kd.R_append (Kd.int .i64) w.heap.size rfl (.tmp 41) (.tmp 43) 26 3 (.int .i64 0) 8 rfl Try.underlying26 info3 rfl (by decide) (by omega) u7 x7_1 (Int.tmod (wrap64 ((wrap64 ((rd t315 t318) - x309001_1)) + 4)) 4) [.int .i64 (Int.tmod (wrap64 ((wrap64 ((rd t315 t318) - x309001_1)) + 4)) 4)] (fun k_ => some k_ ≠ (.slice (some ad321) t315.length co31 : Value).ownBlock) (fun _ => False) rfl rfl ?aP (fun _ hk => hk.elim) ?aF ?aO (Below.refl _ _) ?aS ?aL ?_; (case aP => exact rfl); (case aF => exact (fun k_ hk => Kd.fresh' (Kd.R_lt (KR HO317)) k_ hk)); (case aO => exact (RT (Kd.R_mono HO_7.out (fun _ hk => hk.2)))); (case aS => exact (keep_size (w := w) (g := g) (row := none) (by repeat (first | (with_reducible first | exact HK.out | apply KeepBut.set_ | apply keep_drewN | apply keep_drew | apply keep_alloc | refine keep_far ?_ GW307.out _ | refine keep_far ?_ GW308.out _) | exact HK.out)))); (case aL => have := LMc23.out; omega); intro v323 w34 ho hb hg hat; rw [← Ny322.out] at ho; have n0_ := Aside0.mk (blk_grown (g := gb307) (o := .cells #[.int .i64 a1_0, .int .i64 a1_1, .int .i64 a1_2] 30 (0, 0)) BKZ hg (Kd.R_ne HO_7.out BK307.out (by decide))); have n1_ := Aside0.mk (blk_grown (g := gb308) (o := .cells #[.int .i64 x309000_1, .int .i64 x309001_1] 43 (0, 0)) BKZ hg (Kd.R_ne HO_7.out BK308.out (by decide))); have n2_ := Aside0.mk (IsS94.grown (by repeat (first | (with_reducible first | exact HI0.out | apply IsS94.alloc | apply IsS94.drewN | apply IsS94.drew | apply IsS94.set_1 | apply IsS94.set_2 | refine IsS94.far ?_ NB0_307.out _ | refine IsS94.far ?_ NB0_308.out _) | exact HI0.out)) hg (IsS94.own_ne HI0.out HO_7.out (by decide))); have n3_ := Aside0.mk (Kd.R_after (ok := (fun _ => True)) (KR HO317) hg hat); have n4_ := Aside0.mk (below_weaken (by repeat (first | (with_reducible first | exact HB.out | apply below_alloc | apply pw_below_drewN | apply below_drew1 | refine below_set ?_ (IsS94.ge HI0.out) | refine below_set ?_ GE307.out | refine below_set ?_ GE308.out) | exact HB.out)) HL.out hb); have n5_ := Aside0.mk (KeepBut.trans (by repeat (first | (with_reducible first | exact HK.out | apply KeepBut.set_ | apply keep_drewN | apply keep_drew | apply keep_alloc | refine keep_far ?_ GW307.out _ | refine keep_far ?_ GW308.out _) | exact HK.out)) (KeepBut.of_grown hg g) (Kd.R_base2 HO_7.out)); have n6_ := Aside0.mk (ho); clear BK307; clear BK308; clear HI0; clear HO317; clear HB; clear HK; clear HO_7; have BK307 := n0_; have BK308 := n1_; have HI0 := n2_; have HO317 := n3_; have HB := n4_; have HK := n5_; have HO324 := n6_; clear n0_ n1_ n2_ n3_ n4_ n5_ n6_; clear ho hb hg hat; obtain ⟨hcz35_0, hcz35_1, hcz35_2, hfz35_0, hfz35_1, hfz35_2⟩ := CZ3 BK307; obtain ⟨hcz36_0, hcz36_1, hfz36_0, hfz36_1⟩ := CZ2 BK308) | ((with_reducible refine GC 37 rfl ?_); refine GL 49 Try.func37 (spec_l33Turned.calls k1 a1_0 a1_1 a1_2 x309000_1 x309001_1 (Int.tmod (wrap64 ((wrap64 ((rd t315 t318) - x309001_1)) + 4)) 4) t325 t326 t327 _ A24.out) ?_; rintro e w37 ⟨rfl, hb⟩; refine ⟨_, rfl, ?_⟩; have n0_ := Aside0.mk (Kd.R_below (KR HO317) hb); have n1_ := Aside0.mk (Kd.R_below (KR HO324) hb); have n2_ := Aside0.mk (blk_below (g := gb307) (o := .cells #[.int .i64 a1_0, .int .i64 a1_1, .int .i64 a1_2] 30 (0, 0)) BKZ hb); have n3_ := Aside0.mk (blk_below (g := gb308) (o := .cells #[.int .i64 x309000_1, .int .i64 x309001_1] 43 (0, 0)) BKZ hb); have n4_ := Aside0.mk (IsS94.below (by repeat (first | (with_reducible first | exact HI0.out | apply IsS94.alloc | apply IsS94.drewN | apply IsS94.drew | apply IsS94.set_1 | apply IsS94.set_2 | refine IsS94.far ?_ NB0_307.out _ | refine IsS94.far ?_ NB0_308.out _) | exact HI0.out)) hb); have n5_ := Aside0.mk (KeepBut.trans (by repeat (first | (with_reducible first | exact HK.out | apply KeepBut.set_ | apply keep_drewN | apply keep_drew | apply keep_alloc | refine keep_far ?_ GW307.out _ | refine keep_far ?_ GW308.out _) | exact HK.out)) (KeepBut.of_below hb g none) (.inl rfl)); have n6_ := Aside0.mk (below_step (by repeat (first | (with_reducible first | exact HB.out | apply below_alloc | apply pw_below_drewN | apply below_drew1 | refine below_set ?_ (IsS94.ge HI0.out) | refine below_set ?_ GE307.out | refine below_set ?_ GE308.out) | exact HB.out)) hb); clear HO317; clear HO324; clear BK307; clear BK308; clear HI0; clear HK; clear HB; have HO317 := n0_; have HO324 := n1_; have BK307 := n2_; have BK308 := n3_; have HI0 := n4_; have HK := n5_; have HB := n6_; clear n0_ n1_ n2_ n3_ n4_ n5_ n6_; clear hb; obtain ⟨hcz38_0, hcz38_1, hfz38_0, hfz38_1⟩ := CZ2 BK308))
        go_roundg k1
        case measure => have := HK1.out; omega
        case rel => exact ⟨(y322), (wrap64 (x9_1 + 1)), (t319), (t320), (t325), (t326), VZ, H', ⟨by have := HK1.out; omega⟩, ⟨RT (Kd.R_mono (Kd.R_far (p := ⟨gb308, 1, none⟩) (Kd.R_far (p := ⟨gb308, 0, none⟩) (Kd.R_types HO324.out BK308.out (by decide)) (fun _ hk => hk.2) (.int .i64 t325)) (fun _ hk => hk.2) (.int .i64 t326)) (fun _ hk => trivial))⟩, ⟨BF2 NB307_308 BK307⟩, ⟨PQ2 BK308⟩, ⟨by repeat (first | (with_reducible first | exact HI0.out | apply IsS94.alloc | apply IsS94.drewN | apply IsS94.drew | apply IsS94.set_1 | apply IsS94.set_2 | refine IsS94.far ?_ NB0_307.out _ | refine IsS94.far ?_ NB0_308.out _) | exact HI0.out)⟩, ⟨by repeat (first | (with_reducible first | exact HK.out | apply KeepBut.set_ | apply keep_drewN | apply keep_drew | apply keep_alloc | refine keep_far ?_ GW307.out _ | refine keep_far ?_ GW308.out _) | exact HK.out)⟩, ⟨by repeat (first | (with_reducible first | exact HB.out | apply below_alloc | apply pw_below_drewN | apply below_drew1 | refine below_set ?_ (IsS94.ge HI0.out) | refine below_set ?_ GE307.out | refine below_set ?_ GE308.out) | exact HB.out)⟩⟩
       ·rw [if_neg c23] at H
        exact absurd H (by simp)
      ·rw [if_neg c22] at H
       exact absurd H (by simp)
     ·rw [if_neg c21] at H
      exact absurd H (by simp)
   ·rw [if_neg c10] at H
    have c10b0 := decide_eq_false c10
    clear c10
    simp only [Option.some.injEq, Prod.mk.injEq] at H
    obtain ⟨rfl, rfl, rfl⟩ := H
    go_wp2
    go_ret
    exact ⟨_, RZ, KR HO_7, by repeat (first | (with_reducible first | exact HI0.out | apply IsS94.alloc | apply IsS94.drewN | apply IsS94.drew | apply IsS94.set_1 | apply IsS94.set_2 | refine IsS94.far ?_ NB0_307.out _ | refine IsS94.far ?_ NB0_308.out _) | exact HI0.out), by repeat (first | (with_reducible first | exact HB.out | apply below_alloc | apply pw_below_drewN | apply below_drew1 | refine below_set ?_ (IsS94.ge HI0.out) | refine below_set ?_ GE307.out | refine below_set ?_ GE308.out) | exact HB.out), by repeat (first | (with_reducible first | exact HK.out | apply KeepBut.set_ | apply keep_drewN | apply keep_drew | apply keep_alloc | refine keep_far ?_ GW307.out _ | refine keep_far ?_ GW308.out _) | exact HK.out)⟩

def spec_DrawReport.f (k : Nat) (l0 : List Int) : Option (Int × Int × Int × Int × Int × List Int) := (spec_l01New.f k l0).bind fun bt330 => ((spec_l03Maze.f k bt330.1 bt330.2.1 bt330.2.2).bind fun bt334 => ((spec_l10Walker.f bt330.1 bt334.2.2.2.1 bt334.2.2.2.2 bt334.1 bt334.2.1 bt334.2.2.1).bind fun bt340 => ((spec_l33Walk.f k bt330.1 bt340.2.2.1 bt340.2.2.2 bt334.1 bt334.2.1 bt334.2.2.1 bt340.1 bt340.2.1).bind fun bt345 => (some (bt334.1, bt334.2.1, bt334.2.2.1, bt340.1, bt340.2.1, bt345.1)))))
theorem spec_DrawReport.mono : ∀ a0 k, LeO (spec_DrawReport.f k a0) (spec_DrawReport.f (k + 1) a0) := by
 intro a0 k
 unfold spec_DrawReport.f
 repeat' first
   | (with_reducible exact spec_l01New.mono _ _)
   | (with_reducible exact spec_l03Maze.mono _ _ _ _)
   | (with_reducible exact spec_l33Walk.mono _ _ _ _ _ _ _ _ _)
   | (with_reducible exact LeO.refl _)
   | (with_reducible exact LeO.none _)
   | (with_reducible refine LeO.ite ?_ ?_)
   | (with_reducible refine LeO.bind ?_ (fun _ => ?_))
   | exact spec_l01New.mono _ _
   | exact spec_l03Maze.mono _ _ _ _
   | exact spec_l33Walk.mono _ _ _ _ _ _ _ _ _
   | exact LeO.none _
   | refine LeO.ite ?_ ?_
   | refine LeO.bind ?_ (fun _ => ?_)
def spec_DrawReport.T4 : Bool × List (List Nat × List Nat) := (true, [([], []), ([], []), ([], []), ([], []), ([], []), ([2, 3, 4], [2, 3, 4]), ([0, 5, 0], [0]), ([1, 6, 0, 1, 6], [1]), ([5, 7, 0, 1, 2, 3, 4, 5, 6, 7], [5])])
def spec_DrawReport.B4 : List Nat := [0, 0, 0, 0, 0, 28, 61, 127, 255]
theorem spec_DrawReport.tab4 : rtab .any (opsOf Try.f19 4) = spec_DrawReport.T4 := by kernel_rfl
theorem spec_DrawReport.bits4 : waitsOk spec_DrawReport.T4.2 spec_DrawReport.B4 = true := by kernel_rfl
set_option maxHeartbeats 8000000 in
set_option maxRecDepth 100000 in
theorem spec_DrawReport.calls (k : Nat) (A0 : Option Addr) (c0 : Nat) (l0 : List Int) (r1 : Int) (r2 : Int) (r3 : Int) (r4 : Int) (r5 : Int) (r6 : List Int) (w : World) (hr0 : Kd.C (Kd.int .u8) w A0 l0.length l0) (hc0 : l0.length ≤ c0) (h : spec_DrawReport.f k l0 = some (r1, r2, r3, r4, r5, r6)) :
  Calls Try.prog 19 #[.slice A0 l0.length c0] w fun e w' => ∃ v5_ : Value, e = .returned (.tuple #[.agg #[.int .i64 r1, .int .i64 r2, .int .i64 r3], .agg #[.int .i64 r4, .int .i64 r5], v5_]) ∧ Kd.R (Kd.int .i64) 3 w' w.heap.size (fun _ => True) v5_ r6 ∧ Below w.heap.size w w' := by
 have hu30 := Try.underlying30
 have hu43 := Try.underlying43
 have HR0 := Aside0.mk hr0
 have HC0 := Aside0.mk hc0
 clear hr0 hc0
 have HB := Aside0.mk (Below.refl w.heap.size w)
 have H := h
 unfold spec_DrawReport.f at H
 clear h
 obtain ⟨⟨t330, t331, t332⟩, A2, H⟩ := BD H
 dsimp only at H
 obtain ⟨⟨t334, t335, t336, t337, t338⟩, A3, H⟩ := BD H
 dsimp only at H
 obtain ⟨⟨t340, t341, t342, t343⟩, A4, H⟩ := BD H
 dsimp only at H
 obtain ⟨⟨t345, t348, t349⟩, A5, H⟩ := BD H
 dsimp only at H
 simp only [Option.some.injEq, Prod.mk.injEq] at H
 obtain ⟨rfl, rfl, rfl, rfl, rfl, rfl⟩ := H
 go_enter Try.func19, Try.ntmps19
 try go_wp2_with (first | ((with_reducible refine gate_dst (N := 2) rfl ?_); refine BX 2 30 #[.int .i64 0, .int .i64 0, .int .i64 0] ?_; intro gb328 hg w6 hbox hb; have BK328 := Aside0.mk (hbox); have GW328 := (GS hg : Aside0 (w.heap.size ≤ gb328)); have GE328 := GW328; replace HB := BS HB hb; clear hb hbox hg) | ((with_reducible refine gate_dst (N := 3) rfl ?_); refine BX 3 43 #[.int .i64 0, .int .i64 0] ?_; intro gb329 hg w7 hbox hb; have BK329 := Aside0.mk (hbox); have GW329 := (GS hg : Aside0 (w.heap.size ≤ gb329)); have GE329 := GW329; have NB328_329 := NL BK328 hg; have NB329_328 := NG BK328 hg; replace BK328 := BB BK328 hb; replace HB := BS HB hb; clear hb hbox hg) | ((with_reducible refine GC 46 rfl ?_); refine GL 9 Try.func46 (spec_l01New.calls k _ _ l0 t330 t331 t332 w _ ?side1 HR0.out HC0.out A2.out) ?_; (case side1 => repeat (first | (with_reducible first | exact HB.out | apply below_alloc | apply pw_below_drewN | apply below_drew1 | refine below_set ?_ GE328.out | refine below_set ?_ GE329.out) | exact HB.out)); rintro e w8 ⟨g333, rfl, hi, hb, hb2⟩; refine ⟨_, rfl, ?_⟩; have HI333 := Aside0.mk (hi); have NB333_328 := Aside0.mk (IsS94.ne_blk hi (blk_below (g := gb328) (o := .cells #[.int .i64 0, .int .i64 0, .int .i64 0] 30 (0, 0)) BKZ hb2) (by decide)); have NB328_333 := Aside0.mk (Ne.symm (IsS94.ne_blk hi (blk_below (g := gb328) (o := .cells #[.int .i64 0, .int .i64 0, .int .i64 0] 30 (0, 0)) BKZ hb2) (by decide))); have NB333_329 := Aside0.mk (IsS94.ne_blk hi (blk_below (g := gb329) (o := .cells #[.int .i64 0, .int .i64 0] 43 (0, 0)) BKZ hb2) (by decide)); have NB329_333 := Aside0.mk (Ne.symm (IsS94.ne_blk hi (blk_below (g := gb329) (o := .cells #[.int .i64 0, .int .i64 0] 43 (0, 0)) BKZ hb2) (by decide))); replace BK328 := Aside0.mk (blk_below (g := gb328) (o := .cells #[.int .i64 0, .int .i64 0, .int .i64 0] 30 (0, 0)) BKZ hb2); replace BK329 := Aside0.mk (blk_below (g := gb329) (o := .cells #[.int .i64 0, .int .i64 0] 43 (0, 0)) BKZ hb2); replace HB := Aside0.mk (hb); clear hb hb2 hi) | ((with_reducible refine GC 47 rfl ?_); refine GL 11 Try.func47 (spec_l03Maze.calls k g333 t330 t331 t332 t334 t335 t336 t337 t338 w _ ?side1 ?side2 A3.out) ?_; (case side1 => repeat (first | (with_reducible first | exact HI333.out | apply IsS94.alloc | apply IsS94.drewN | apply IsS94.drew | apply IsS94.set_1 | apply IsS94.set_2 | refine IsS94.far ?_ NB333_328.out _ | refine IsS94.far ?_ NB333_329.out _) | exact HI333.out)); (case side2 => repeat (first | (with_reducible first | exact HB.out | apply below_alloc | apply pw_below_drewN | apply below_drew1 | refine below_set ?_ (IsS94.ge HI333.out) | refine below_set ?_ GE328.out | refine below_set ?_ GE329.out) | exact HB.out)); rintro e w9 ⟨rfl, hi, hb, hk⟩; refine ⟨_, rfl, ?_⟩; replace BK328 := Aside0.mk (KeepBut.blk hk (g' := gb328) (o := .cells #[.int .i64 0, .int .i64 0, .int .i64 0] 30 (0, 0)) BKZ NB328_333.out (by simp)); replace BK329 := Aside0.mk (KeepBut.blk hk (g' := gb329) (o := .cells #[.int .i64 0, .int .i64 0] 43 (0, 0)) BKZ NB329_333.out (by simp)); replace HI333 := Aside0.mk (hi); replace HB := Aside0.mk (hb); clear hb hk hi) | ((with_reducible refine gate_dst (N := 6) rfl ?_); refine BX 6 30 #[.int .i64 0, .int .i64 0, .int .i64 0] ?_; intro gb339 hg w10 hbox hb; have n0_ := Aside0.mk (blk_below (g := gb328) (o := .cells #[.int .i64 0, .int .i64 0, .int .i64 0] 30 (0, 0)) BKZ hb); have n1_ := Aside0.mk (blk_below (g := gb329) (o := .cells #[.int .i64 0, .int .i64 0] 43 (0, 0)) BKZ hb); have n2_ := Aside0.mk (IsS94.below (by repeat (first | (with_reducible first | exact HI333.out | apply IsS94.alloc | apply IsS94.drewN | apply IsS94.drew | apply IsS94.set_1 | apply IsS94.set_2 | refine IsS94.far ?_ NB333_328.out _ | refine IsS94.far ?_ NB333_329.out _) | exact HI333.out)) hb); have n3_ := Aside0.mk (below_step (by repeat (first | (with_reducible first | exact HB.out | apply below_alloc | apply pw_below_drewN | apply below_drew1 | refine below_set ?_ (IsS94.ge HI333.out) | refine below_set ?_ GE328.out | refine below_set ?_ GE329.out) | exact HB.out)) hb); have n4_ := Aside0.mk (hbox); have n5_ := Aside0.mk ((by rw [hg]; exact (below_size (by repeat (first | (with_reducible first | exact HB.out | apply below_alloc | apply pw_below_drewN | apply below_drew1 | refine below_set ?_ (IsS94.ge HI333.out) | refine below_set ?_ GE328.out | refine below_set ?_ GE329.out) | exact HB.out))) : w.heap.size ≤ gb339)); have n6_ := Aside0.mk ((by rw [hg]; exact (below_size (by repeat (first | (with_reducible first | exact HB.out | apply below_alloc | apply pw_below_drewN | apply below_drew1 | refine below_set ?_ (IsS94.ge HI333.out) | refine below_set ?_ GE328.out | refine below_set ?_ GE329.out) | exact HB.out))) : w.heap.size ≤ gb339)); have n7_ := Aside0.mk ((by rw [hg]; exact Nat.ne_of_lt (blk_lt (g := gb328) (o := .cells #[.int .i64 0, .int .i64 0, .int .i64 0] 30 (0, 0)) BKZ) : gb328 ≠ gb339)); have n8_ := Aside0.mk ((by rw [hg]; exact Nat.ne_of_gt (blk_lt (g := gb328) (o := .cells #[.int .i64 0, .int .i64 0, .int .i64 0] 30 (0, 0)) BKZ) : gb339 ≠ gb328)); have n9_ := Aside0.mk ((by rw [hg]; exact Nat.ne_of_lt (blk_lt (g := gb329) (o := .cells #[.int .i64 0, .int .i64 0] 43 (0, 0)) BKZ) : gb329 ≠ gb339)); have n10_ := Aside0.mk ((by rw [hg]; exact Nat.ne_of_gt (blk_lt (g := gb329) (o := .cells #[.int .i64 0, .int .i64 0] 43 (0, 0)) BKZ) : gb339 ≠ gb329)); have n11_ := Aside0.mk ((by rw [hg]; exact Nat.ne_of_lt (IsS94.lt (show IsS94 w _ g333 t330 t337 t338 from by repeat (first | (with_reducible first | exact HI333.out | apply IsS94.alloc | apply IsS94.drewN | apply IsS94.drew | apply IsS94.set_1 | apply IsS94.set_2 | refine IsS94.far ?_ NB333_328.out _ | refine IsS94.far ?_ NB333_329.out _) | exact HI333.out))) : g333 ≠ gb339)); have n12_ := Aside0.mk ((by rw [hg]; exact Nat.ne_of_gt (IsS94.lt (show IsS94 w _ g333 t330 t337 t338 from by repeat (first | (with_reducible first | exact HI333.out | apply IsS94.alloc | apply IsS94.drewN | apply IsS94.drew | apply IsS94.set_1 | apply IsS94.set_2 | refine IsS94.far ?_ NB333_328.out _ | refine IsS94.far ?_ NB333_329.out _) | exact HI333.out))) : gb339 ≠ g333)); clear BK328; clear BK329; clear HI333; clear HB; have BK328 := n0_; have BK329 := n1_; have HI333 := n2_; have HB := n3_; have BK339 := n4_; have GW339 := n5_; have GE339 := n6_; have NB328_339 := n7_; have NB339_328 := n8_; have NB329_339 := n9_; have NB339_329 := n10_; have NB333_339 := n11_; have NB339_333 := n12_; clear n0_ n1_ n2_ n3_ n4_ n5_ n6_ n7_ n8_ n9_ n10_ n11_ n12_; clear hb hbox hg; have hnb11 := NB339_328.out; have hnc11 := NB328_339.out; have hnb12 := NB339_329.out; have hnc12 := NB329_339.out; have hnb13 := NB339_333.out; have hnc13 := NB333_339.out; obtain ⟨hcz14_0, hcz14_1, hcz14_2, hfz14_0, hfz14_1, hfz14_2⟩ := CZ3 BK339) | ((with_reducible refine GC 48 rfl ?_); refine GL 14 Try.func48 (spec_l10Walker.calls g333 t330 t337 t338 t334 t335 t336 t340 t341 t342 t343 w _ ?side1 ?side2 A4.out) ?_; (case side1 => repeat (first | (with_reducible first | exact HI333.out | apply IsS94.alloc | apply IsS94.drewN | apply IsS94.drew | apply IsS94.set_1 | apply IsS94.set_2 | refine IsS94.far ?_ NB333_328.out _ | refine IsS94.far ?_ NB333_329.out _ | refine IsS94.far ?_ NB333_339.out _) | exact HI333.out)); (case side2 => repeat (first | (with_reducible first | exact HB.out | apply below_alloc | apply pw_below_drewN | apply below_drew1 | refine below_set ?_ (IsS94.ge HI333.out) | refine below_set ?_ GE328.out | refine below_set ?_ GE329.out | refine below_set ?_ GE339.out) | exact HB.out)); rintro e w15 ⟨rfl, hi, hb, hk⟩; refine ⟨_, rfl, ?_⟩; replace BK328 := Aside0.mk (KeepBut.blk hk (g' := gb328) (o := .cells #[.int .i64 0, .int .i64 0, .int .i64 0] 30 (0, 0)) (BF3 NB328_339 BK328) NB328_333.out (by simp)); replace BK329 := Aside0.mk (KeepBut.blk hk (g' := gb329) (o := .cells #[.int .i64 0, .int .i64 0] 43 (0, 0)) (BF3 NB329_339 BK329) NB329_333.out (by simp)); replace BK339 := Aside0.mk (KeepBut.blk hk (g' := gb339) (o := .cells #[.int .i64 t334, .int .i64 t335, .int .i64 t336] 30 (0, 0)) (PQ3 BK339) NB339_333.out (by simp)); replace HI333 := Aside0.mk (hi); replace HB := Aside0.mk (hb); clear hb hk hi) | ((with_reducible refine gate_dst (N := 7) rfl ?_); refine BX 7 43 #[.int .i64 0, .int .i64 0] ?_; intro gb344 hg w16 hbox hb; have n0_ := Aside0.mk (blk_below (g := gb328) (o := .cells #[.int .i64 0, .int .i64 0, .int .i64 0] 30 (0, 0)) BKZ hb); have n1_ := Aside0.mk (blk_below (g := gb329) (o := .cells #[.int .i64 0, .int .i64 0] 43 (0, 0)) BKZ hb); have n2_ := Aside0.mk (IsS94.below (by repeat (first | (with_reducible first | exact HI333.out | apply IsS94.alloc | apply IsS94.drewN | apply IsS94.drew | apply IsS94.set_1 | apply IsS94.set_2 | refine IsS94.far ?_ NB333_328.out _ | refine IsS94.far ?_ NB333_329.out _ | refine IsS94.far ?_ NB333_339.out _) | exact HI333.out)) hb); have n3_ := Aside0.mk (blk_below (g := gb339) (o := .cells #[.int .i64 t334, .int .i64 t335, .int .i64 t336] 30 (0, 0)) BKZ hb); have n4_ := Aside0.mk (below_step (by repeat (first | (with_reducible first | exact HB.out | apply below_alloc | apply pw_below_drewN | apply below_drew1 | refine below_set ?_ (IsS94.ge HI333.out) | refine below_set ?_ GE328.out | refine below_set ?_ GE329.out | refine below_set ?_ GE339.out) | exact HB.out)) hb); have n5_ := Aside0.mk (hbox); have n6_ := Aside0.mk ((by rw [hg]; exact (below_size (by repeat (first | (with_reducible first | exact HB.out | apply below_alloc | apply pw_below_drewN | apply below_drew1 | refine below_set ?_ (IsS94.ge HI333.out) | refine below_set ?_ GE328.out | refine below_set ?_ GE329.out | refine below_set ?_ GE339.out) | exact HB.out))) : w.heap.size ≤ gb344)); have n7_ := Aside0.mk ((by rw [hg]; exact (below_size (by repeat (first | (with_reducible first | exact HB.out | apply below_alloc | apply pw_below_drewN | apply below_drew1 | refine below_set ?_ (IsS94.ge HI333.out) | refine below_set ?_ GE328.out | refine below_set ?_ GE329.out | refine below_set ?_ GE339.out) | exact HB.out))) : w.heap.size ≤ gb344)); have n8_ := Aside0.mk ((by rw [hg]; exact Nat.ne_of_lt (blk_lt (g := gb328) (o := .cells #[.int .i64 0, .int .i64 0, .int .i64 0] 30 (0, 0)) BKZ) : gb328 ≠ gb344)); have n9_ := Aside0.mk ((by rw [hg]; exact Nat.ne_of_gt (blk_lt (g := gb328) (o := .cells #[.int .i64 0, .int .i64 0, .int .i64 0] 30 (0, 0)) BKZ) : gb344 ≠ gb328)); have n10_ := Aside0.mk ((by rw [hg]; exact Nat.ne_of_lt (blk_lt (g := gb329) (o := .cells #[.int .i64 0, .int .i64 0] 43 (0, 0)) BKZ) : gb329 ≠ gb344)); have n11_ := Aside0.mk ((by rw [hg]; exact Nat.ne_of_gt (blk_lt (g := gb329) (o := .cells #[.int .i64 0, .int .i64 0] 43 (0, 0)) BKZ) : gb344 ≠ gb329)); have n12_ := Aside0.mk ((by rw [hg]; exact Nat.ne_of_lt (blk_lt (g := gb339) (o := .cells #[.int .i64 t334, .int .i64 t335, .int .i64 t336] 30 (0, 0)) BKZ) : gb339 ≠ gb344)); have n13_ := Aside0.mk ((by rw [hg]; exact Nat.ne_of_gt (blk_lt (g := gb339) (o := .cells #[.int .i64 t334, .int .i64 t335, .int .i64 t336] 30 (0, 0)) BKZ) : gb344 ≠ gb339)); have n14_ := Aside0.mk ((by rw [hg]; exact Nat.ne_of_lt (IsS94.lt (show IsS94 w _ g333 t330 t342 t343 from by repeat (first | (with_reducible first | exact HI333.out | apply IsS94.alloc | apply IsS94.drewN | apply IsS94.drew | apply IsS94.set_1 | apply IsS94.set_2 | refine IsS94.far ?_ NB333_328.out _ | refine IsS94.far ?_ NB333_329.out _ | refine IsS94.far ?_ NB333_339.out _) | exact HI333.out))) : g333 ≠ gb344)); have n15_ := Aside0.mk ((by rw [hg]; exact Nat.ne_of_gt (IsS94.lt (show IsS94 w _ g333 t330 t342 t343 from by repeat (first | (with_reducible first | exact HI333.out | apply IsS94.alloc | apply IsS94.drewN | apply IsS94.drew | apply IsS94.set_1 | apply IsS94.set_2 | refine IsS94.far ?_ NB333_328.out _ | refine IsS94.far ?_ NB333_329.out _ | refine IsS94.far ?_ NB333_339.out _) | exact HI333.out))) : gb344 ≠ g333)); clear BK328; clear BK329; clear HI333; clear BK339; clear HB; have BK328 := n0_; have BK329 := n1_; have HI333 := n2_; have BK339 := n3_; have HB := n4_; have BK344 := n5_; have GW344 := n6_; have GE344 := n7_; have NB328_344 := n8_; have NB344_328 := n9_; have NB329_344 := n10_; have NB344_329 := n11_; have NB339_344 := n12_; have NB344_339 := n13_; have NB333_344 := n14_; have NB344_333 := n15_; clear n0_ n1_ n2_ n3_ n4_ n5_ n6_ n7_ n8_ n9_ n10_ n11_ n12_ n13_ n14_ n15_; clear hb hbox hg; have hnb17 := NB344_328.out; have hnc17 := NB328_344.out; have hnb18 := NB344_329.out; have hnc18 := NB329_344.out; have hnb19 := NB344_339.out; have hnc19 := NB339_344.out; have hnb20 := NB344_333.out; have hnc20 := NB333_344.out; obtain ⟨hcz21_0, hcz21_1, hfz21_0, hfz21_1⟩ := CZ2 BK344))
 have n0_ : Aside0 ((S2W w16 gb344 (.int .i64 t340) (.int .i64 t341)).heap[gb328]? = some (.cells #[.int .i64 0, .int .i64 0, .int .i64 0] 30 (0, 0))) := ⟨BF2 NB328_344 BK328⟩
 have n1_ : Aside0 ((S2W w16 gb344 (.int .i64 t340) (.int .i64 t341)).heap[gb329]? = some (.cells #[.int .i64 0, .int .i64 0] 43 (0, 0))) := ⟨BF2 NB329_344 BK329⟩
 have n2_ : Aside0 ((S2W w16 gb344 (.int .i64 t340) (.int .i64 t341)).heap[gb339]? = some (.cells #[.int .i64 t334, .int .i64 t335, .int .i64 t336] 30 (0, 0))) := ⟨BF2 NB339_344 BK339⟩
 have n3_ : Aside0 ((S2W w16 gb344 (.int .i64 t340) (.int .i64 t341)).heap[gb344]? = some (.cells #[.int .i64 t340, .int .i64 t341] 43 (0, 0))) := ⟨PQ2 BK344⟩
 have n4_ : Aside0 (IsS94 w (S2W w16 gb344 (.int .i64 t340) (.int .i64 t341)) g333 t330 t342 t343) := ⟨by repeat (first | (with_reducible first | exact HI333.out | apply IsS94.alloc | apply IsS94.drewN | apply IsS94.drew | apply IsS94.set_1 | apply IsS94.set_2 | refine IsS94.far ?_ NB333_328.out _ | refine IsS94.far ?_ NB333_329.out _ | refine IsS94.far ?_ NB333_339.out _ | refine IsS94.far ?_ NB333_344.out _) | exact HI333.out)⟩
 have n5_ : Aside0 (Below w.heap.size w (S2W w16 gb344 (.int .i64 t340) (.int .i64 t341))) := ⟨by repeat (first | (with_reducible first | exact HB.out | apply below_alloc | apply pw_below_drewN | apply below_drew1 | refine below_set ?_ (IsS94.ge HI333.out) | refine below_set ?_ GE328.out | refine below_set ?_ GE329.out | refine below_set ?_ GE339.out | refine below_set ?_ GE344.out) | exact HB.out)⟩
 (try clear BK328)
 (try clear BK329)
 (try clear BK339)
 (try clear BK344)
 (try clear HI333)
 (try clear HB)
 (try dsimp only [S2W] at n0_ n1_ n2_ n3_ n4_ n5_); generalize ((w16.setCell ⟨gb344, 0, none⟩ (.int .i64 t340)).setCell ⟨gb344, 1, none⟩ (.int .i64 t341)) = w22 at n0_ n1_ n2_ n3_ n4_ n5_ ⊢
 have BK328 := n0_
 have BK329 := n1_
 have BK339 := n2_
 have BK344 := n3_
 have HI333 := n4_
 have HB := n5_
 clear n0_ n1_ n2_ n3_ n4_ n5_
 replace BK328 := Aside0.mk (blk_drew BK328.out)
 replace BK329 := Aside0.mk (blk_drew BK329.out)
 replace BK339 := Aside0.mk (blk_drew BK339.out)
 replace BK344 := Aside0.mk (blk_drew BK344.out)
 replace HI333 := Aside0.mk (IsS94.drew HI333.out)
 replace HB := Aside0.mk (below_drew1 HB.out)
 refine ST 9 (fun w' => w'.cell? ⟨gb339, 0, none⟩ = some (.int .i64 t334) ∧ w'.cell? ⟨gb339, 1, none⟩ = some (.int .i64 t335) ∧ w'.cell? ⟨gb339, 2, none⟩ = some (.int .i64 t336) ∧ w'.cell? ⟨gb344, 0, none⟩ = some (.int .i64 t340) ∧ w'.cell? ⟨gb344, 1, none⟩ = some (.int .i64 t341)) [] spec_DrawReport.tab4 spec_DrawReport.bits4 ⟨CE BK339 0, CE BK339 1, CE BK339 2, CE BK344 0, CE BK344 1⟩ (fun hHeld HT_ HW_ => ?_)
 generalize w22.drew = w23 at BK328 BK329 BK339 BK344 HI333 HB hHeld ⊢
 refine PU 2 17 HT_ ?_
 refine TA 0 15 HT_ HW_ hHeld ?_
 refine TA 1 16 HT_ HW_ hHeld ?_
 refine TA 3 18 HT_ HW_ hHeld ?_
 refine TA 4 19 HT_ HW_ hHeld ?_
 refine OG 5 20 HT_ Try.func49 (spec_l33Walk.calls k g333 t330 t342 t343 t334 t335 t336 t340 t341 t345 t348 t349 w _ ?side1 ?side2 A5.out) (fun K hK => ?_)
 (case side1 => repeat (first | (with_reducible first | exact HI333.out | apply IsS94.alloc | apply IsS94.drewN | apply IsS94.drew | apply IsS94.set_1 | apply IsS94.set_2 | refine IsS94.far ?_ NB333_328.out _ | refine IsS94.far ?_ NB333_329.out _ | refine IsS94.far ?_ NB333_339.out _ | refine IsS94.far ?_ NB333_344.out _) | exact HI333.out))
 (case side2 => repeat (first | (with_reducible first | exact HB.out | apply below_alloc | apply pw_below_drewN | apply below_drew1 | refine below_set ?_ (IsS94.ge HI333.out) | refine below_set ?_ GE328.out | refine below_set ?_ GE329.out | refine below_set ?_ GE339.out | refine below_set ?_ GE344.out) | exact HB.out))
 rintro e w24 ⟨v346, rfl, ho0, hi, hb, hk⟩
 refine ⟨_, rfl, ?_⟩
 have HO347 := Aside0.mk (Kd.R_lower ho0 (below_size (by repeat (first | (with_reducible first | exact HB.out | apply below_alloc | apply pw_below_drewN | apply below_drew1 | refine below_set ?_ (IsS94.ge HI333.out) | refine below_set ?_ GE328.out | refine below_set ?_ GE329.out | refine below_set ?_ GE339.out | refine below_set ?_ GE344.out) | exact HB.out))))
 replace BK328 := Aside0.mk (KeepBut.blk hk (g' := gb328) (o := .cells #[.int .i64 0, .int .i64 0, .int .i64 0] 30 (0, 0)) BKZ NB328_333.out (by simp))
 replace BK329 := Aside0.mk (KeepBut.blk hk (g' := gb329) (o := .cells #[.int .i64 0, .int .i64 0] 43 (0, 0)) BKZ NB329_333.out (by simp))
 replace BK339 := Aside0.mk (KeepBut.blk hk (g' := gb339) (o := .cells #[.int .i64 t334, .int .i64 t335, .int .i64 t336] 30 (0, 0)) BKZ NB339_333.out (by simp))
 replace BK344 := Aside0.mk (KeepBut.blk hk (g' := gb344) (o := .cells #[.int .i64 t340, .int .i64 t341] 43 (0, 0)) BKZ NB344_333.out (by simp))
 replace HI333 := Aside0.mk (hi)
 replace HB := Aside0.mk (hb)
 clear hb hk hi
 (try clear ho0)
 refine HN hK ⟨CE BK339 0, CE BK339 1, CE BK339 2, CE BK344 0, CE BK344 1⟩ (fun hHeld => ?_)
 clear hK K
 refine one_ (i := 6) (N := none) #[true, true, true, true, true, true, true, false, false] rfl rfl (one_of HT_.out (by kernel_rfl)) (by decide) (fun K hK => ?_)
 have hs25 : w24.cell? ⟨gb328, 0, none⟩ = some (.int .i64 0) := CE BK328 0
 have hfs25 := blk_frozen BK328.out 0
 have hns25_1 := NB329_328.out
 have hns25_2 := NB339_328.out
 have hns25_3 := NB344_328.out
 have hms25_1 := NB328_329.out
 have hms25_2 := NB328_339.out
 have hms25_3 := NB328_344.out
 have hs26 : w24.cell? ⟨gb328, 1, none⟩ = some (.int .i64 0) := CE BK328 1
 have hfs26 := blk_frozen BK328.out 1
 have hns26_1 := NB329_328.out
 have hns26_2 := NB339_328.out
 have hns26_3 := NB344_328.out
 have hms26_1 := NB328_329.out
 have hms26_2 := NB328_339.out
 have hms26_3 := NB328_344.out
 have hs27 : w24.cell? ⟨gb328, 2, none⟩ = some (.int .i64 0) := CE BK328 2
 have hfs27 := blk_frozen BK328.out 2
 have hns27_1 := NB329_328.out
 have hns27_2 := NB339_328.out
 have hns27_3 := NB344_328.out
 have hms27_1 := NB328_329.out
 have hms27_2 := NB328_339.out
 have hms27_3 := NB328_344.out
 refine skip_ (w1 := ?_) (by rfl) rfl ?_ ?_
 rotate_left
 ·go_simp
  rfl
 refine hK.out _ _ ⟨(CF3 NB339_328.out (hHeld.1)), (CF3 NB339_328.out (hHeld.2.1)), (CF3 NB339_328.out (hHeld.2.2.1)), (CF3 NB344_328.out (hHeld.2.2.2.1)), (CF3 NB344_328.out (hHeld.2.2.2.2))⟩ (fun hHeld => ?_)
 clear hK K
 refine one_ (i := 7) (N := none) #[true, true, true, true, true, true, true, true, false] rfl rfl (one_of HT_.out (by kernel_rfl)) (by decide) (fun K hK => ?_)
 have hs28 : w24.cell? ⟨gb329, 0, none⟩ = some (.int .i64 0) := CE BK329 0
 have hfs28 := blk_frozen BK329.out 0
 have hns28_0 := NB328_329.out
 have hns28_2 := NB339_329.out
 have hns28_3 := NB344_329.out
 have hms28_0 := NB329_328.out
 have hms28_2 := NB329_339.out
 have hms28_3 := NB329_344.out
 have hs29 : w24.cell? ⟨gb329, 1, none⟩ = some (.int .i64 0) := CE BK329 1
 have hfs29 := blk_frozen BK329.out 1
 have hns29_0 := NB328_329.out
 have hns29_2 := NB339_329.out
 have hns29_3 := NB344_329.out
 have hms29_0 := NB329_328.out
 have hms29_2 := NB329_339.out
 have hms29_3 := NB329_344.out
 refine skip_ (w1 := ?_) (by rfl) rfl ?_ ?_
 rotate_left
 ·go_simp
  rfl
 refine hK.out _ _ ⟨(CF2 NB339_329.out (hHeld.1)), (CF2 NB339_329.out (hHeld.2.1)), (CF2 NB339_329.out (hHeld.2.2.1)), (CF2 NB344_329.out (hHeld.2.2.2.1)), (CF2 NB344_329.out (hHeld.2.2.2.2))⟩ (fun hHeld => ?_)
 clear hK K
 refine PU 8 4 HT_ ?_
 refine done_ (done_of HT_.out (by kernel_rfl)) ?_
 try go_wp2
 refine bodyPost_ret (results_list (rs := [.cell 2 30, .cell 3 43, .tmp 4]) rfl (by simp) (.cell gb328 30 #[.int .i64 t334, .int .i64 t335, .int .i64 t336] (0, 0) _ rfl (by refine BT ?_; refine blk_far ?_ NB328_329.out _; refine BT ?_; refine blk_far ?_ NB328_329.out _; refine BT ?_; refine blk_put (cs := #[.int .i64 t334, .int .i64 t335, .int .i64 0]) ?_ 2 _ rfl; refine BT ?_; refine blk_put (cs := #[.int .i64 t334, .int .i64 0, .int .i64 0]) ?_ 1 _ rfl; refine BT ?_; refine blk_put (cs := #[.int .i64 0, .int .i64 0, .int .i64 0]) ?_ 0 _ rfl; refine BT ?_; exact BK328.out) Try.underlying30 rfl (by kernel_rfl) (.cell gb329 43 #[.int .i64 t340, .int .i64 t341] (0, 0) _ rfl (by refine BT ?_; refine blk_put (cs := #[.int .i64 t340, .int .i64 0]) ?_ 1 _ rfl; refine BT ?_; refine blk_put (cs := #[.int .i64 0, .int .i64 0]) ?_ 0 _ rfl; refine BT ?_; refine blk_far ?_ NB329_328.out _; refine BT ?_; refine blk_far ?_ NB329_328.out _; refine BT ?_; refine blk_far ?_ NB329_328.out _; refine BT ?_; exact BK329.out) Try.underlying43 rfl (by kernel_rfl) (.tmp .nil)))) rfl ?_
 exact ⟨_, RZ, RT (Kd.R_mono (Kd.R_far (p := ⟨gb329, 1, none⟩) (Kd.R_far (p := ⟨gb329, 0, none⟩) (Kd.R_far (p := ⟨gb328, 2, none⟩) (Kd.R_far (p := ⟨gb328, 1, none⟩) (Kd.R_far (p := ⟨gb328, 0, none⟩) (Kd.R_types (Kd.R_types HO347.out BK328.out (by decide)) BK329.out (by decide)) (fun _ hk => hk.1.2) (.int .i64 t334)) (fun _ hk => hk.1.2) (.int .i64 t335)) (fun _ hk => hk.1.2) (.int .i64 t336)) (fun _ hk => hk.2) (.int .i64 t340)) (fun _ hk => hk.2) (.int .i64 t341)) (fun _ hk => trivial)), by repeat (first | (with_reducible first | exact HB.out | apply below_alloc | apply pw_below_drewN | apply below_drew1 | refine below_set ?_ (IsS94.ge HI333.out) | refine below_set ?_ GE328.out | refine below_set ?_ GE329.out | refine below_set ?_ GE339.out | refine below_set ?_ GE344.out) | exact HB.out)⟩

mutual
def impl_ReportOf.j0 : Nat → List Int → Bool → Int → Int → Int → Int → Int → Option (List Int × Bool)
 | 0, _, _, _, _, _, _, _ => none
 | k + 1, x2, x21, x351000, x351001, x351002, x352000, x352001 => if x21 = true then (some (([] : List Int), false)) else ((impl_PatternAt.f k x351000 x351001 x351002 x352000 x352001).bind fun t354 => (impl_ReportOf.l0 k (([t354] : List Int)) x2 (x2.length : Int) 0 x351000 x351001 x351002 x352000 x352001))
def impl_ReportOf.l0 : Nat → List Int → List Int → Int → Int → Int → Int → Int → Int → Int → Option (List Int × Bool)
 | 0, _, _, _, _, _, _, _, _, _ => none
 | k + 1, x8, x26, x27, x28, x351000, x351001, x351002, x352000, x352001 => if x28 < x27 then (if 0 ≤ x28 then (if x28 < (x26.length : Int) then ((impl_went.f k x351000 x351001 x351002 x352000 x352001 (rd x26 x28)).bind fun bt359 => (if bt359.2.2 = true then ((impl_PatternAt.f k x351000 x351001 x351002 bt359.1 bt359.2.1).bind fun t363 => (if x8.length < 17592186044416 then (impl_ReportOf.l0 k (x8 ++ [t363]) x26 x27 (wrap64 (x28 + 1)) x351000 x351001 x351002 bt359.1 bt359.2.1) else (none))) else (some (([] : List Int), false)))) else (none)) else (none)) else (some (x8, true))
end
def impl_ReportOf.f (k : Nat) (a0_0 : Int) (a0_1 : Int) (a0_2 : Int) (a1_0 : Int) (a1_1 : Int) (l2 : List Int) : Option (List Int × Bool) := (impl_WalkerOk.f a0_0 a0_1 a0_2 a1_0 a1_1).bind fun t352 => (if t352 = true then ((impl_areTurns.f l2 40).bind fun t353 => (impl_ReportOf.j0 k l2 (!t353) a0_0 a0_1 a0_2 a1_0 a1_1)) else (impl_ReportOf.j0 k l2 true a0_0 a0_1 a0_2 a1_0 a1_1))
theorem impl_ReportOf.mono_l : ∀ k, (∀ y0 y1 y2 y3 y4 y5 y6, LeO (impl_ReportOf.j0 k y0 y1 y2 y3 y4 y5 y6) (impl_ReportOf.j0 (k + 1) y0 y1 y2 y3 y4 y5 y6)) ∧ (∀ y0 y1 y2 y3 y4 y5 y6 y7 y8, LeO (impl_ReportOf.l0 k y0 y1 y2 y3 y4 y5 y6 y7 y8) (impl_ReportOf.l0 (k + 1) y0 y1 y2 y3 y4 y5 y6 y7 y8))
 | 0 => ⟨fun _ _ _ _ _ _ _ r h => by simp [impl_ReportOf.j0] at h, fun _ _ _ _ _ _ _ _ _ r h => by simp [impl_ReportOf.l0] at h⟩
 | k + 1 => by
  obtain ⟨ih0, ih1⟩ := impl_ReportOf.mono_l k
  refine ⟨?_, ?_⟩
  ·intro y0 y1 y2 y3 y4 y5 y6
   unfold impl_ReportOf.j0
   repeat' first
   | (with_reducible exact ih0 _ _ _ _ _ _ _)
   | (with_reducible exact ih1 _ _ _ _ _ _ _ _ _)
   | (with_reducible exact impl_PatternAt.mono _ _ _ _ _ _)
   | (with_reducible exact impl_went.mono _ _ _ _ _ _ _)
   | (with_reducible exact LeO.refl _)
   | (with_reducible exact LeO.none _)
   | (with_reducible refine LeO.ite ?_ ?_)
   | (with_reducible refine LeO.bind ?_ (fun _ => ?_))
   | exact ih0 _ _ _ _ _ _ _
   | exact ih1 _ _ _ _ _ _ _ _ _
   | exact impl_PatternAt.mono _ _ _ _ _ _
   | exact impl_went.mono _ _ _ _ _ _ _
   | exact LeO.none _
   | refine LeO.ite ?_ ?_
   | refine LeO.bind ?_ (fun _ => ?_)
  ·intro y0 y1 y2 y3 y4 y5 y6 y7 y8
   unfold impl_ReportOf.l0
   repeat' first
   | (with_reducible exact ih0 _ _ _ _ _ _ _)
   | (with_reducible exact ih1 _ _ _ _ _ _ _ _ _)
   | (with_reducible exact impl_PatternAt.mono _ _ _ _ _ _)
   | (with_reducible exact impl_went.mono _ _ _ _ _ _ _)
   | (with_reducible exact LeO.refl _)
   | (with_reducible exact LeO.none _)
   | (with_reducible refine LeO.ite ?_ ?_)
   | (with_reducible refine LeO.bind ?_ (fun _ => ?_))
   | exact ih0 _ _ _ _ _ _ _
   | exact ih1 _ _ _ _ _ _ _ _ _
   | exact impl_PatternAt.mono _ _ _ _ _ _
   | exact impl_went.mono _ _ _ _ _ _ _
   | exact LeO.none _
   | refine LeO.ite ?_ ?_
   | refine LeO.bind ?_ (fun _ => ?_)
theorem impl_ReportOf.mono : ∀ a0 a1 a2 a3 a4 a5 k, LeO (impl_ReportOf.f k a0 a1 a2 a3 a4 a5) (impl_ReportOf.f (k + 1) a0 a1 a2 a3 a4 a5) := by
 intro a0 a1 a2 a3 a4 a5 k
 obtain ⟨ih0, ih1⟩ := impl_ReportOf.mono_l k
 unfold impl_ReportOf.f
 repeat' first
   | (with_reducible exact ih0 _ _ _ _ _ _ _)
   | (with_reducible exact ih1 _ _ _ _ _ _ _ _ _)
   | (with_reducible exact impl_PatternAt.mono _ _ _ _ _ _)
   | (with_reducible exact impl_went.mono _ _ _ _ _ _ _)
   | (with_reducible exact LeO.refl _)
   | (with_reducible exact LeO.none _)
   | (with_reducible refine LeO.ite ?_ ?_)
   | (with_reducible refine LeO.bind ?_ (fun _ => ?_))
   | exact ih0 _ _ _ _ _ _ _
   | exact ih1 _ _ _ _ _ _ _ _ _
   | exact impl_PatternAt.mono _ _ _ _ _ _
   | exact impl_went.mono _ _ _ _ _ _ _
   | exact LeO.none _
   | refine LeO.ite ?_ ?_
   | refine LeO.bind ?_ (fun _ => ?_)
set_option maxHeartbeats 8000000 in
set_option maxRecDepth 100000 in
theorem impl_ReportOf.calls (k : Nat) (a0_0 : Int) (a0_1 : Int) (a0_2 : Int) (a1_0 : Int) (a1_1 : Int) (A2 : Option Addr) (c2 : Nat) (l2 : List Int) (r1 : List Int) (r2 : Bool) (w : World) (hr2 : Kd.C (Kd.int .i64) w A2 l2.length l2) (hc2 : l2.length ≤ c2) (h : impl_ReportOf.f k a0_0 a0_1 a0_2 a1_0 a1_1 l2 = some (r1, r2)) :
  Calls Try.prog 20 #[.agg #[.int .i64 a0_0, .int .i64 a0_1, .int .i64 a0_2], .agg #[.int .i64 a1_0, .int .i64 a1_1], .slice A2 l2.length c2] w fun e w' => ∃ v0_ : Value, e = .returned (.tuple #[v0_, .bool r2]) ∧ Kd.R (Kd.int .i64) 3 w' w.heap.size (fun _ => True) v0_ r1 ∧ Below w.heap.size w w' := by
 have hu30 := Try.underlying30
 have hu43 := Try.underlying43
 have HR2 := Aside0.mk hr2
 have HC2 := Aside0.mk hc2
 clear hr2 hc2
 have HB := Aside0.mk (Below.refl w.heap.size w)
 have H := h
 unfold impl_ReportOf.f at H
 clear h
 have HC4 := Aside0.mk H
 clear H
 go_enter Try.func20, Try.ntmps20
 go_upto_region 1 with (first | ((with_reducible refine gate_dst (N := 3) rfl ?_); refine BX 3 30 #[.int .i64 a0_0, .int .i64 a0_1, .int .i64 a0_2] ?_; intro gb350 hg w5 hbox hb; have BK350 := Aside0.mk (hbox); have GW350 := (GS hg : Aside0 (w.heap.size ≤ gb350)); have GE350 := GW350; replace HB := BS HB hb; clear hb hbox hg) | ((with_reducible refine gate_dst (N := 4) rfl ?_); refine BX 4 43 #[.int .i64 a1_0, .int .i64 a1_1] ?_; intro gb351 hg w6 hbox hb; have BK351 := Aside0.mk (hbox); have GW351 := (GS hg : Aside0 (w.heap.size ≤ gb351)); have GE351 := GW351; have NB350_351 := NL BK350 hg; have NB351_350 := NG BK350 hg; replace BK350 := BB BK350 hb; replace HB := BS HB hb; clear hb hbox hg))
 (try simp only [Act.put, List.setIfInBounds_toArray, List.set_cons_zero, List.set_cons_succ])
 go_cut [21] (fun v21 wc => ∃ (kq : Nat) (x21_3 : Bool), v21 = .bool x21_3 ∧ Aside0 (impl_ReportOf.j0 kq l2 x21_3 a0_0 a0_1 a0_2 a1_0 a1_1 = some (r1, r2)) ∧ Aside0 (kq ≤ k) ∧ Aside0 (wc.heap[gb350]? = some (.cells #[.int .i64 a0_0, .int .i64 a0_1, .int .i64 a0_2] 30 (0, 0))) ∧ Aside0 (wc.heap[gb351]? = some (.cells #[.int .i64 a1_0, .int .i64 a1_1] 43 (0, 0))) ∧ Aside0 (Below w.heap.size w wc))
 case first =>
  have H := HC4.out
  clear HC4
  obtain ⟨t352, A7, H⟩ := BD H
  by_cases c8 : t352 = true
  ·subst c8
   replace H := IT H
   obtain ⟨t353, A9, H⟩ := BD H
   have H' := Aside0.mk H
   clear H
   have hnb10 := NB350_351.out
   have hnc10 := NB351_350.out
   obtain ⟨hcz11_0, hcz11_1, hcz11_2, hfz11_0, hfz11_1, hfz11_2⟩ := CZ3 BK350
   obtain ⟨hcz12_0, hcz12_1, hfz12_0, hfz12_1⟩ := CZ2 BK351
   go_wp2_with (first | ((with_reducible refine GC 50 rfl ?_); refine GL 15 Try.func50 (impl_WalkerOk.calls a0_0 a0_1 a0_2 a1_0 a1_1 true _ A7.out) ?_; rintro e w13 ⟨rfl, hb⟩; refine ⟨_, rfl, ?_⟩; replace BK350 := BB BK350 hb; replace BK351 := BB BK351 hb; replace HB := BS HB hb; clear hb) | (go_at_call 39; (with_reducible refine (impl_areTurns.calls _ _ l2 40 t353 _ ?side1 ?side2 A9.out).mono ?_); (case side1 => repeat (first | exact (Kd.C_below HR2.out HB.out) | (with_reducible refine Kd.C_alloc ?_ _) | (with_reducible refine Kd.C_drewN ?_ _) | (with_reducible refine Kd.C_drew ?_))); (case side2 => exact HC2.out); rintro e w14 ⟨rfl, hb⟩; replace BK350 := BB BK350 hb; replace BK351 := BB BK351 hb; replace HB := BS HB hb; clear hb))
   go_meet
   case rel => exact ⟨_, (!t353), VZ, H', ⟨by first | omega | exact Nat.le_refl _⟩, ⟨BKZ⟩, ⟨BKZ⟩, ⟨BZ⟩⟩
  ·replace c8 := Bool.eq_false_iff.mpr c8
   subst c8
   replace H := IE H
   have H' := Aside0.mk H
   clear H
   have hnb15 := NB350_351.out
   have hnc15 := NB351_350.out
   obtain ⟨hcz16_0, hcz16_1, hcz16_2, hfz16_0, hfz16_1, hfz16_2⟩ := CZ3 BK350
   obtain ⟨hcz17_0, hcz17_1, hfz17_0, hfz17_1⟩ := CZ2 BK351
   go_wp2_with (first | ((with_reducible refine GC 50 rfl ?_); refine GL 15 Try.func50 (impl_WalkerOk.calls a0_0 a0_1 a0_2 a1_0 a1_1 false _ A7.out) ?_; rintro e w18 ⟨rfl, hb⟩; refine ⟨_, rfl, ?_⟩; replace BK350 := BB BK350 hb; replace BK351 := BB BK351 hb; replace HB := BS HB hb; clear hb))
   go_meet
   case rel => exact ⟨_, (true), VZ, H', ⟨by first | omega | exact Nat.le_refl _⟩, ⟨BKZ⟩, ⟨BKZ⟩, ⟨BZ⟩⟩
 case rest =>
  clear HC4
  (try clear c2)
  obtain ⟨kq, x21_3, rfl, HA, HJ3, BK350, BK351, HB⟩ := hcut
  cases kq with
  | zero => exact absurd HA.out (by simp [impl_ReportOf.j0])
  | succ kj3 =>
   have H := HA.out
   clear HA
   simp only [impl_ReportOf.j0] at H
   by_cases c19 : x21_3 = true
   ·subst c19
    replace H := IT H
    simp only [Option.some.injEq, Prod.mk.injEq] at H
    obtain ⟨rfl, rfl⟩ := H
    go_wp2
    go_ret2
    exact ⟨_, RZ, by first | exact Kd.R_nil _ _ _ _ _ | exact Kd.N_nil _ _ _ _ _ | exact Kd.V_nil _ _ _ _ _ | exact Kd.Q_nil _ _ _ _ _ | exact Kd.S_nil _ _ _ _ _, BZ⟩
   ·replace c19 := Bool.eq_false_iff.mpr c19
    subst c19
    replace H := IE H
    obtain ⟨t354, A20, H⟩ := BD H
    generalize hy355 : ((([t354] : List Int)) : List Int) = y355 at H
    have Ny355 := Aside0.mk hy355.symm
    clear hy355
    have H' := Aside0.mk H
    clear H
    have hnb21 := NB350_351.out
    have hnc21 := NB351_350.out
    obtain ⟨hcz22_0, hcz22_1, hcz22_2, hfz22_0, hfz22_1, hfz22_2⟩ := CZ3 BK350
    obtain ⟨hcz23_0, hcz23_1, hfz23_0, hfz23_1⟩ := CZ2 BK351
    go_wp2_with (first | ((with_reducible refine GC 25 rfl ?_); refine GL 24 Try.func25 (impl_PatternAt.calls kj3 a0_0 a0_1 a0_2 a1_0 a1_1 t354 _ A20.out) ?_; rintro e w24 ⟨rfl, hb⟩; refine ⟨_, rfl, ?_⟩; replace BK350 := BB BK350 hb; replace BK351 := BB BK351 hb; replace HB := BS HB hb; clear hb) | ((with_reducible refine gate_dst (N := 25) rfl ?_); refine Kd.R_lit (Kd.int .i64) _ 3 ?hg (N := 25) ?hd (xs := ([t354] : List Int)) (inner := [.int .i64 t354]) (ok := fun _ => True) (okp := fun _ => True) ?hr ?hp (fun _ hk => hk) trivial (Below.refl _ _) (Nat.le_refl _) (by simp) ?_; (case hd => rfl); (case hg => rfl); (case hr => first | (go_simp; done) | (go_simp; rfl)); (case hp => exact (Reps.one (show Kd.M (Kd.int .i64) _ _ _ t354 [.int .i64 t354] from rfl) (Reps.none _ _))); intro v356 w25 ho26 hb hg_ hnew_; clear hg_ hnew_; (first | rw [← Ny355.out] at ho26 | (simp only [Int.reduceToNat] at ho26; rw [← Ny355.out] at ho26)); have HO357 := Aside0.mk (Kd.R_lower ho26 (below_size BZ)); replace BK350 := BB BK350 hb; replace BK351 := BB BK351 hb; replace HB := BS HB hb; clear hb ho26))
    go_loopg [8, 28] kj3 (fun kq v8 v28 w' => ∃ (x8_2 : List Int) (x28_2 : Int) (x352000_2 : Int) (x352001_2 : Int), v28 = .int .i64 x28_2 ∧ Aside0 (impl_ReportOf.l0 kq x8_2 l2 (l2.length : Int) x28_2 a0_0 a0_1 a0_2 x352000_2 x352001_2 = some (r1, r2)) ∧ Aside0 (kq ≤ kj3) ∧ Aside0 (Kd.R (Kd.int .i64) 3 w' w.heap.size (fun _ => True) v8 x8_2) ∧ Aside0 (w'.heap[gb350]? = some (.cells #[.int .i64 a0_0, .int .i64 a0_1, .int .i64 a0_2] 30 (0, 0))) ∧ Aside0 (w'.heap[gb351]? = some (.cells #[.int .i64 x352000_2, .int .i64 x352001_2] 43 (0, 0))) ∧ Aside0 (Below w.heap.size w w'))
    case atStart => exact ⟨(y355), (0), (a1_0), (a1_1), VZ, H', ⟨Nat.le_refl _⟩, ⟨KR HO357⟩, ⟨BKZ⟩, ⟨BKZ⟩, ⟨BZ⟩⟩
    case round =>
     clear H'
     (try clear c2); (try clear c19); (try clear hcz22_0); (try clear hcz22_1); (try clear hcz22_2); (try clear hcz23_0); (try clear hcz23_1); (try clear hfz22_0); (try clear hfz22_1); (try clear hfz22_2); (try clear hfz23_0); (try clear hfz23_1)
     obtain ⟨x8_2, x28_2, x352000_2, x352001_2, rfl, HA, HK2, HO_8, BK350, BK351, HB⟩ := hrel
     cases gk with
     | zero => exact absurd HA.out (by simp [impl_ReportOf.l0])
     | succ k2 =>
      have H := HA.out
      clear HA
      simp only [impl_ReportOf.l0] at H
      by_cases c27 : x28_2 < (l2.length : Int)
      ·rw [if_pos c27] at H
       have c27b0 := decide_eq_true c27
       clear c27
       by_cases c28 : 0 ≤ x28_2
       ·rw [if_pos c28] at H
        have c28b0 := decide_eq_true c28
        clear c28
        by_cases c29 : x28_2 < (l2.length : Int)
        ·rw [if_pos c29] at H
         have c29b0 := decide_eq_true c29
         clear c29
         obtain ⟨⟨t359, t360, t361⟩, A30, H⟩ := BD H
         dsimp only at H
         by_cases c31 : t361 = true
         ·subst c31
          replace H := IT H
          obtain ⟨t363, A32, H⟩ := BD H
          by_cases c33 : x8_2.length < 17592186044416
          ·rw [if_pos c33] at H
           have LMc33 := Aside0.mk c33
           clear c33
           generalize hy364 : ((x8_2 ++ [t363]) : List Int) = y364 at H
           have Ny364 := Aside0.mk hy364.symm
           clear hy364
           have H' := Aside0.mk H
           clear H
           have p358 : 0 ≤ (x28_2 : Int) := of_decide_eq_true PZ
           have q358 : x28_2 < (l2.length : Int) := of_decide_eq_true PZ
           obtain ⟨ad358, e358, hx358_0⟩ := Kd.at_int HR2.out x28_2 p358 q358
           cases e358
           (try replace hx358_0 := (HB.out.cell (World.block_lt_of_cell? w _ hx358_0)).trans hx358_0)
           replace p358 := eq_true p358
           replace q358 := eq_true q358
           have hnb34 := NB350_351.out
           have hnc34 := NB351_350.out
           obtain ⟨hcz35_0, hcz35_1, hcz35_2, hfz35_0, hfz35_1, hfz35_2⟩ := CZ3 BK350
           obtain ⟨hcz36_0, hcz36_1, hfz36_0, hfz36_1⟩ := CZ2 BK351
           go_wp2_with (first | ((with_reducible refine GC 41 rfl ?_); refine GL 36 Try.func41 (impl_went.calls k2 a0_0 a0_1 a0_2 x352000_2 x352001_2 (rd l2 x28_2) t359 t360 true _ A30.out) ?_; rintro e w37 ⟨rfl, hb⟩; refine ⟨_, rfl, ?_⟩; replace HO_8 := RB HO_8 hb; replace BK350 := BB BK350 hb; replace BK351 := BB BK351 hb; replace HB := BS HB hb; clear hb) | ((with_reducible refine gate_dst (N := 11) rfl ?_); refine BX 11 43 #[.int .i64 0, .int .i64 0] ?_; intro gb362 hg w38 hbox hb; have BK362 := Aside0.mk (hbox); have GW362 := (GS hg : Aside0 (w.heap.size ≤ gb362)); have GE362 := GW362; have NB350_362 := NL BK350 hg; have NB362_350 := NG BK350 hg; have NB351_362 := NL BK351 hg; have NB362_351 := NG BK351 hg; replace HO_8 := RB HO_8 hb; replace BK350 := BB BK350 hb; replace BK351 := BB BK351 hb; replace HB := BS HB hb; clear hb hbox hg; have hnb39 := NB362_350.out; have hnc39 := NB350_362.out; have hnb40 := NB362_351.out; have hnc40 := NB351_362.out; obtain ⟨hcz41_0, hcz41_1, hfz41_0, hfz41_1⟩ := CZ2 BK362; obtain ⟨hcz42_0, hcz42_1, hfz42_0, hfz42_1⟩ := CZ2 BK351; obtain ⟨hcz43_0, hcz43_1, hcz43_2, hfz43_0, hfz43_1, hfz43_2⟩ := CZ3 BK350) | ((with_reducible refine GC 25 rfl ?_); refine GL 45 Try.func25 (impl_PatternAt.calls k2 a0_0 a0_1 a0_2 t359 t360 t363 _ A32.out) ?_; rintro e w44 ⟨rfl, hb⟩; refine ⟨_, rfl, ?_⟩; replace HO_8 := Aside0.mk (Kd.R_below (RT ((Kd.R_mono (Kd.R_mono (Kd.R_far (p := ⟨gb351, 1, none⟩) (Kd.R_far (p := ⟨gb351, 0, none⟩) (Kd.R_far (p := ⟨gb362, 1, none⟩) (Kd.R_far (p := ⟨gb362, 0, none⟩) (Kd.R_types (Kd.R_types HO_8.out BK362.out (by decide)) BK351.out (by decide)) (fun _ hk => hk.1.2) (.int .i64 t359)) (fun _ hk => hk.1.2) (.int .i64 t360)) (fun _ hk => hk.2) (.int .i64 t359)) (fun _ hk => hk.2) (.int .i64 t360)) (fun _ h_ => h_.1)) (fun _ h_ => h_.1)))) hb); replace BK350 := Aside0.mk (blk_below (g := gb350) (o := .cells #[.int .i64 a0_0, .int .i64 a0_1, .int .i64 a0_2] 30 (0, 0)) (by refine BT ?_; refine blk_far ?_ NB350_351.out _; refine BT ?_; refine blk_far ?_ NB350_351.out _; refine BT ?_; refine blk_far ?_ NB350_362.out _; refine BT ?_; refine blk_far ?_ NB350_362.out _; refine BT ?_; exact BK350.out) hb); replace BK351 := Aside0.mk (blk_below (g := gb351) (o := .cells #[.int .i64 t359, .int .i64 t360] 43 (0, 0)) (by refine BT ?_; refine blk_put (cs := #[.int .i64 t359, .int .i64 x352001_2]) ?_ 1 _ rfl; refine BT ?_; refine blk_put (cs := #[.int .i64 x352000_2, .int .i64 x352001_2]) ?_ 0 _ rfl; refine BT ?_; refine blk_far ?_ NB351_362.out _; refine BT ?_; refine blk_far ?_ NB351_362.out _; refine BT ?_; exact BK351.out) hb); replace BK362 := Aside0.mk (blk_below (g := gb362) (o := .cells #[.int .i64 t359, .int .i64 t360] 43 (0, 0)) (by refine BT ?_; refine blk_far ?_ NB362_351.out _; refine BT ?_; refine blk_far ?_ NB362_351.out _; refine BT ?_; refine blk_put (cs := #[.int .i64 t359, .int .i64 0]) ?_ 1 _ rfl; refine BT ?_; refine blk_put (cs := #[.int .i64 0, .int .i64 0]) ?_ 0 _ rfl; refine BT ?_; exact BK362.out) hb); replace HB := BS HB hb; clear hb) | ((with_reducible refine gate_builtin (b := .append) (xs := #[.tmp 42, .tmp 46]) rfl ?_); at_builtin; refine Kd.R_append (Kd.int .i64) (w0 := w) w.heap.size rfl (.tmp 42) (.tmp 46) 26 3 (.int .i64 0) 8 rfl Try.underlying26 info3 rfl (by decide) (by omega) u8 x8_2 t363 [.int .i64 t363] (fun _ => True) (fun _ => False) rfl rfl ?aP (fun _ hk => hk.elim) ?aF ?aO ?aB ?aS ?aL ?_; (case aP => exact rfl); (case aB => exact BZ); (case aF => exact (fun _ _ => trivial)); (case aO => exact (KR HO_8)); (case aS => exact (below_size BZ)); (case aL => have := LMc33.out; omega); intro v365 w45 ho hb hg hat; rw [← Ny364.out] at ho; have n0_ := Aside0.mk (blk_grown (g := gb350) (o := .cells #[.int .i64 a0_0, .int .i64 a0_1, .int .i64 a0_2] 30 (0, 0)) BKZ hg (Kd.R_ne HO_8.out BK350.out (by decide))); have n1_ := Aside0.mk (blk_grown (g := gb351) (o := .cells #[.int .i64 t359, .int .i64 t360] 43 (0, 0)) BKZ hg (Kd.R_ne HO_8.out BK351.out (by decide))); have n2_ := Aside0.mk (blk_grown (g := gb362) (o := .cells #[.int .i64 t359, .int .i64 t360] 43 (0, 0)) BKZ hg (Kd.R_ne HO_8.out BK362.out (by decide))); have n3_ := Aside0.mk (hb); have n4_ := Aside0.mk (ho); clear BK350; clear BK351; clear BK362; clear HB; clear HO_8; have BK350 := n0_; have BK351 := n1_; have BK362 := n2_; have HB := n3_; have HO366 := n4_; clear n0_ n1_ n2_ n3_ n4_; clear ho hb hg hat))
           go_roundg k2
           case measure => have := HJ3.out; have := HK2.out; omega
           case rel => exact ⟨(y364), (wrap64 (x28_2 + 1)), (t359), (t360), VZ, H', ⟨by have := HJ3.out; have := HK2.out; omega⟩, ⟨KR HO366⟩, ⟨BKZ⟩, ⟨BKZ⟩, ⟨BZ⟩⟩
          ·rw [if_neg c33] at H
           exact absurd H (by simp)
         ·replace c31 := Bool.eq_false_iff.mpr c31
          subst c31
          replace H := IE H
          simp only [Option.some.injEq, Prod.mk.injEq] at H
          obtain ⟨rfl, rfl⟩ := H
          have p358 : 0 ≤ (x28_2 : Int) := of_decide_eq_true PZ
          have q358 : x28_2 < (l2.length : Int) := of_decide_eq_true PZ
          obtain ⟨ad358, e358, hx358_0⟩ := Kd.at_int HR2.out x28_2 p358 q358
          cases e358
          (try replace hx358_0 := (HB.out.cell (World.block_lt_of_cell? w _ hx358_0)).trans hx358_0)
          replace p358 := eq_true p358
          replace q358 := eq_true q358
          have hnb46 := NB350_351.out
          have hnc46 := NB351_350.out
          obtain ⟨hcz47_0, hcz47_1, hcz47_2, hfz47_0, hfz47_1, hfz47_2⟩ := CZ3 BK350
          obtain ⟨hcz48_0, hcz48_1, hfz48_0, hfz48_1⟩ := CZ2 BK351
          go_wp2_with (first | ((with_reducible refine GC 41 rfl ?_); refine GL 36 Try.func41 (impl_went.calls k2 a0_0 a0_1 a0_2 x352000_2 x352001_2 (rd l2 x28_2) t359 t360 false _ A30.out) ?_; rintro e w49 ⟨rfl, hb⟩; refine ⟨_, rfl, ?_⟩; replace HO_8 := RB HO_8 hb; replace BK350 := BB BK350 hb; replace BK351 := BB BK351 hb; replace HB := BS HB hb; clear hb) | ((with_reducible refine gate_dst (N := 11) rfl ?_); refine BX 11 43 #[.int .i64 0, .int .i64 0] ?_; intro gb362 hg w50 hbox hb; have BK362 := Aside0.mk (hbox); have GW362 := (GS hg : Aside0 (w.heap.size ≤ gb362)); have GE362 := GW362; have NB350_362 := NL BK350 hg; have NB362_350 := NG BK350 hg; have NB351_362 := NL BK351 hg; have NB362_351 := NG BK351 hg; replace HO_8 := RB HO_8 hb; replace BK350 := BB BK350 hb; replace BK351 := BB BK351 hb; replace HB := BS HB hb; clear hb hbox hg; have hnb51 := NB362_350.out; have hnc51 := NB350_362.out; have hnb52 := NB362_351.out; have hnc52 := NB351_362.out; obtain ⟨hcz53_0, hcz53_1, hfz53_0, hfz53_1⟩ := CZ2 BK362))
          go_ret2
          exact ⟨_, RZ, by first | exact Kd.R_nil _ _ _ _ _ | exact Kd.N_nil _ _ _ _ _ | exact Kd.V_nil _ _ _ _ _ | exact Kd.Q_nil _ _ _ _ _ | exact Kd.S_nil _ _ _ _ _, BZ⟩
        ·exact absurd (of_decide_eq_true c27b0) c29
       ·rw [if_neg c28] at H
        exact absurd H (by simp)
      ·rw [if_neg c27] at H
       have c27b0 := decide_eq_false c27
       clear c27
       simp only [Option.some.injEq, Prod.mk.injEq] at H
       obtain ⟨rfl, rfl⟩ := H
       go_wp2
       go_ret2
       exact ⟨_, RZ, KR HO_8, BZ⟩

def laws_at.f (l0 : List Int) (a1 : Int) : Option (Int) := if (l0.length : Int) = 0 then (some 0) else (if 0 ≤ (Int.tmod (wrap64 ((wrap64 (a1 * 5)) + 1)) (l0.length : Int)) then (if (Int.tmod (wrap64 ((wrap64 (a1 * 5)) + 1)) (l0.length : Int)) < (l0.length : Int) then (some (wrap64 (rd l0 (Int.tmod (wrap64 ((wrap64 (a1 * 5)) + 1)) (l0.length : Int))))) else (none)) else (none))
set_option maxHeartbeats 8000000 in
set_option maxRecDepth 100000 in
theorem laws_at.calls (A0 : Option Addr) (c0 : Nat) (l0 : List Int) (a1 : Int) (r : Int) (w : World) (hr0 : Kd.C (Kd.int .u8) w A0 l0.length l0) (hc0 : l0.length ≤ c0) (h : laws_at.f l0 a1 = some r) :
  Calls Try.prog 23 #[.slice A0 l0.length c0, .int .i64 a1] w fun e w' => e = .returned (.int .i64 r) ∧ Drawn0 w w' := by
 have HR0 := Aside0.mk hr0
 have HC0 := Aside0.mk hc0
 clear hr0 hc0
 have H := h
 unfold laws_at.f at H
 clear h
 by_cases c3 : (l0.length : Int) = 0
 ·rw [if_pos c3] at H
  obtain ⟨c3b0, c3b1⟩ := QT c3
  clear c3
  obtain rfl := Option.some.inj H
  go_enter Try.func23, Try.ntmps23
  go_wp2
  go_ret
  exact ⟨by first | rfl | (simp; done) | (simp [*]; done), DZ⟩
 ·rw [if_neg c3] at H
  obtain ⟨c3b0, c3b1⟩ := QF c3
  have c3b2 : ¬ (l0 = []) := fun h_ => c3 (by rw [h_]; rfl)
  obtain ⟨ji4, hji4⟩ : ∃ j_ : Int, (Int.tmod (wrap64 ((wrap64 (a1 * 5)) + 1)) (l0.length : Int)) = j_ := ⟨_, rfl⟩
  replace H : (if 0 ≤ (ji4) then (if (ji4) < (l0.length : Int) then (some (wrap64 (rd l0 (ji4)))) else (none)) else (none)) = some r := by first | (rw [hji4] at H; exact H) | (simp only [hji4] at H ⊢; exact H)
  by_cases c5 : 0 ≤ (ji4)
  ·rw [if_pos c5] at H
   have c5b0 := decide_eq_true c5
   clear c5
   by_cases c6 : (ji4) < (l0.length : Int)
   ·rw [if_pos c6] at H
    have c6b0 := decide_eq_true c6
    clear c6
    obtain rfl := Option.some.inj H
    have p367 : 0 ≤ ((ji4) : Int) := of_decide_eq_true PZ
    have q367 : (ji4) < (l0.length : Int) := of_decide_eq_true PZ
    obtain ⟨ad367, e367, hx367_0⟩ := Kd.at_int HR0.out (ji4) p367 q367
    cases e367
    replace p367 := eq_true p367
    replace q367 := eq_true q367
    go_enter Try.func23, Try.ntmps23
    go_wp2
    go_ret
    exact ⟨by first | rfl | (simp; done) | (simp only [← hji4] <;> (first | rfl | simp)) | (simp [*]; done), DZ⟩
   ·rw [if_neg c6] at H
    exact absurd H (by simp)
  ·rw [if_neg c5] at H
   exact absurd H (by simp)

end Go.Proofs.Ytfpomjnhgcmgoaa.P

