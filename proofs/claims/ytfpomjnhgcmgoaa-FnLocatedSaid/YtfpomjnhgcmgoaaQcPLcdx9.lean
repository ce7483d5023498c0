/- Proved here: calls of functions of the program answer as the plain functions beside them say. Conditions: each theorem names its own. Written by a program of this session (hprint.py) out of the translation. -/
import Derived.Test.YtfpomjnhgcmgoaaQcPLcdx0
import Derived.Test.YtfpomjnhgcmgoaaQcPLcdx2
import Derived.Test.YtfpomjnhgcmgoaaQcPLcdx3
namespace Go.Proofs.Ytfpomjnhgcmgoaa.P
open Go.RowKit Go.Proofs.YtfpomjnhgcmgoaaW.PrintWords Go.Proofs.YtfpomjnhgcmgoaaW.PrintLast Go.Proofs.YtfpomjnhgcmgoaaW.PrintMore
attribute [local go_sem] max2_int min2_int max_two min_two max_three min_three max_four min_four   -- for this text's walks alone
set_option linter.unusedVariables false
set_option linter.unusedSimpArgs false

mutual
def impl_alike.l0 : Nat → Int → Int → Int → Int → Int → Int → Int → Int → Int → Option (Bool)
 | 0, _, _, _, _, _, _, _, _, _ => none
 | k + 1, x3, x9, x369000, x369001, x369002, x370000, x370001, x371000, x371001 => if x3 > 0 then (impl_alike.j1 k x3 x9 (decide (x9 < 4)) x369000 x369001 x369002 x370000 x370001 x371000 x371001) else (impl_alike.j1 k x3 x9 false x369000 x369001 x369002 x370000 x370001 x371000 x371001)
def impl_alike.j1 : Nat → Int → Int → Bool → Int → Int → Int → Int → Int → Int → Int → Option (Bool)
 | 0, _, _, _, _, _, _, _, _, _, _ => none
 | k + 1, x3, x9, x26, x369000, x369001, x369002, x370000, x370001, x371000, x371001 => if x26 = true then ((impl_went.f k x369000 x369001 x369002 x370000 x370001 x9).bind fun bt373 => ((impl_went.f k x369000 x369001 x369002 x371000 x371001 x9).bind fun bt377 => (if (bt373.2.2 != bt377.2.2) = true then (some false) else (if bt373.2.2 = true then ((impl_alike.f k x369000 x369001 x369002 bt373.1 bt373.2.1 bt377.1 bt377.2.1 (wrap64 (x3 - 1))).bind fun t381 => (if t381 = true then (impl_alike.l0 k x3 (wrap64 (x9 + 1)) x369000 x369001 x369002 x370000 x370001 x371000 x371001) else (some false))) else (impl_alike.l0 k x3 (wrap64 (x9 + 1)) x369000 x369001 x369002 x370000 x370001 x371000 x371001))))) else (some true)
def impl_alike.f : Nat → Int → Int → Int → Int → Int → Int → Int → Int → Option (Bool)
 | 0, _, _, _, _, _, _, _, _ => none
 | k + 1, a0_0, a0_1, a0_2, a1_0, a1_1, a2_0, a2_1, a3 => (impl_PatternAt.f k a0_0 a0_1 a0_2 a1_0 a1_1).bind fun t371 => ((impl_PatternAt.f k a0_0 a0_1 a0_2 a2_0 a2_1).bind fun t372 => (if t371 = t372 then (impl_alike.l0 k a3 0 a0_0 a0_1 a0_2 a1_0 a1_1 a2_0 a2_1) else (some false)))
end
set_option maxHeartbeats 8000000 in
set_option maxRecDepth 100000 in
theorem impl_alike.calls (k : Nat) : ∀ (a0_0 : Int) (a0_1 : Int) (a0_2 : Int) (a1_0 : Int) (a1_1 : Int) (a2_0 : Int) (a2_1 : Int) (a3 : Int) (r : Bool) (w : World) (h : impl_alike.f k a0_0 a0_1 a0_2 a1_0 a1_1 a2_0 a2_1 a3 = some r),
  Calls Try.prog 55 #[.agg #[.int .i64 a0_0, .int .i64 a0_1, .int .i64 a0_2], .agg #[.int .i64 a1_0, .int .i64 a1_1], .agg #[.int .i64 a2_0, .int .i64 a2_1], .int .i64 a3] w fun e w' => e = .returned (.bool r) ∧ Below w.heap.size w w' := by
 induction k using Nat.strongRecOn with
 | _ k ih =>
 intro a0_0 a0_1 a0_2 a1_0 a1_1 a2_0 a2_1 a3 r w h
 cases k with
 | zero => exact absurd h (by simp [impl_alike.f])
 | succ k =>
 simp only [impl_alike.f] at h
 have hu30 := Try.underlying30
 have hu43 := Try.underlying43
 have HB := Aside0.mk (Below.refl w.heap.size w)
 have H := h
 unfold impl_alike.f at H
 clear h
 obtain ⟨t371, A5, H⟩ := BD H
 obtain ⟨t372, A6, H⟩ := BD H
 by_cases c7 : t371 = t372
 ·rw [if_pos c7] at H
  obtain ⟨c7b0, c7b1⟩ := QT c7
  clear c7
  have H' := Aside0.mk H
  clear H
  go_enter Try.func55, Try.ntmps55
  try go_wp2_with (first | ((with_reducible refine gate_dst (N := 4) rfl ?_); refine BX 4 30 #[.int .i64 a0_0, .int .i64 a0_1, .int .i64 a0_2] ?_; intro gb368 hg w8 hbox hb; have BK368 := Aside0.mk (hbox); have GW368 := (GS hg : Aside0 (w.heap.size ≤ gb368)); have GE368 := GW368; replace HB := BS HB hb; clear hb hbox hg) | ((with_reducible refine gate_dst (N := 5) rfl ?_); refine BX 5 43 #[.int .i64 a1_0, .int .i64 a1_1] ?_; intro gb369 hg w9 hbox hb; have BK369 := Aside0.mk (hbox); have GW369 := (GS hg : Aside0 (w.heap.size ≤ gb369)); have GE369 := GW369; have NB368_369 := NL BK368 hg; have NB369_368 := NG BK368 hg; replace BK368 := BB BK368 hb; replace HB := BS HB hb; clear hb hbox hg) | ((with_reducible refine gate_dst (N := 6) rfl ?_); refine BX 6 43 #[.int .i64 a2_0, .int .i64 a2_1] ?_; intro gb370 hg w10 hbox hb; have BK370 := Aside0.mk (hbox); have GW370 := (GS hg : Aside0 (w.heap.size ≤ gb370)); have GE370 := GW370; have NB368_370 := NL BK368 hg; have NB370_368 := NG BK368 hg; have NB369_370 := NL BK369 hg; have NB370_369 := NG BK369 hg; replace BK368 := BB BK368 hb; replace BK369 := BB BK369 hb; replace HB := BS HB hb; clear hb hbox hg))
  replace BK368 := Aside0.mk (blk_drew BK368.out)
  replace BK369 := Aside0.mk (blk_drew BK369.out)
  replace BK370 := Aside0.mk (blk_drew BK370.out)
  replace HB := Aside0.mk (below_drew1 HB.out)
  refine SU 7 (fun w' => w'.cell? ⟨gb368, 0, none⟩ = some (.int .i64 a0_0) ∧ w'.cell? ⟨gb368, 1, none⟩ = some (.int .i64 a0_1) ∧ w'.cell? ⟨gb368, 2, none⟩ = some (.int .i64 a0_2) ∧ w'.cell? ⟨gb369, 0, none⟩ = some (.int .i64 a1_0) ∧ w'.cell? ⟨gb369, 1, none⟩ = some (.int .i64 a1_1) ∧ w'.cell? ⟨gb370, 0, none⟩ = some (.int .i64 a2_0) ∧ w'.cell? ⟨gb370, 1, none⟩ = some (.int .i64 a2_1)) [] ⟨CE BK368 0, CE BK368 1, CE BK368 2, CE BK369 0, CE BK369 1, CE BK370 0, CE BK370 1⟩ (fun hHeld => ?_)
  generalize w10.drew = w11 at BK368 BK369 BK370 HB hHeld ⊢
  refine TV 0 14 hHeld ?_
  refine TV 1 15 hHeld ?_
  refine TV 3 17 hHeld ?_
  refine TV 4 18 hHeld ?_
  refine OH 2 16 Try.func25 (impl_PatternAt.calls k a0_0 a0_1 a0_2 a1_0 a1_1 t371 _ A5.out) (fun K hK => ?_)
  rintro e w12 ⟨rfl, hb⟩
  refine ⟨_, rfl, ?_⟩
  replace BK368 := BB BK368 hb
  replace BK369 := BB BK369 hb
  replace BK370 := BB BK370 hb
  replace HB := BS HB hb
  clear hb
  refine HN hK ⟨CE BK368 0, CE BK368 1, CE BK368 2, CE BK369 0, CE BK369 1, CE BK370 0, CE BK370 1⟩ (fun hHeld => ?_)
  clear hK K
  refine OH 5 19 Try.func25 (impl_PatternAt.calls k a0_0 a0_1 a0_2 a2_0 a2_1 t372 _ A6.out) (fun K hK => ?_)
  rintro e w13 ⟨rfl, hb⟩
  refine ⟨_, rfl, ?_⟩
  replace BK368 := BB BK368 hb
  replace BK369 := BB BK369 hb
  replace BK370 := BB BK370 hb
  replace HB := BS HB hb
  clear hb
  refine HN hK ⟨CE BK368 0, CE BK368 1, CE BK368 2, CE BK369 0, CE BK369 1, CE BK370 0, CE BK370 1⟩ (fun hHeld => ?_)
  clear hK K
  refine PV 6 20 ?_
  refine done_ (by kernel_rfl) ?_
  try go_wp2
  go_loopg [9] k (fun kq v9 w' => ∃ (x9_1 : Int), v9 = .int .i64 x9_1 ∧ Aside0 (impl_alike.l0 kq a3 x9_1 a0_0 a0_1 a0_2 a1_0 a1_1 a2_0 a2_1 = some r) ∧ Aside0 (kq ≤ k) ∧ Aside0 (w'.heap[gb368]? = some (.cells #[.int .i64 a0_0, .int .i64 a0_1, .int .i64 a0_2] 30 (0, 0))) ∧ Aside0 (w'.heap[gb369]? = some (.cells #[.int .i64 a1_0, .int .i64 a1_1] 43 (0, 0))) ∧ Aside0 (w'.heap[gb370]? = some (.cells #[.int .i64 a2_0, .int .i64 a2_1] 43 (0, 0))) ∧ Aside0 (Below w.heap.size w w'))
  case atStart => exact ⟨(0), VZ, H', ⟨Nat.le_refl _⟩, ⟨BKZ⟩, ⟨BKZ⟩, ⟨BKZ⟩, ⟨BZ⟩⟩
  case round =>
   clear H'
   (try clear c7); (try clear c7b0); (try clear c7b1)
   obtain ⟨x9_1, rfl, HA, HK1, BK368, BK369, BK370, HB⟩ := hrel
   cases gk with
   | zero => exact absurd HA.out (by simp [impl_alike.l0])
   | succ k1 =>
    have H := HA.out
    clear HA
    simp only [impl_alike.l0] at H
    have HC14 := Aside0.mk H
    clear H
    go_upto_region 4 with (fail)
    go_cut [26] (fun v26 wc => ∃ (kq : Nat) (x26_13 : Bool), v26 = .bool x26_13 ∧ Aside0 (impl_alike.j1 kq a3 x9_1 x26_13 a0_0 a0_1 a0_2 a1_0 a1_1 a2_0 a2_1 = some r) ∧ Aside0 (kq ≤ k1) ∧ Aside0 (wc.heap[gb368]? = some (.cells #[.int .i64 a0_0, .int .i64 a0_1, .int .i64 a0_2] 30 (0, 0))) ∧ Aside0 (wc.heap[gb369]? = some (.cells #[.int .i64 a1_0, .int .i64 a1_1] 43 (0, 0))) ∧ Aside0 (wc.heap[gb370]? = some (.cells #[.int .i64 a2_0, .int .i64 a2_1] 43 (0, 0))) ∧ Aside0 (Below w.heap.size w wc))
    case first =>
     have H := HC14.out
     clear HC14
     by_cases c15 : a3 > 0
     ·rw [if_pos c15] at H
      have c15b0 := decide_eq_true c15
      clear c15
      (first | rw [c15b0] | (simp only [i64_w, i32_w]; rw [c15b0]) | skip)
      have H' := Aside0.mk H
      clear H
      go_wp2
      go_meet
      case rel => exact ⟨_, (decide (x9_1 < 4)), VZ, H', ⟨by have := HK1.out; first | omega | exact Nat.le_refl _⟩, ⟨BKZ⟩, ⟨BKZ⟩, ⟨BKZ⟩, ⟨BZ⟩⟩
     ·rw [if_neg c15] at H
      have c15b0 := decide_eq_false c15
      clear c15
      (first | rw [c15b0] | (simp only [i64_w, i32_w]; rw [c15b0]) | skip)
      have H' := Aside0.mk H
      clear H
      go_wp2
      go_meet
      case rel => exact ⟨_, (false), VZ, H', ⟨by have := HK1.out; first | omega | exact Nat.le_refl _⟩, ⟨BKZ⟩, ⟨BKZ⟩, ⟨BKZ⟩, ⟨BZ⟩⟩
    case rest =>
     clear HC14
     (try clear c7); (try clear c7b0); (try clear c7b1)
     obtain ⟨kq, x26_13, rfl, HA, HJ13, BK368, BK369, BK370, HB⟩ := hcut
     cases kq with
     | zero => exact absurd HA.out (by simp [impl_alike.j1])
     | succ kj13 =>
      have H := HA.out
      clear HA
      simp only [impl_alike.j1] at H
      by_cases c16 : x26_13 = true
      ·subst c16
       replace H := IT H
       obtain ⟨⟨t373, t374, t375⟩, A17, H⟩ := BD H
       dsimp only at H
       obtain ⟨⟨t377, t378, t379⟩, A18, H⟩ := BD H
       dsimp only at H
       by_cases c19 : (t375 != t379) = true
       ·rw [if_pos c19] at H
        have c19b0 : (t375 != t379) = true := c19
        (try (have c19b1 : decide (t375 = t379) = false := by simpa using c19))
        (try (have c19b2 : (t375 == t379) = false := by simpa using c19))
        (try (have c19b3 : ¬ (t375 = t379) := by simpa using c19))
        clear c19
        obtain rfl := Option.some.inj H
        have hnb20 := NB368_369.out
        have hnc20 := NB369_368.out
        have hnb21 := NB368_370.out
        have hnc21 := NB370_368.out
        obtain ⟨hcz22_0, hcz22_1, hcz22_2, hfz22_0, hfz22_1, hfz22_2⟩ := CZ3 BK368
        have hnb23 := NB369_370.out
        have hnc23 := NB370_369.out
        obtain ⟨hcz24_0, hcz24_1, hfz24_0, hfz24_1⟩ := CZ2 BK369
        go_wp2_with (first | ((with_reducible refine GC 41 rfl ?_); refine GL 33 Try.func41 (impl_went.calls kj13 a0_0 a0_1 a0_2 a1_0 a1_1 x9_1 t373 t374 t375 _ A17.out) ?_; rintro e w25 ⟨rfl, hb⟩; refine ⟨_, rfl, ?_⟩; replace BK368 := BB BK368 hb; replace BK369 := BB BK369 hb; replace BK370 := BB BK370 hb; replace HB := BS HB hb; clear hb) | ((with_reducible refine gate_dst (N := 10) rfl ?_); refine BX 10 43 #[.int .i64 0, .int .i64 0] ?_; intro gb376 hg w26 hbox hb; have BK376 := Aside0.mk (hbox); have GW376 := (GS hg : Aside0 (w.heap.size ≤ gb376)); have GE376 := GW376; have NB368_376 := NL BK368 hg; have NB376_368 := NG BK368 hg; have NB369_376 := NL BK369 hg; have NB376_369 := NG BK369 hg; have NB370_376 := NL BK370 hg; have NB376_370 := NG BK370 hg; replace BK368 := BB BK368 hb; replace BK369 := BB BK369 hb; replace BK370 := BB BK370 hb; replace HB := BS HB hb; clear hb hbox hg; have hnb27 := NB376_368.out; have hnc27 := NB368_376.out; have hnb28 := NB376_369.out; have hnc28 := NB369_376.out; have hnb29 := NB376_370.out; have hnc29 := NB370_376.out; obtain ⟨hcz30_0, hcz30_1, hfz30_0, hfz30_1⟩ := CZ2 BK376; obtain ⟨hcz31_0, hcz31_1, hcz31_2, hfz31_0, hfz31_1, hfz31_2⟩ := CZ3 BK368; obtain ⟨hcz32_0, hcz32_1, hfz32_0, hfz32_1⟩ := CZ2 BK370) | ((with_reducible refine GC 41 rfl ?_); refine GL 40 Try.func41 (impl_went.calls kj13 a0_0 a0_1 a0_2 a2_0 a2_1 x9_1 t377 t378 t379 _ A18.out) ?_; rintro e w33 ⟨rfl, hb⟩; refine ⟨_, rfl, ?_⟩; replace BK368 := Aside0.mk (blk_below (BF2 NB368_376 BK368) hb); replace BK369 := Aside0.mk (blk_below (BF2 NB369_376 BK369) hb); replace BK370 := Aside0.mk (blk_below (BF2 NB370_376 BK370) hb); replace BK376 := Aside0.mk (blk_below (g := gb376) (o := .cells #[.int .i64 t373, .int .i64 t374] 43 (0, 0)) (PQ2 BK376) hb); replace HB := BS HB hb; clear hb) | ((with_reducible refine gate_dst (N := 12) rfl ?_); refine BX 12 43 #[.int .i64 0, .int .i64 0] ?_; intro gb380 hg w34 hbox hb; have BK380 := Aside0.mk (hbox); have GW380 := (GS hg : Aside0 (w.heap.size ≤ gb380)); have GE380 := GW380; have NB368_380 := NL BK368 hg; have NB380_368 := NG BK368 hg; have NB369_380 := NL BK369 hg; have NB380_369 := NG BK369 hg; have NB370_380 := NL BK370 hg; have NB380_370 := NG BK370 hg; have NB376_380 := NL BK376 hg; have NB380_376 := NG BK376 hg; replace BK368 := BB BK368 hb; replace BK369 := BB BK369 hb; replace BK370 := BB BK370 hb; replace BK376 := BB BK376 hb; replace HB := BS HB hb; clear hb hbox hg; have hnb35 := NB380_368.out; have hnc35 := NB368_380.out; have hnb36 := NB380_369.out; have hnc36 := NB369_380.out; have hnb37 := NB380_370.out; have hnc37 := NB370_380.out; have hnb38 := NB380_376.out; have hnc38 := NB376_380.out; obtain ⟨hcz39_0, hcz39_1, hfz39_0, hfz39_1⟩ := CZ2 BK380))
        go_ret
        exact ⟨RZ, BZ⟩
       ·rw [if_neg c19] at H
        have c19b0 : (t375 != t379) = false := by simpa using c19
        (try (have c19b1 : decide (t375 = t379) = true := by simpa using c19))
        (try (have c19b2 : (t375 == t379) = true := by simpa using c19))
        clear c19
        by_cases c40 : t375 = true
        ·subst c40
         replace H := IT H
         obtain ⟨t381, A41, H⟩ := BD H
         by_cases c42 : t381 = true
         ·subst c42
          replace H := IT H
          have H' := Aside0.mk H
          clear H
          have hnb43 := NB368_369.out
          have hnc43 := NB369_368.out
          have hnb44 := NB368_370.out
          have hnc44 := NB370_368.out
          obtain ⟨hcz45_0, hcz45_1, hcz45_2, hfz45_0, hfz45_1, hfz45_2⟩ := CZ3 BK368
          have hnb46 := NB369_370.out
          have hnc46 := NB370_369.out
          obtain ⟨hcz47_0, hcz47_1, hfz47_0, hfz47_1⟩ := CZ2 BK369
          go_wp2_with (first | ((with_reducible refine GC 41 rfl ?_); refine GL 33 Try.func41 (impl_went.calls kj13 a0_0 a0_1 a0_2 a1_0 a1_1 x9_1 t373 t374 true _ A17.out) ?_; rintro e w48 ⟨rfl, hb⟩; refine ⟨_, rfl, ?_⟩; replace BK368 := BB BK368 hb; replace BK369 := BB BK369 hb; replace BK370 := BB BK370 hb; replace HB := BS HB hb; clear hb) | ((with_reducible refine gate_dst (N := 10) rfl ?_); refine BX 10 43 #[.int .i64 0, .int .i64 0] ?_; intro gb376 hg w49 hbox hb; have BK376 := Aside0.mk (hbox); have GW376 := (GS hg : Aside0 (w.heap.size ≤ gb376)); have GE376 := GW376; have NB368_376 := NL BK368 hg; have NB376_368 := NG BK368 hg; have NB369_376 := NL BK369 hg; have NB376_369 := NG BK369 hg; have NB370_376 := NL BK370 hg; have NB376_370 := NG BK370 hg; replace BK368 := BB BK368 hb; replace BK369 := BB BK369 hb; replace BK370 := BB BK370 hb; replace HB := BS HB hb; clear hb hbox hg; have hnb50 := NB376_368.out; have hnc50 := NB368_376.out; have hnb51 := NB376_369.out; have hnc51 := NB369_376.out; have hnb52 := NB376_370.out; have hnc52 := NB370_376.out; obtain ⟨hcz53_0, hcz53_1, hfz53_0, hfz53_1⟩ := CZ2 BK376; obtain ⟨hcz54_0, hcz54_1, hcz54_2, hfz54_0, hfz54_1, hfz54_2⟩ := CZ3 BK368; obtain ⟨hcz55_0, hcz55_1, hfz55_0, hfz55_1⟩ := CZ2 BK370) | ((with_reducible refine GC 41 rfl ?_); refine GL 40 Try.func41 (impl_went.calls kj13 a0_0 a0_1 a0_2 a2_0 a2_1 x9_1 t377 t378 t379 _ A18.out) ?_; rintro e w56 ⟨rfl, hb⟩; refine ⟨_, rfl, ?_⟩; replace BK368 := Aside0.mk (blk_below (BF2 NB368_376 BK368) hb); replace BK369 := Aside0.mk (blk_below (BF2 NB369_376 BK369) hb); replace BK370 := Aside0.mk (blk_below (BF2 NB370_376 BK370) hb); replace BK376 := Aside0.mk (blk_below (g := gb376) (o := .cells #[.int .i64 t373, .int .i64 t374] 43 (0, 0)) (PQ2 BK376) hb); replace HB := BS HB hb; clear hb) | ((with_reducible refine gate_dst (N := 12) rfl ?_); refine BX 12 43 #[.int .i64 0, .int .i64 0] ?_; intro gb380 hg w57 hbox hb; have BK380 := Aside0.mk (hbox); have GW380 := (GS hg : Aside0 (w.heap.size ≤ gb380)); have GE380 := GW380; have NB368_380 := NL BK368 hg; have NB380_368 := NG BK368 hg; have NB369_380 := NL BK369 hg; have NB380_369 := NG BK369 hg; have NB370_380 := NL BK370 hg; have NB380_370 := NG BK370 hg; have NB376_380 := NL BK376 hg; have NB380_376 := NG BK376 hg; replace BK368 := BB BK368 hb; replace BK369 := BB BK369 hb; replace BK370 := BB BK370 hb; replace BK376 := BB BK376 hb; replace HB := BS HB hb; clear hb hbox hg; have hnb58 := NB380_368.out; have hnc58 := NB368_380.out; have hnb59 := NB380_369.out; have hnc59 := NB369_380.out; have hnb60 := NB380_370.out; have hnc60 := NB370_380.out; have hnb61 := NB380_376.out; have hnc61 := NB376_380.out; obtain ⟨hcz62_0, hcz62_1, hfz62_0, hfz62_1⟩ := CZ2 BK380; obtain ⟨hcz63_0, hcz63_1, hcz63_2, hfz63_0, hfz63_1, hfz63_2⟩ := CZ3 BK368; obtain ⟨hcz64_0, hcz64_1, hfz64_0, hfz64_1⟩ := CZ2 BK376) | (go_at_call 55; (with_reducible refine (ih kj13 (by have := HK1.out; have := HJ13.out; omega) a0_0 a0_1 a0_2 t373 t374 t377 t378 (wrap64 (a3 - 1)) true _ A41.out).mono ?_); rintro e w65 ⟨rfl, hb⟩; replace BK368 := Aside0.mk (blk_below (BF2 NB368_380 BK368) hb); replace BK369 := Aside0.mk (blk_below (BF2 NB369_380 BK369) hb); replace BK370 := Aside0.mk (blk_below (BF2 NB370_380 BK370) hb); replace BK376 := Aside0.mk (blk_below (BF2 NB376_380 BK376) hb); replace BK380 := Aside0.mk (blk_below (g := gb380) (o := .cells #[.int .i64 t377, .int .i64 t378] 43 (0, 0)) (PQ2 BK380) hb); replace HB := BS HB hb; clear hb))
          go_roundg kj13
          case measure => have := HK1.out; have := HJ13.out; omega
          case rel => exact ⟨(wrap64 (x9_1 + 1)), VZ, H', ⟨by have := HK1.out; have := HJ13.out; omega⟩, ⟨BKZ⟩, ⟨BKZ⟩, ⟨BKZ⟩, ⟨BZ⟩⟩
         ·replace c42 := Bool.eq_false_iff.mpr c42
          subst c42
          replace H := IE H
          obtain rfl := Option.some.inj H
          have hnb66 := NB368_369.out
          have hnc66 := NB369_368.out
          have hnb67 := NB368_370.out
          have hnc67 := NB370_368.out
          obtain ⟨hcz68_0, hcz68_1, hcz68_2, hfz68_0, hfz68_1, hfz68_2⟩ := CZ3 BK368
          have hnb69 := NB369_370.out
          have hnc69 := NB370_369.out
          obtain ⟨hcz70_0, hcz70_1, hfz70_0, hfz70_1⟩ := CZ2 BK369
          go_wp2_with (first | ((with_reducible refine GC 41 rfl ?_); refine GL 33 Try.func41 (impl_went.calls kj13 a0_0 a0_1 a0_2 a1_0 a1_1 x9_1 t373 t374 true _ A17.out) ?_; rintro e w71 ⟨rfl, hb⟩; refine ⟨_, rfl, ?_⟩; replace BK368 := BB BK368 hb; replace BK369 := BB BK369 hb; replace BK370 := BB BK370 hb; replace HB := BS HB hb; clear hb) | ((with_reducible refine gate_dst (N := 10) rfl ?_); refine BX 10 43 #[.int .i64 0, .int .i64 0] ?_; intro gb376 hg w72 hbox hb; have BK376 := Aside0.mk (hbox); have GW376 := (GS hg : Aside0 (w.heap.size ≤ gb376)); have GE376 := GW376; have NB368_376 := NL BK368 hg; have NB376_368 := NG BK368 hg; have NB369_376 := NL BK369 hg; have NB376_369 := NG BK369 hg; have NB370_376 := NL BK370 hg; have NB376_370 := NG BK370 hg; replace BK368 := BB BK368 hb; replace BK369 := BB BK369 hb; replace BK370 := BB BK370 hb; replace HB := BS HB hb; clear hb hbox hg; have hnb73 := NB376_368.out; have hnc73 := NB368_376.out; have hnb74 := NB376_369.out; have hnc74 := NB369_376.out; have hnb75 := NB376_370.out; have hnc75 := NB370_376.out; obtain ⟨hcz76_0, hcz76_1, hfz76_0, hfz76_1⟩ := CZ2 BK376; obtain ⟨hcz77_0, hcz77_1, hcz77_2, hfz77_0, hfz77_1, hfz77_2⟩ := CZ3 BK368; obtain ⟨hcz78_0, hcz78_1, hfz78_0, hfz78_1⟩ := CZ2 BK370) | ((with_reducible refine GC 41 rfl ?_); refine GL 40 Try.func41 (impl_went.calls kj13 a0_0 a0_1 a0_2 a2_0 a2_1 x9_1 t377 t378 t379 _ A18.out) ?_; rintro e w79 ⟨rfl, hb⟩; refine ⟨_, rfl, ?_⟩; replace BK368 := Aside0.mk (blk_below (BF2 NB368_376 BK368) hb); replace BK369 := Aside0.mk (blk_below (BF2 NB369_376 BK369) hb); replace BK370 := Aside0.mk (blk_below (BF2 NB370_376 BK370) hb); replace BK376 := Aside0.mk (blk_below (g := gb376) (o := .cells #[.int .i64 t373, .int .i64 t374] 43 (0, 0)) (PQ2 BK376) hb); replace HB := BS HB hb; clear hb) | ((with_reducible refine gate_dst (N := 12) rfl ?_); refine BX 12 43 #[.int .i64 0, .int .i64 0] ?_; intro gb380 hg w80 hbox hb; have BK380 := Aside0.mk (hbox); have GW380 := (GS hg : Aside0 (w.heap.size ≤ gb380)); have GE380 := GW380; have NB368_380 := NL BK368 hg; have NB380_368 := NG BK368 hg; have NB369_380 := NL BK369 hg; have NB380_369 := NG BK369 hg; have NB370_380 := NL BK370 hg; have NB380_370 := NG BK370 hg; have NB376_380 := NL BK376 hg; have NB380_376 := NG BK376 hg; replace BK368 := BB BK368 hb; replace BK369 := BB BK369 hb; replace BK370 := BB BK370 hb; replace BK376 := BB BK376 hb; replace HB := BS HB hb; clear hb hbox hg; have hnb81 := NB380_368.out; have hnc81 := NB368_380.out; have hnb82 := NB380_369.out; have hnc82 := NB369_380.out; have hnb83 := NB380_370.out; have hnc83 := NB370_380.out; have hnb84 := NB380_376.out; have hnc84 := NB376_380.out; obtain ⟨hcz85_0, hcz85_1, hfz85_0, hfz85_1⟩ := CZ2 BK380; obtain ⟨hcz86_0, hcz86_1, hcz86_2, hfz86_0, hfz86_1, hfz86_2⟩ := CZ3 BK368; obtain ⟨hcz87_0, hcz87_1, hfz87_0, hfz87_1⟩ := CZ2 BK376) | (go_at_call 55; (with_reducible refine (ih kj13 (by have := HK1.out; have := HJ13.out; omega) a0_0 a0_1 a0_2 t373 t374 t377 t378 (wrap64 (a3 - 1)) false _ A41.out).mono ?_); rintro e w88 ⟨rfl, hb⟩; replace BK368 := Aside0.mk (blk_below (BF2 NB368_380 BK368) hb); replace BK369 := Aside0.mk (blk_below (BF2 NB369_380 BK369) hb); replace BK370 := Aside0.mk (blk_below (BF2 NB370_380 BK370) hb); replace BK376 := Aside0.mk (blk_below (BF2 NB376_380 BK376) hb); replace BK380 := Aside0.mk (blk_below (g := gb380) (o := .cells #[.int .i64 t377, .int .i64 t378] 43 (0, 0)) (PQ2 BK380) hb); replace HB := BS HB hb; clear hb))
          go_ret
          exact ⟨RZ, BZ⟩
        ·replace c40 := Bool.eq_false_iff.mpr c40
         subst c40
         replace H := IE H
         have H' := Aside0.mk H
         clear H
         have hnb89 := NB368_369.out
         have hnc89 := NB369_368.out
         have hnb90 := NB368_370.out
         have hnc90 := NB370_368.out
         obtain ⟨hcz91_0, hcz91_1, hcz91_2, hfz91_0, hfz91_1, hfz91_2⟩ := CZ3 BK368
         have hnb92 := NB369_370.out
         have hnc92 := NB370_369.out
         obtain ⟨hcz93_0, hcz93_1, hfz93_0, hfz93_1⟩ := CZ2 BK369
         go_wp2_with (first | ((with_reducible refine GC 41 rfl ?_); refine GL 33 Try.func41 (impl_went.calls kj13 a0_0 a0_1 a0_2 a1_0 a1_1 x9_1 t373 t374 false _ A17.out) ?_; rintro e w94 ⟨rfl, hb⟩; refine ⟨_, rfl, ?_⟩; replace BK368 := BB BK368 hb; replace BK369 := BB BK369 hb; replace BK370 := BB BK370 hb; replace HB := BS HB hb; clear hb) | ((with_reducible refine gate_dst (N := 10) rfl ?_); refine BX 10 43 #[.int .i64 0, .int .i64 0] ?_; intro gb376 hg w95 hbox hb; have BK376 := Aside0.mk (hbox); have GW376 := (GS hg : Aside0 (w.heap.size ≤ gb376)); have GE376 := GW376; have NB368_376 := NL BK368 hg; have NB376_368 := NG BK368 hg; have NB369_376 := NL BK369 hg; have NB376_369 := NG BK369 hg; have NB370_376 := NL BK370 hg; have NB376_370 := NG BK370 hg; replace BK368 := BB BK368 hb; replace BK369 := BB BK369 hb; replace BK370 := BB BK370 hb; replace HB := BS HB hb; clear hb hbox hg; have hnb96 := NB376_368.out; have hnc96 := NB368_376.out; have hnb97 := NB376_369.out; have hnc97 := NB369_376.out; have hnb98 := NB376_370.out; have hnc98 := NB370_376.out; obtain ⟨hcz99_0, hcz99_1, hfz99_0, hfz99_1⟩ := CZ2 BK376; obtain ⟨hcz100_0, hcz100_1, hcz100_2, hfz100_0, hfz100_1, hfz100_2⟩ := CZ3 BK368; obtain ⟨hcz101_0, hcz101_1, hfz101_0, hfz101_1⟩ := CZ2 BK370) | ((with_reducible refine GC 41 rfl ?_); refine GL 40 Try.func41 (impl_went.calls kj13 a0_0 a0_1 a0_2 a2_0 a2_1 x9_1 t377 t378 t379 _ A18.out) ?_; rintro e w102 ⟨rfl, hb⟩; refine ⟨_, rfl, ?_⟩; replace BK368 := Aside0.mk (blk_below (BF2 NB368_376 BK368) hb); replace BK369 := Aside0.mk (blk_below (BF2 NB369_376 BK369) hb); replace BK370 := Aside0.mk (blk_below (BF2 NB370_376 BK370) hb); replace BK376 := Aside0.mk (blk_below (g := gb376) (o := .cells #[.int .i64 t373, .int .i64 t374] 43 (0, 0)) (PQ2 BK376) hb); replace HB := BS HB hb; clear hb) | ((with_reducible refine gate_dst (N := 12) rfl ?_); refine BX 12 43 #[.int .i64 0, .int .i64 0] ?_; intro gb380 hg w103 hbox hb; have BK380 := Aside0.mk (hbox); have GW380 := (GS hg : Aside0 (w.heap.size ≤ gb380)); have GE380 := GW380; have NB368_380 := NL BK368 hg; have NB380_368 := NG BK368 hg; have NB369_380 := NL BK369 hg; have NB380_369 := NG BK369 hg; have NB370_380 := NL BK370 hg; have NB380_370 := NG BK370 hg; have NB376_380 := NL BK376 hg; have NB380_376 := NG BK376 hg; replace BK368 := BB BK368 hb; replace BK369 := BB BK369 hb; replace BK370 := BB BK370 hb; replace BK376 := BB BK376 hb; replace HB := BS HB hb; clear hb hbox hg; have hnb104 := NB380_368.out; have hnc104 := NB368_380.out; have hnb105 := NB380_369.out; have hnc105 := NB369_380.out; have hnb106 := NB380_370.out; have hnc106 := NB370_380.out; have hnb107 := NB380_376.out; have hnc107 := NB376_380.out; obtain ⟨hcz108_0, hcz108_1, hfz108_0, hfz108_1⟩ := CZ2 BK380))
         go_roundg kj13
         case measure => have := HK1.out; have := HJ13.out; omega
         case rel => exact ⟨(wrap64 (x9_1 + 1)), VZ, H', ⟨by have := HK1.out; have := HJ13.out; omega⟩, ⟨BF2 NB368_380 BK368⟩, ⟨BF2 NB369_380 BK369⟩, ⟨BF2 NB370_380 BK370⟩, ⟨BZ⟩⟩
      ·replace c16 := Bool.eq_false_iff.mpr c16
       subst c16
       replace H := IE H
       obtain rfl := Option.some.inj H
       go_wp2
       go_ret
       exact ⟨RZ, BZ⟩
 ·rw [if_neg c7] at H
  obtain ⟨c7b0, c7b1⟩ := QF c7
  obtain rfl := Option.some.inj H
  go_enter Try.func55, Try.ntmps55
  try go_wp2_with (first | ((with_reducible refine gate_dst (N := 4) rfl ?_); refine BX 4 30 #[.int .i64 a0_0, .int .i64 a0_1, .int .i64 a0_2] ?_; intro gb368 hg w109 hbox hb; have BK368 := Aside0.mk (hbox); have GW368 := (GS hg : Aside0 (w.heap.size ≤ gb368)); have GE368 := GW368; replace HB := BS HB hb; clear hb hbox hg) | ((with_reducible refine gate_dst (N := 5) rfl ?_); refine BX 5 43 #[.int .i64 a1_0, .int .i64 a1_1] ?_; intro gb369 hg w110 hbox hb; have BK369 := Aside0.mk (hbox); have GW369 := (GS hg : Aside0 (w.heap.size ≤ gb369)); have GE369 := GW369; have NB368_369 := NL BK368 hg; have NB369_368 := NG BK368 hg; replace BK368 := BB BK368 hb; replace HB := BS HB hb; clear hb hbox hg) | ((with_reducible refine gate_dst (N := 6) rfl ?_); refine BX 6 43 #[.int .i64 a2_0, .int .i64 a2_1] ?_; intro gb370 hg w111 hbox hb; have BK370 := Aside0.mk (hbox); have GW370 := (GS hg : Aside0 (w.heap.size ≤ gb370)); have GE370 := GW370; have NB368_370 := NL BK368 hg; have NB370_368 := NG BK368 hg; have NB369_370 := NL BK369 hg; have NB370_369 := NG BK369 hg; replace BK368 := BB BK368 hb; replace BK369 := BB BK369 hb; replace HB := BS HB hb; clear hb hbox hg))
  replace BK368 := Aside0.mk (blk_drew BK368.out)
  replace BK369 := Aside0.mk (blk_drew BK369.out)
  replace BK370 := Aside0.mk (blk_drew BK370.out)
  replace HB := Aside0.mk (below_drew1 HB.out)
  refine SU 7 (fun w' => w'.cell? ⟨gb368, 0, none⟩ = some (.int .i64 a0_0) ∧ w'.cell? ⟨gb368, 1, none⟩ = some (.int .i64 a0_1) ∧ w'.cell? ⟨gb368, 2, none⟩ = some (.int .i64 a0_2) ∧ w'.cell? ⟨gb369, 0, none⟩ = some (.int .i64 a1_0) ∧ w'.cell? ⟨gb369, 1, none⟩ = some (.int .i64 a1_1) ∧ w'.cell? ⟨gb370, 0, none⟩ = some (.int .i64 a2_0) ∧ w'.cell? ⟨gb370, 1, none⟩ = some (.int .i64 a2_1)) [] ⟨CE BK368 0, CE BK368 1, CE BK368 2, CE BK369 0, CE BK369 1, CE BK370 0, CE BK370 1⟩ (fun hHeld => ?_)
  generalize w111.drew = w112 at BK368 BK369 BK370 HB hHeld ⊢
  refine TV 0 14 hHeld ?_
  refine TV 1 15 hHeld ?_
  refine TV 3 17 hHeld ?_
  refine TV 4 18 hHeld ?_
  refine OH 2 16 Try.func25 (impl_PatternAt.calls k a0_0 a0_1 a0_2 a1_0 a1_1 t371 _ A5.out) (fun K hK => ?_)
  rintro e w113 ⟨rfl, hb⟩
  refine ⟨_, rfl, ?_⟩
  replace BK368 := BB BK368 hb
  replace BK369 := BB BK369 hb
  replace BK370 := BB BK370 hb
  replace HB := BS HB hb
  clear hb
  refine HN hK ⟨CE BK368 0, CE BK368 1, CE BK368 2, CE BK369 0, CE BK369 1, CE BK370 0, CE BK370 1⟩ (fun hHeld => ?_)
  clear hK K
  refine OH 5 19 Try.func25 (impl_PatternAt.calls k a0_0 a0_1 a0_2 a2_0 a2_1 t372 _ A6.out) (fun K hK => ?_)
  rintro e w114 ⟨rfl, hb⟩
  refine ⟨_, rfl, ?_⟩
  replace BK368 := BB BK368 hb
  replace BK369 := BB BK369 hb
  replace BK370 := BB BK370 hb
  replace HB := BS HB hb
  clear hb
  refine HN hK ⟨CE BK368 0, CE BK368 1, CE BK368 2, CE BK369 0, CE BK369 1, CE BK370 0, CE BK370 1⟩ (fun hHeld => ?_)
  clear hK K
  refine PV 6 20 ?_
  refine done_ (by kernel_rfl) ?_
  try go_wp2
  go_ret
  exact ⟨RZ, BZ⟩

def impl_LikeWalkers.f (k : Nat) (a0_0 : Int) (a0_1 : Int) (a0_2 : Int) (a1_0 : Int) (a1_1 : Int) (a2_0 : Int) (a2_1 : Int) (a3 : Int) : Option (Bool) := (impl_WalkerOk.f a0_0 a0_1 a0_2 a1_0 a1_1).bind fun t385 => (if t385 = true then ((impl_WalkerOk.f a0_0 a0_1 a0_2 a2_0 a2_1).bind fun t386 => (if t386 = true then (if a3 ≥ 0 then (if a3 ≤ 6 then ((impl_alike.f k a0_0 a0_1 a0_2 a1_0 a1_1 a2_0 a2_1 a3).bind fun t387 => (some t387)) else (some false)) else (some false)) else (some false))) else (some false))
set_option maxHeartbeats 8000000 in
set_option maxRecDepth 100000 in
theorem impl_LikeWalkers.calls (k : Nat) (a0_0 : Int) (a0_1 : Int) (a0_2 : Int) (a1_0 : Int) (a1_1 : Int) (a2_0 : Int) (a2_1 : Int) (a3 : Int) (r : Bool) (w : World) (h : impl_LikeWalkers.f k a0_0 a0_1 a0_2 a1_0 a1_1 a2_0 a2_1 a3 = some r) :
  Calls Try.prog 24 #[.agg #[.int .i64 a0_0, .int .i64 a0_1, .int .i64 a0_2], .agg #[.int .i64 a1_0, .int .i64 a1_1], .agg #[.int .i64 a2_0, .int .i64 a2_1], .int .i64 a3] w fun e w' => e = .returned (.bool r) ∧ Below w.heap.size w w' := by
 have hu30 := Try.underlying30
 have hu43 := Try.underlying43
 have HB := Aside0.mk (Below.refl w.heap.size w)
 have H := h
 unfold impl_LikeWalkers.f at H
 clear h
 obtain ⟨t385, A5, H⟩ := BD H
 by_cases c6 : t385 = true
 ·subst c6
  replace H := IT H
  obtain ⟨t386, A7, H⟩ := BD H
  by_cases c8 : t386 = true
  ·subst c8
   replace H := IT H
   by_cases c9 : a3 ≥ 0
   ·rw [if_pos c9] at H
    have c9b0 := decide_eq_true c9
    clear c9
    by_cases c10 : a3 ≤ 6
    ·rw [if_pos c10] at H
     have c10b0 := decide_eq_true c10
     clear c10
     obtain ⟨t387, A11, H⟩ := BD H
     obtain rfl := Option.some.inj H
     go_enter Try.func24, Try.ntmps24
     go_wp2_with (first | ((with_reducible refine gate_dst (N := 4) rfl ?_); refine BX 4 30 #[.int .i64 a0_0, .int .i64 a0_1, .int .i64 a0_2] ?_; intro gb382 hg w12 hbox hb; have BK382 := Aside0.mk (hbox); have GW382 := (GS hg : Aside0 (w.heap.size ≤ gb382)); have GE382 := GW382; replace HB := BS HB hb; clear hb hbox hg) | ((with_reducible refine gate_dst (N := 5) rfl ?_); refine BX 5 43 #[.int .i64 a1_0, .int .i64 a1_1] ?_; intro gb383 hg w13 hbox hb; have BK383 := Aside0.mk (hbox); have GW383 := (GS hg : Aside0 (w.heap.size ≤ gb383)); have GE383 := GW383; have NB382_383 := NL BK382 hg; have NB383_382 := NG BK382 hg; replace BK382 := BB BK382 hb; replace HB := BS HB hb; clear hb hbox hg) | ((with_reducible refine gate_dst (N := 6) rfl ?_); refine BX 6 43 #[.int .i64 a2_0, .int .i64 a2_1] ?_; intro gb384 hg w14 hbox hb; have BK384 := Aside0.mk (hbox); have GW384 := (GS hg : Aside0 (w.heap.size ≤ gb384)); have GE384 := GW384; have NB382_384 := NL BK382 hg; have NB384_382 := NG BK382 hg; have NB383_384 := NL BK383 hg; have NB384_383 := NG BK383 hg; replace BK382 := BB BK382 hb; replace BK383 := BB BK383 hb; replace HB := BS HB hb; clear hb hbox hg; have hnb15 := NB382_383.out; have hnc15 := NB383_382.out; have hnb16 := NB382_384.out; have hnc16 := NB384_382.out; obtain ⟨hcz17_0, hcz17_1, hcz17_2, hfz17_0, hfz17_1, hfz17_2⟩ := CZ3 BK382; have hnb18 := NB383_384.out; have hnc18 := NB384_383.out; obtain ⟨hcz19_0, hcz19_1, hfz19_0, hfz19_1⟩ := CZ2 BK383) | ((with_reducible refine GC 50 rfl ?_); refine GL 11 Try.func50 (impl_WalkerOk.calls a0_0 a0_1 a0_2 a1_0 a1_1 true _ A5.out) ?_; rintro e w20 ⟨rfl, hb⟩; refine ⟨_, rfl, ?_⟩; replace BK382 := BB BK382 hb; replace BK383 := BB BK383 hb; replace BK384 := BB BK384 hb; replace HB := BS HB hb; clear hb; obtain ⟨hcz21_0, hcz21_1, hcz21_2, hfz21_0, hfz21_1, hfz21_2⟩ := CZ3 BK382; obtain ⟨hcz22_0, hcz22_1, hfz22_0, hfz22_1⟩ := CZ2 BK384) | (go_at_call 50; (with_reducible refine (impl_WalkerOk.calls a0_0 a0_1 a0_2 a2_0 a2_1 true _ A7.out).mono ?_); rintro e w23 ⟨rfl, hb⟩; replace BK382 := BB BK382 hb; replace BK383 := BB BK383 hb; replace BK384 := BB BK384 hb; replace HB := BS HB hb; clear hb; obtain ⟨hcz24_0, hcz24_1, hcz24_2, hfz24_0, hfz24_1, hfz24_2⟩ := CZ3 BK382; obtain ⟨hcz25_0, hcz25_1, hfz25_0, hfz25_1⟩ := CZ2 BK383; obtain ⟨hcz26_0, hcz26_1, hfz26_0, hfz26_1⟩ := CZ2 BK384) | (go_at_call 55; (with_reducible refine (impl_alike.calls k a0_0 a0_1 a0_2 a1_0 a1_1 a2_0 a2_1 a3 t387 _ A11.out).mono ?_); rintro e w27 ⟨rfl, hb⟩; replace BK382 := BB BK382 hb; replace BK383 := BB BK383 hb; replace BK384 := BB BK384 hb; replace HB := BS HB hb; clear hb))
     go_ret
     exact ⟨RZ, BZ⟩
    ·rw [if_neg c10] at H
     have c10b0 := decide_eq_false c10
     clear c10
     obtain rfl := Option.some.inj H
     go_enter Try.func24, Try.ntmps24
     go_wp2_with (first | ((with_reducible refine gate_dst (N := 4) rfl ?_); refine BX 4 30 #[.int .i64 a0_0, .int .i64 a0_1, .int .i64 a0_2] ?_; intro gb382 hg w28 hbox hb; have BK382 := Aside0.mk (hbox); have GW382 := (GS hg : Aside0 (w.heap.size ≤ gb382)); have GE382 := GW382; replace HB := BS HB hb; clear hb hbox hg) | ((with_reducible refine gate_dst (N := 5) rfl ?_); refine BX 5 43 #[.int .i64 a1_0, .int .i64 a1_1] ?_; intro gb383 hg w29 hbox hb; have BK383 := Aside0.mk (hbox); have GW383 := (GS hg : Aside0 (w.heap.size ≤ gb383)); have GE383 := GW383; have NB382_383 := NL BK382 hg; have NB383_382 := NG BK382 hg; replace BK382 := BB BK382 hb; replace HB := BS HB hb; clear hb hbox hg) | ((with_reducible refine gate_dst (N := 6) rfl ?_); refine BX 6 43 #[.int .i64 a2_0, .int .i64 a2_1] ?_; intro gb384 hg w30 hbox hb; have BK384 := Aside0.mk (hbox); have GW384 := (GS hg : Aside0 (w.heap.size ≤ gb384)); have GE384 := GW384; have NB382_384 := NL BK382 hg; have NB384_382 := NG BK382 hg; have NB383_384 := NL BK383 hg; have NB384_383 := NG BK383 hg; replace BK382 := BB BK382 hb; replace BK383 := BB BK383 hb; replace HB := BS HB hb; clear hb hbox hg; have hnb31 := NB382_383.out; have hnc31 := NB383_382.out; have hnb32 := NB382_384.out; have hnc32 := NB384_382.out; obtain ⟨hcz33_0, hcz33_1, hcz33_2, hfz33_0, hfz33_1, hfz33_2⟩ := CZ3 BK382; have hnb34 := NB383_384.out; have hnc34 := NB384_383.out; obtain ⟨hcz35_0, hcz35_1, hfz35_0, hfz35_1⟩ := CZ2 BK383) | ((with_reducible refine GC 50 rfl ?_); refine GL 11 Try.func50 (impl_WalkerOk.calls a0_0 a0_1 a0_2 a1_0 a1_1 true _ A5.out) ?_; rintro e w36 ⟨rfl, hb⟩; refine ⟨_, rfl, ?_⟩; replace BK382 := BB BK382 hb; replace BK383 := BB BK383 hb; replace BK384 := BB BK384 hb; replace HB := BS HB hb; clear hb; obtain ⟨hcz37_0, hcz37_1, hcz37_2, hfz37_0, hfz37_1, hfz37_2⟩ := CZ3 BK382; obtain ⟨hcz38_0, hcz38_1, hfz38_0, hfz38_1⟩ := CZ2 BK384) | (go_at_call 50; (with_reducible refine (impl_WalkerOk.calls a0_0 a0_1 a0_2 a2_0 a2_1 true _ A7.out).mono ?_); rintro e w39 ⟨rfl, hb⟩; replace BK382 := BB BK382 hb; replace BK383 := BB BK383 hb; replace BK384 := BB BK384 hb; replace HB := BS HB hb; clear hb))
     go_ret
     exact ⟨RZ, BZ⟩
   ·rw [if_neg c9] at H
    have c9b0 := decide_eq_false c9
    clear c9
    obtain rfl := Option.some.inj H
    go_enter Try.func24, Try.ntmps24
    go_wp2_with (first | ((with_reducible refine gate_dst (N := 4) rfl ?_); refine BX 4 30 #[.int .i64 a0_0, .int .i64 a0_1, .int .i64 a0_2] ?_; intro gb382 hg w40 hbox hb; have BK382 := Aside0.mk (hbox); have GW382 := (GS hg : Aside0 (w.heap.size ≤ gb382)); have GE382 := GW382; replace HB := BS HB hb; clear hb hbox hg) | ((with_reducible refine gate_dst (N := 5) rfl ?_); refine BX 5 43 #[.int .i64 a1_0, .int .i64 a1_1] ?_; intro gb383 hg w41 hbox hb; have BK383 := Aside0.mk (hbox); have GW383 := (GS hg : Aside0 (w.heap.size ≤ gb383)); have GE383 := GW383; have NB382_383 := NL BK382 hg; have NB383_382 := NG BK382 hg; replace BK382 := BB BK382 hb; replace HB := BS HB hb; clear hb hbox hg) | ((with_reducible refine gate_dst (N := 6) rfl ?_); refine BX 6 43 #[.int .i64 a2_0, .int .i64 a2_1] ?_; intro gb384 hg w42 hbox hb; have BK384 := Aside0.mk (hbox); have GW384 := (GS hg : Aside0 (w.heap.size ≤ gb384)); have GE384 := GW384; have NB382_384 := NL BK382 hg; have NB384_382 := NG BK382 hg; have NB383_384 := NL BK383 hg; have NB384_383 := NG BK383 hg; replace BK382 := BB BK382 hb; replace BK383 := BB BK383 hb; replace HB := BS HB hb; clear hb hbox hg; have hnb43 := NB382_383.out; have hnc43 := NB383_382.out; have hnb44 := NB382_384.out; have hnc44 := NB384_382.out; obtain ⟨hcz45_0, hcz45_1, hcz45_2, hfz45_0, hfz45_1, hfz45_2⟩ := CZ3 BK382; have hnb46 := NB383_384.out; have hnc46 := NB384_383.out; obtain ⟨hcz47_0, hcz47_1, hfz47_0, hfz47_1⟩ := CZ2 BK383) | ((with_reducible refine GC 50 rfl ?_); refine GL 11 Try.func50 (impl_WalkerOk.calls a0_0 a0_1 a0_2 a1_0 a1_1 true _ A5.out) ?_; rintro e w48 ⟨rfl, hb⟩; refine ⟨_, rfl, ?_⟩; replace BK382 := BB BK382 hb; replace BK383 := BB BK383 hb; replace BK384 := BB BK384 hb; replace HB := BS HB hb; clear hb; obtain ⟨hcz49_0, hcz49_1, hcz49_2, hfz49_0, hfz49_1, hfz49_2⟩ := CZ3 BK382; obtain ⟨hcz50_0, hcz50_1, hfz50_0, hfz50_1⟩ := CZ2 BK384) | (go_at_call 50; (with_reducible refine (impl_WalkerOk.calls a0_0 a0_1 a0_2 a2_0 a2_1 true _ A7.out).mono ?_); rintro e w51 ⟨rfl, hb⟩; replace BK382 := BB BK382 hb; replace BK383 := BB BK383 hb; replace BK384 := BB BK384 hb; replace HB := BS HB hb; clear hb))
    go_ret
    exact ⟨RZ, BZ⟩
  ·replace c8 := Bool.eq_false_iff.mpr c8
   subst c8
   replace H := IE H
   obtain rfl := Option.some.inj H
   go_enter Try.func24, Try.ntmps24
   go_wp2_with (first | ((with_reducible refine gate_dst (N := 4) rfl ?_); refine BX 4 30 #[.int .i64 a0_0, .int .i64 a0_1, .int .i64 a0_2] ?_; intro gb382 hg w52 hbox hb; have BK382 := Aside0.mk (hbox); have GW382 := (GS hg : Aside0 (w.heap.size ≤ gb382)); have GE382 := GW382; replace HB := BS HB hb; clear hb hbox hg) | ((with_reducible refine gate_dst (N := 5) rfl ?_); refine BX 5 43 #[.int .i64 a1_0, .int .i64 a1_1] ?_; intro gb383 hg w53 hbox hb; have BK383 := Aside0.mk (hbox); have GW383 := (GS hg : Aside0 (w.heap.size ≤ gb383)); have GE383 := GW383; have NB382_383 := NL BK382 hg; have NB383_382 := NG BK382 hg; replace BK382 := BB BK382 hb; replace HB := BS HB hb; clear hb hbox hg) | ((with_reducible refine gate_dst (N := 6) rfl ?_); refine BX 6 43 #[.int .i64 a2_0, .int .i64 a2_1] ?_; intro gb384 hg w54 hbox hb; have BK384 := Aside0.mk (hbox); have GW384 := (GS hg : Aside0 (w.heap.size ≤ gb384)); have GE384 := GW384; have NB382_384 := NL BK382 hg; have NB384_382 := NG BK382 hg; have NB383_384 := NL BK383 hg; have NB384_383 := NG BK383 hg; replace BK382 := BB BK382 hb; replace BK383 := BB BK383 hb; replace HB := BS HB hb; clear hb hbox hg; have hnb55 := NB382_383.out; have hnc55 := NB383_382.out; have hnb56 := NB382_384.out; have hnc56 := NB384_382.out; obtain ⟨hcz57_0, hcz57_1, hcz57_2, hfz57_0, hfz57_1, hfz57_2⟩ := CZ3 BK382; have hnb58 := NB383_384.out; have hnc58 := NB384_383.out; obtain ⟨hcz59_0, hcz59_1, hfz59_0, hfz59_1⟩ := CZ2 BK383) | ((with_reducible refine GC 50 rfl ?_); refine GL 11 Try.func50 (impl_WalkerOk.calls a0_0 a0_1 a0_2 a1_0 a1_1 true _ A5.out) ?_; rintro e w60 ⟨rfl, hb⟩; refine ⟨_, rfl, ?_⟩; replace BK382 := BB BK382 hb; replace BK383 := BB BK383 hb; replace BK384 := BB BK384 hb; replace HB := BS HB hb; clear hb; obtain ⟨hcz61_0, hcz61_1, hcz61_2, hfz61_0, hfz61_1, hfz61_2⟩ := CZ3 BK382; obtain ⟨hcz62_0, hcz62_1, hfz62_0, hfz62_1⟩ := CZ2 BK384) | (go_at_call 50; (with_reducible refine (impl_WalkerOk.calls a0_0 a0_1 a0_2 a2_0 a2_1 false _ A7.out).mono ?_); rintro e w63 ⟨rfl, hb⟩; replace BK382 := BB BK382 hb; replace BK383 := BB BK383 hb; replace BK384 := BB BK384 hb; replace HB := BS HB hb; clear hb))
   go_ret
   exact ⟨RZ, BZ⟩
 ·replace c6 := Bool.eq_false_iff.mpr c6
  subst c6
  replace H := IE H
  obtain rfl := Option.some.inj H
  go_enter Try.func24, Try.ntmps24
  go_wp2_with (first | ((with_reducible refine gate_dst (N := 4) rfl ?_); refine BX 4 30 #[.int .i64 a0_0, .int .i64 a0_1, .int .i64 a0_2] ?_; intro gb382 hg w64 hbox hb; have BK382 := Aside0.mk (hbox); have GW382 := (GS hg : Aside0 (w.heap.size ≤ gb382)); have GE382 := GW382; replace HB := BS HB hb; clear hb hbox hg) | ((with_reducible refine gate_dst (N := 5) rfl ?_); refine BX 5 43 #[.int .i64 a1_0, .int .i64 a1_1] ?_; intro gb383 hg w65 hbox hb; have BK383 := Aside0.mk (hbox); have GW383 := (GS hg : Aside0 (w.heap.size ≤ gb383)); have GE383 := GW383; have NB382_383 := NL BK382 hg; have NB383_382 := NG BK382 hg; replace BK382 := BB BK382 hb; replace HB := BS HB hb; clear hb hbox hg) | ((with_reducible refine gate_dst (N := 6) rfl ?_); refine BX 6 43 #[.int .i64 a2_0, .int .i64 a2_1] ?_; intro gb384 hg w66 hbox hb; have BK384 := Aside0.mk (hbox); have GW384 := (GS hg : Aside0 (w.heap.size ≤ gb384)); have GE384 := GW384; have NB382_384 := NL BK382 hg; have NB384_382 := NG BK382 hg; have NB383_384 := NL BK383 hg; have NB384_383 := NG BK383 hg; replace BK382 := BB BK382 hb; replace BK383 := BB BK383 hb; replace HB := BS HB hb; clear hb hbox hg; have hnb67 := NB382_383.out; have hnc67 := NB383_382.out; have hnb68 := NB382_384.out; have hnc68 := NB384_382.out; obtain ⟨hcz69_0, hcz69_1, hcz69_2, hfz69_0, hfz69_1, hfz69_2⟩ := CZ3 BK382; have hnb70 := NB383_384.out; have hnc70 := NB384_383.out; obtain ⟨hcz71_0, hcz71_1, hfz71_0, hfz71_1⟩ := CZ2 BK383) | ((with_reducible refine GC 50 rfl ?_); refine GL 11 Try.func50 (impl_WalkerOk.calls a0_0 a0_1 a0_2 a1_0 a1_1 false _ A5.out) ?_; rintro e w72 ⟨rfl, hb⟩; refine ⟨_, rfl, ?_⟩; replace BK382 := BB BK382 hb; replace BK383 := BB BK383 hb; replace BK384 := BB BK384 hb; replace HB := BS HB hb; clear hb))
  go_ret
  exact ⟨RZ, BZ⟩

end Go.Proofs.Ytfpomjnhgcmgoaa.P

