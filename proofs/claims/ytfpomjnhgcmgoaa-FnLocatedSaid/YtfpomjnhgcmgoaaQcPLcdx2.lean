/- Proved here: calls of functions of the program answer as the plain functions beside them say. Conditions: each theorem names its own. Written by a program of this session (hprint.py) out of the translation. -/
import Derived.Test.YtfpomjnhgcmgoaaQcPLcdx0
import Derived.Test.YtfpomjnhgcmgoaaQcFuncs
namespace Go.Proofs.Ytfpomjnhgcmgoaa.P
open Go.RowKit Go.Proofs.YtfpomjnhgcmgoaaW.PrintWords Go.Proofs.YtfpomjnhgcmgoaaW.PrintLast Go.Proofs.YtfpomjnhgcmgoaaW.PrintMore
attribute [local go_sem] max2_int min2_int max_two min_two max_three min_three max_four min_four   -- for this text's walks alone
set_option linter.unusedVariables false
set_option linter.unusedSimpArgs false

def impl_GridOk.f (a0_0 : Int) (a0_1 : Int) : Option (Bool) := if a0_0 ≥ 1 then (if a0_0 ≤ 4 then (if a0_1 ≥ 1 then (some (decide (a0_1 ≤ 4))) else (some false)) else (some false)) else (some false)
set_option maxHeartbeats 8000000 in
set_option maxRecDepth 100000 in
theorem impl_GridOk.calls (a0_0 : Int) (a0_1 : Int) (r : Bool) (w : World) (h : impl_GridOk.f a0_0 a0_1 = some r) :
  Calls Try.prog 71 #[.agg #[.int .i64 a0_0, .int .i64 a0_1]] w fun e w' => e = .returned (.bool r) ∧ Below w.heap.size w w' := by
 have hu28 := Try.underlying28
 have HB := Aside0.mk (Below.refl w.heap.size w)
 have H := h
 unfold impl_GridOk.f at H
 clear h
 by_cases c2 : a0_0 ≥ 1
 ·rw [if_pos c2] at H
  have c2b0 := decide_eq_true c2
  clear c2
  by_cases c3 : a0_0 ≤ 4
  ·rw [if_pos c3] at H
   have c3b0 := decide_eq_true c3
   clear c3
   by_cases c4 : a0_1 ≥ 1
   ·rw [if_pos c4] at H
    have c4b0 := decide_eq_true c4
    clear c4
    obtain rfl := Option.some.inj H
    go_enter Try.func71, Try.ntmps71
    go_wp2_with (first | ((with_reducible refine gate_dst (N := 1) rfl ?_); refine BX 1 28 #[.int .i64 a0_0, .int .i64 a0_1] ?_; intro gb101 hg w5 hbox hb; have BK101 := Aside0.mk (hbox); have GW101 := (GS hg : Aside0 (w.heap.size ≤ gb101)); have GE101 := GW101; replace HB := BS HB hb; clear hb hbox hg; obtain ⟨hcz6_0, hcz6_1, hfz6_0, hfz6_1⟩ := CZ2 BK101))
    go_ret
    exact ⟨RZ, BZ⟩
   ·rw [if_neg c4] at H
    have c4b0 := decide_eq_false c4
    clear c4
    obtain rfl := Option.some.inj H
    go_enter Try.func71, Try.ntmps71
    go_wp2_with (first | ((with_reducible refine gate_dst (N := 1) rfl ?_); refine BX 1 28 #[.int .i64 a0_0, .int .i64 a0_1] ?_; intro gb101 hg w7 hbox hb; have BK101 := Aside0.mk (hbox); have GW101 := (GS hg : Aside0 (w.heap.size ≤ gb101)); have GE101 := GW101; replace HB := BS HB hb; clear hb hbox hg; obtain ⟨hcz8_0, hcz8_1, hfz8_0, hfz8_1⟩ := CZ2 BK101))
    go_ret
    exact ⟨RZ, BZ⟩
  ·rw [if_neg c3] at H
   have c3b0 := decide_eq_false c3
   clear c3
   obtain rfl := Option.some.inj H
   go_enter Try.func71, Try.ntmps71
   go_wp2_with (first | ((with_reducible refine gate_dst (N := 1) rfl ?_); refine BX 1 28 #[.int .i64 a0_0, .int .i64 a0_1] ?_; intro gb101 hg w9 hbox hb; have BK101 := Aside0.mk (hbox); have GW101 := (GS hg : Aside0 (w.heap.size ≤ gb101)); have GE101 := GW101; replace HB := BS HB hb; clear hb hbox hg; obtain ⟨hcz10_0, hcz10_1, hfz10_0, hfz10_1⟩ := CZ2 BK101))
   go_ret
   exact ⟨RZ, BZ⟩
 ·rw [if_neg c2] at H
  have c2b0 := decide_eq_false c2
  clear c2
  obtain rfl := Option.some.inj H
  go_enter Try.func71, Try.ntmps71
  go_wp2_with (first | ((with_reducible refine gate_dst (N := 1) rfl ?_); refine BX 1 28 #[.int .i64 a0_0, .int .i64 a0_1] ?_; intro gb101 hg w11 hbox hb; have BK101 := Aside0.mk (hbox); have GW101 := (GS hg : Aside0 (w.heap.size ≤ gb101)); have GE101 := GW101; replace HB := BS HB hb; clear hb hbox hg; obtain ⟨hcz12_0, hcz12_1, hfz12_0, hfz12_1⟩ := CZ2 BK101))
  go_ret
  exact ⟨RZ, BZ⟩

def impl_CountGaps.f (a0_0 : Int) (a0_1 : Int) : Option (Int) := (impl_GridOk.f a0_0 a0_1).bind fun t103 => (if t103 = true then (some (wrap64 ((wrap64 ((wrap64 (a0_0 - 1)) * a0_1)) + (wrap64 (a0_0 * (wrap64 (a0_1 - 1))))))) else (some 0))
set_option maxHeartbeats 8000000 in
set_option maxRecDepth 100000 in
theorem impl_CountGaps.calls (a0_0 : Int) (a0_1 : Int) (r : Int) (w : World) (h : impl_CountGaps.f a0_0 a0_1 = some r) :
  Calls Try.prog 72 #[.agg #[.int .i64 a0_0, .int .i64 a0_1]] w fun e w' => e = .returned (.int .i64 r) ∧ Below w.heap.size w w' := by
 have hu28 := Try.underlying28
 have HB := Aside0.mk (Below.refl w.heap.size w)
 have H := h
 unfold impl_CountGaps.f at H
 clear h
 obtain ⟨t103, A2, H⟩ := BD H
 by_cases c3 : t103 = true
 ·subst c3
  replace H := IT H
  obtain rfl := Option.some.inj H
  go_enter Try.func72, Try.ntmps72
  go_wp2_with (first | ((with_reducible refine gate_dst (N := 1) rfl ?_); refine BX 1 28 #[.int .i64 a0_0, .int .i64 a0_1] ?_; intro gb102 hg w4 hbox hb; have BK102 := Aside0.mk (hbox); have GW102 := (GS hg : Aside0 (w.heap.size ≤ gb102)); have GE102 := GW102; replace HB := BS HB hb; clear hb hbox hg; obtain ⟨hcz5_0, hcz5_1, hfz5_0, hfz5_1⟩ := CZ2 BK102) | ((with_reducible refine GC 71 rfl ?_); refine GL 4 Try.func71 (impl_GridOk.calls a0_0 a0_1 true _ A2.out) ?_; rintro e w6 ⟨rfl, hb⟩; refine ⟨_, rfl, ?_⟩; replace BK102 := BB BK102 hb; replace HB := BS HB hb; clear hb; obtain ⟨hcz7_0, hcz7_1, hfz7_0, hfz7_1⟩ := CZ2 BK102))
  go_ret
  exact ⟨RZ, BZ⟩
 ·replace c3 := Bool.eq_false_iff.mpr c3
  subst c3
  replace H := IE H
  obtain rfl := Option.some.inj H
  go_enter Try.func72, Try.ntmps72
  go_wp2_with (first | ((with_reducible refine gate_dst (N := 1) rfl ?_); refine BX 1 28 #[.int .i64 a0_0, .int .i64 a0_1] ?_; intro gb102 hg w8 hbox hb; have BK102 := Aside0.mk (hbox); have GW102 := (GS hg : Aside0 (w.heap.size ≤ gb102)); have GE102 := GW102; replace HB := BS HB hb; clear hb hbox hg; obtain ⟨hcz9_0, hcz9_1, hfz9_0, hfz9_1⟩ := CZ2 BK102) | ((with_reducible refine GC 71 rfl ?_); refine GL 4 Try.func71 (impl_GridOk.calls a0_0 a0_1 false _ A2.out) ?_; rintro e w10 ⟨rfl, hb⟩; refine ⟨_, rfl, ?_⟩; replace BK102 := BB BK102 hb; replace HB := BS HB hb; clear hb))
  go_ret
  exact ⟨RZ, BZ⟩

def impl_MazeOk.f (a0_0 : Int) (a0_1 : Int) (a0_2 : Int) : Option (Bool) := (impl_GridOk.f a0_0 a0_1).bind fun t105 => (if t105 = true then (if a0_2 ≥ 0 then ((impl_CountGaps.f a0_0 a0_1).bind fun t106 => (if 0 ≤ t106 then (some (decide (a0_2 < (shl .i64 1 t106)))) else (none))) else (some false)) else (some false))
def impl_MazeOk.T1 : Bool × List (List Nat × List Nat) := (true, [([], []), ([0], [0]), ([1], [1]), ([2, 2], [2]), ([3], [3]), ([4, 3], [3, 4]), ([5, 3], [3, 5]), ([3, 6], [3, 6]), ([7, 3], [7]), ([8], [8]), ([9, 8], [8, 9]), ([8], [8]), ([11, 8], [8, 11]), ([12, 8, 8], [8, 12]), ([13, 8], [8, 13]), ([10, 14, 8], [8, 10, 14]), ([8, 15], [8, 15]), ([16, 13, 0, 1, 2, 3, 4, 5, 6, 7, 8, 9, 10, 11, 12, 13, 14, 15, 16], [16])])
def impl_MazeOk.B1 : List Nat := [0, 1, 3, 7, 15, 31, 63, 127, 255, 511, 1023, 511, 2559, 6655, 14847, 32767, 65535, 131071]
theorem impl_MazeOk.tab1 : rtab .any (opsOf Try.f38 1) = impl_MazeOk.T1 := by kernel_rfl
theorem impl_MazeOk.bits1 : waitsOk impl_MazeOk.T1.2 impl_MazeOk.B1 = true := by kernel_rfl
set_option maxHeartbeats 8000000 in
set_option maxRecDepth 100000 in
theorem impl_MazeOk.calls (a0_0 : Int) (a0_1 : Int) (a0_2 : Int) (r : Bool) (w : World) (h : impl_MazeOk.f a0_0 a0_1 a0_2 = some r) :
  Calls Try.prog 38 #[.agg #[.int .i64 a0_0, .int .i64 a0_1, .int .i64 a0_2]] w fun e w' => e = .returned (.bool r) ∧ Below w.heap.size w w' := by
 have hu30 := Try.underlying30
 have hu28 := Try.underlying28
 have HB := Aside0.mk (Below.refl w.heap.size w)
 have H := h
 unfold impl_MazeOk.f at H
 clear h
 obtain ⟨t105, A2, H⟩ := BD H
 by_cases c3 : t105 = true
 ·subst c3
  replace H := IT H
  by_cases c4 : a0_2 ≥ 0
  ·rw [if_pos c4] at H
   have c4b0 := decide_eq_true c4
   clear c4
   obtain ⟨t106, A5, H⟩ := BD H
   by_cases c6 : 0 ≤ t106
   ·rw [if_pos c6] at H
    have c6b0 := eq_true c6
    have c6b1 := decide_eq_true c6
    clear c6
    obtain ⟨ji7, hji7⟩ : ∃ j_ : Int, (shl .i64 1 t106) = j_ := ⟨_, rfl⟩
    replace H : (some (decide (a0_2 < (ji7)))) = some r := by first | (rw [hji7] at H; exact H) | (simp only [hji7] at H ⊢; exact H)
    (try rw [hji7] at A2)
    (try rw [hji7] at A5)
    have hji7_ : (IntKind.i64.wrap (1 * 2 ^ min t106.toNat 64)) = ji7 := hji7
    have hji7z : t106 ≤ 64 → (IntKind.i64.wrap (1 * 2 ^ t106.toNat)) = ji7 := shl_small hji7
    have hji7u : (IntKind.i64.wrap (2 ^ min t106.toNat 64)) = ji7 := by have h_ := hji7_; rw [Int.one_mul] at h_; exact h_
    have hji7v : t106 ≤ 64 → (IntKind.i64.wrap (2 ^ t106.toNat)) = ji7 := fun hle_ => by have h_ := hji7z hle_; rw [Int.one_mul] at h_; exact h_
    have hji7y : (wrap64 (1 * 2 ^ min t106.toNat 64)) = ji7 := (i64_w _).symm.trans hji7_
    have hji7x : t106 ≤ 64 → (wrap64 (1 * 2 ^ t106.toNat)) = ji7 := fun h_ => (i64_w _).symm.trans (hji7z h_)
    obtain rfl := Option.some.inj H
    go_enter Try.func38, Try.ntmps38
    try go_wp2_with (first | ((with_reducible refine gate_dst (N := 1) rfl ?_); refine BX 1 30 #[.int .i64 a0_0, .int .i64 a0_1, .int .i64 a0_2] ?_; intro gb104 hg w8 hbox hb; have BK104 := Aside0.mk (hbox); have GW104 := (GS hg : Aside0 (w.heap.size ≤ gb104)); have GE104 := GW104; replace HB := BS HB hb; clear hb hbox hg))
    replace BK104 := Aside0.mk (blk_drew BK104.out)
    replace HB := Aside0.mk (below_drew1 HB.out)
    refine ST 18 (fun w' => w'.cell? ⟨gb104, 0, none⟩ = some (.int .i64 a0_0) ∧ w'.cell? ⟨gb104, 1, none⟩ = some (.int .i64 a0_1) ∧ w'.cell? ⟨gb104, 2, none⟩ = some (.int .i64 a0_2)) [] impl_MazeOk.tab1 impl_MazeOk.bits1 ⟨CE BK104 0, CE BK104 1, CE BK104 2⟩ (fun hHeld HT_ HW_ => ?_)
    generalize w8.drew = w9 at BK104 HB hHeld ⊢
    refine PU 0 3 HT_ ?_
    refine TA 1 4 HT_ HW_ hHeld ?_
    refine OG 2 5 HT_ Try.func71 (impl_GridOk.calls a0_0 a0_1 true _ A2.out) (fun K hK => ?_)
    rintro e w10 ⟨rfl, hb⟩
    refine ⟨_, rfl, ?_⟩
    replace BK104 := BB BK104 hb
    replace HB := BS HB hb
    clear hb
    refine HN hK ⟨CE BK104 0, CE BK104 1, CE BK104 2⟩ (fun hHeld => ?_)
    clear hK K
    refine PU 3 6 HT_ ?_
    refine PU 4 7 HT_ ?_
    refine TA 5 8 HT_ HW_ hHeld ?_
    refine PU 6 9 HT_ ?_
    refine PU 7 10 HT_ ?_
    refine PU 8 11 HT_ ?_
    refine PU 9 12 HT_ ?_
    refine PU 11 14 HT_ ?_
    refine TA 10 13 HT_ HW_ hHeld ?_
    refine TA 12 15 HT_ HW_ hHeld ?_
    refine OG 13 16 HT_ Try.func72 (impl_CountGaps.calls a0_0 a0_1 t106 _ A5.out) (fun K hK => ?_)
    rintro e w11 ⟨rfl, hb⟩
    refine ⟨_, rfl, ?_⟩
    replace BK104 := BB BK104 hb
    replace HB := BS HB hb
    clear hb
    refine HN hK ⟨CE BK104 0, CE BK104 1, CE BK104 2⟩ (fun hHeld => ?_)
    clear hK K
    refine PU 14 17 HT_ ?_
    refine PU 15 18 HT_ ?_
    refine PU 16 19 HT_ ?_
    refine PU 17 2 HT_ ?_
    refine done_ (done_of HT_.out (by kernel_rfl)) ?_
    try go_wp2
    go_ret
    exact ⟨by first | rfl | (simp [errW_none, errW_some] <;> rfl) | (simp only [← hji7]; first | rfl | (simp [errW_none, errW_some] <;> rfl)) | (simp [*, errW_none, errW_some] <;> rfl), BZ⟩
   ·rw [if_neg c6] at H
    exact absurd H (by simp)
  ·rw [if_neg c4] at H
   have c4b0 := decide_eq_false c4
   clear c4
   obtain rfl := Option.some.inj H
   go_enter Try.func38, Try.ntmps38
   try go_wp2_with (first | ((with_reducible refine gate_dst (N := 1) rfl ?_); refine BX 1 30 #[.int .i64 a0_0, .int .i64 a0_1, .int .i64 a0_2] ?_; intro gb104 hg w12 hbox hb; have BK104 := Aside0.mk (hbox); have GW104 := (GS hg : Aside0 (w.heap.size ≤ gb104)); have GE104 := GW104; replace HB := BS HB hb; clear hb hbox hg))
   replace BK104 := Aside0.mk (blk_drew BK104.out)
   replace HB := Aside0.mk (below_drew1 HB.out)
   refine ST 18 (fun w' => w'.cell? ⟨gb104, 0, none⟩ = some (.int .i64 a0_0) ∧ w'.cell? ⟨gb104, 1, none⟩ = some (.int .i64 a0_1) ∧ w'.cell? ⟨gb104, 2, none⟩ = some (.int .i64 a0_2)) [] impl_MazeOk.tab1 impl_MazeOk.bits1 ⟨CE BK104 0, CE BK104 1, CE BK104 2⟩ (fun hHeld HT_ HW_ => ?_)
   generalize w12.drew = w13 at BK104 HB hHeld ⊢
   refine PU 0 3 HT_ ?_
   refine TA 1 4 HT_ HW_ hHeld ?_
   refine OG 2 5 HT_ Try.func71 (impl_GridOk.calls a0_0 a0_1 true _ A2.out) (fun K hK => ?_)
   rintro e w14 ⟨rfl, hb⟩
   refine ⟨_, rfl, ?_⟩
   replace BK104 := BB BK104 hb
   replace HB := BS HB hb
   clear hb
   refine HN hK ⟨CE BK104 0, CE BK104 1, CE BK104 2⟩ (fun hHeld => ?_)
   clear hK K
   refine PU 3 6 HT_ ?_
   refine PU 4 7 HT_ ?_
   refine TA 5 8 HT_ HW_ hHeld ?_
   refine PU 6 9 HT_ ?_
   refine PU 7 10 HT_ ?_
   refine PU 8 11 HT_ ?_
   refine PX 9 12 HT_ ?_
   refine PX 10 13 HT_ ?_
   refine PX 11 14 HT_ ?_
   refine PX 12 15 HT_ ?_
   refine PX 13 16 HT_ ?_
   refine PX 14 17 HT_ ?_
   refine PX 15 18 HT_ ?_
   refine PU 16 19 HT_ ?_
   refine PU 17 2 HT_ ?_
   refine done_ (done_of HT_.out (by kernel_rfl)) ?_
   try go_wp2
   go_ret
   exact ⟨RZ, BZ⟩
 ·replace c3 := Bool.eq_false_iff.mpr c3
  subst c3
  replace H := IE H
  obtain rfl := Option.some.inj H
  go_enter Try.func38, Try.ntmps38
  try go_wp2_with (first | ((with_reducible refine gate_dst (N := 1) rfl ?_); refine BX 1 30 #[.int .i64 a0_0, .int .i64 a0_1, .int .i64 a0_2] ?_; intro gb104 hg w15 hbox hb; have BK104 := Aside0.mk (hbox); have GW104 := (GS hg : Aside0 (w.heap.size ≤ gb104)); have GE104 := GW104; replace HB := BS HB hb; clear hb hbox hg))
  replace BK104 := Aside0.mk (blk_drew BK104.out)
  replace HB := Aside0.mk (below_drew1 HB.out)
  refine ST 18 (fun w' => w'.cell? ⟨gb104, 0, none⟩ = some (.int .i64 a0_0) ∧ w'.cell? ⟨gb104, 1, none⟩ = some (.int .i64 a0_1) ∧ w'.cell? ⟨gb104, 2, none⟩ = some (.int .i64 a0_2)) [] impl_MazeOk.tab1 impl_MazeOk.bits1 ⟨CE BK104 0, CE BK104 1, CE BK104 2⟩ (fun hHeld HT_ HW_ => ?_)
  generalize w15.drew = w16 at BK104 HB hHeld ⊢
  refine PU 0 3 HT_ ?_
  refine TA 1 4 HT_ HW_ hHeld ?_
  refine OG 2 5 HT_ Try.func71 (impl_GridOk.calls a0_0 a0_1 false _ A2.out) (fun K hK => ?_)
  rintro e w17 ⟨rfl, hb⟩
  refine ⟨_, rfl, ?_⟩
  replace BK104 := BB BK104 hb
  replace HB := BS HB hb
  clear hb
  refine HN hK ⟨CE BK104 0, CE BK104 1, CE BK104 2⟩ (fun hHeld => ?_)
  clear hK K
  refine PU 3 6 HT_ ?_
  refine PX 4 7 HT_ ?_
  refine PX 5 8 HT_ ?_
  refine PX 6 9 HT_ ?_
  refine PU 7 10 HT_ ?_
  refine PU 8 11 HT_ ?_
  refine PX 9 12 HT_ ?_
  refine PX 10 13 HT_ ?_
  refine PX 11 14 HT_ ?_
  refine PX 12 15 HT_ ?_
  refine PX 13 16 HT_ ?_
  refine PX 14 17 HT_ ?_
  refine PX 15 18 HT_ ?_
  refine PU 16 19 HT_ ?_
  refine PU 17 2 HT_ ?_
  refine done_ (done_of HT_.out (by kernel_rfl)) ?_
  try go_wp2
  go_ret
  exact ⟨RZ, BZ⟩

def impl_CountCells.f (a0_0 : Int) (a0_1 : Int) : Option (Int) := (impl_GridOk.f a0_0 a0_1).bind fun t108 => (if t108 = true then (some (wrap64 (a0_0 * a0_1))) else (some 0))
set_option maxHeartbeats 8000000 in
set_option maxRecDepth 100000 in
theorem impl_CountCells.calls (a0_0 : Int) (a0_1 : Int) (r : Int) (w : World) (h : impl_CountCells.f a0_0 a0_1 = some r) :
  Calls Try.prog 40 #[.agg #[.int .i64 a0_0, .int .i64 a0_1]] w fun e w' => e = .returned (.int .i64 r) ∧ Below w.heap.size w w' := by
 have hu28 := Try.underlying28
 have HB := Aside0.mk (Below.refl w.heap.size w)
 have H := h
 unfold impl_CountCells.f at H
 clear h
 obtain ⟨t108, A2, H⟩ := BD H
 by_cases c3 : t108 = true
 ·subst c3
  replace H := IT H
  obtain rfl := Option.some.inj H
  go_enter Try.func40, Try.ntmps40
  go_wp2_with (first | ((with_reducible refine gate_dst (N := 1) rfl ?_); refine BX 1 28 #[.int .i64 a0_0, .int .i64 a0_1] ?_; intro gb107 hg w4 hbox hb; have BK107 := Aside0.mk (hbox); have GW107 := (GS hg : Aside0 (w.heap.size ≤ gb107)); have GE107 := GW107; replace HB := BS HB hb; clear hb hbox hg; obtain ⟨hcz5_0, hcz5_1, hfz5_0, hfz5_1⟩ := CZ2 BK107) | ((with_reducible refine GC 71 rfl ?_); refine GL 4 Try.func71 (impl_GridOk.calls a0_0 a0_1 true _ A2.out) ?_; rintro e w6 ⟨rfl, hb⟩; refine ⟨_, rfl, ?_⟩; replace BK107 := BB BK107 hb; replace HB := BS HB hb; clear hb; obtain ⟨hcz7_0, hcz7_1, hfz7_0, hfz7_1⟩ := CZ2 BK107))
  go_ret
  exact ⟨RZ, BZ⟩
 ·replace c3 := Bool.eq_false_iff.mpr c3
  subst c3
  replace H := IE H
  obtain rfl := Option.some.inj H
  go_enter Try.func40, Try.ntmps40
  go_wp2_with (first | ((with_reducible refine gate_dst (N := 1) rfl ?_); refine BX 1 28 #[.int .i64 a0_0, .int .i64 a0_1] ?_; intro gb107 hg w8 hbox hb; have BK107 := Aside0.mk (hbox); have GW107 := (GS hg : Aside0 (w.heap.size ≤ gb107)); have GE107 := GW107; replace HB := BS HB hb; clear hb hbox hg; obtain ⟨hcz9_0, hcz9_1, hfz9_0, hfz9_1⟩ := CZ2 BK107) | ((with_reducible refine GC 71 rfl ?_); refine GL 4 Try.func71 (impl_GridOk.calls a0_0 a0_1 false _ A2.out) ?_; rintro e w10 ⟨rfl, hb⟩; refine ⟨_, rfl, ?_⟩; replace BK107 := BB BK107 hb; replace HB := BS HB hb; clear hb))
  go_ret
  exact ⟨RZ, BZ⟩

def impl_isCell.f (a0_0 : Int) (a0_1 : Int) (a1 : Int) : Option (Bool) := if a1 ≥ 0 then ((impl_CountCells.f a0_0 a0_1).bind fun t110 => (some (decide (a1 < t110)))) else (some false)
set_option maxHeartbeats 8000000 in
set_option maxRecDepth 100000 in
theorem impl_isCell.calls (a0_0 : Int) (a0_1 : Int) (a1 : Int) (r : Bool) (w : World) (h : impl_isCell.f a0_0 a0_1 a1 = some r) :
  Calls Try.prog 93 #[.agg #[.int .i64 a0_0, .int .i64 a0_1], .int .i64 a1] w fun e w' => e = .returned (.bool r) ∧ Below w.heap.size w w' := by
 have hu28 := Try.underlying28
 have HB := Aside0.mk (Below.refl w.heap.size w)
 have H := h
 unfold impl_isCell.f at H
 clear h
 by_cases c3 : a1 ≥ 0
 ·rw [if_pos c3] at H
  have c3b0 := decide_eq_true c3
  clear c3
  obtain ⟨t110, A4, H⟩ := BD H
  obtain rfl := Option.some.inj H
  go_enter Try.func93, Try.ntmps93
  go_wp2_with (first | ((with_reducible refine gate_dst (N := 2) rfl ?_); refine BX 2 28 #[.int .i64 a0_0, .int .i64 a0_1] ?_; intro gb109 hg w5 hbox hb; have BK109 := Aside0.mk (hbox); have GW109 := (GS hg : Aside0 (w.heap.size ≤ gb109)); have GE109 := GW109; replace HB := BS HB hb; clear hb hbox hg; obtain ⟨hcz6_0, hcz6_1, hfz6_0, hfz6_1⟩ := CZ2 BK109) | (go_at_call 40; (with_reducible refine (impl_CountCells.calls a0_0 a0_1 t110 _ A4.out).mono ?_); rintro e w7 ⟨rfl, hb⟩; replace BK109 := BB BK109 hb; replace HB := BS HB hb; clear hb))
  go_ret
  exact ⟨RZ, BZ⟩
 ·rw [if_neg c3] at H
  have c3b0 := decide_eq_false c3
  clear c3
  obtain rfl := Option.some.inj H
  go_enter Try.func93, Try.ntmps93
  go_wp2_with (first | ((with_reducible refine gate_dst (N := 2) rfl ?_); refine BX 2 28 #[.int .i64 a0_0, .int .i64 a0_1] ?_; intro gb109 hg w8 hbox hb; have BK109 := Aside0.mk (hbox); have GW109 := (GS hg : Aside0 (w.heap.size ≤ gb109)); have GE109 := GW109; replace HB := BS HB hb; clear hb hbox hg))
  go_ret
  exact ⟨RZ, BZ⟩


/-- The maze is valid, and each is one of its cells. -/
def impl_isIn.f (a0_0 : Int) (a0_1 : Int) (a0_2 : Int) (l1 : List Int) : Option (Bool) := (impl_MazeOk.f a0_0 a0_1 a0_2).bind fun t => if t = true then (impl_CountCells.f a0_0 a0_1).bind fun n => some (!l1.any (fun c => !(decide (c ≥ 0) && decide (c < n)))) else some false
theorem isCell_of (a b c n : Int) (h : impl_CountCells.f a b = some n) : impl_isCell.f a b c = some (decide (c ≥ 0) && decide (c < n)) := by
  unfold impl_isCell.f
  by_cases hc : c ≥ 0
  · rw [if_pos hc, h, decide_eq_true hc]; simp
  · rw [if_neg hc, decide_eq_false hc]; simp
set_option maxHeartbeats 400000 in
theorem isIn_pred (a b o n x : Int) (g : Nat) (W : World) (hn : impl_CountCells.f a b = some n) (hg : W.heap[g]? = some (.cells #[.int .i64 a, .int .i64 b, .int .i64 o] 30 (0, 0))) :
    Calls Try.prog 92 #[.int .i64 x, .pointer (some ⟨g, 0, none⟩)] W fun e w' => e = .returned (.bool (!(decide (x ≥ 0) && decide (x < n)))) ∧ Below W.heap.size W w' := by
  have hu28 := Try.underlying28
  have hu30 := Try.underlying30
  have c0 : W.cell? ⟨g, 0, none⟩ = some (.int .i64 a) := (blk_cell hg 0).trans rfl
  have c1 : W.cell? ⟨g, 1, none⟩ = some (.int .i64 b) := (blk_cell hg 1).trans rfl
  have hc := isCell_of a b x n hn
  generalize (decide (x ≥ 0) && decide (x < n)) = q at hc ⊢
  have HC := Aside0.mk hc
  clear hc hg hn
  go_enter Try.func92, Try.ntmps92
  go_wp2_with (go_at_call 93; refine (impl_isCell.calls a b x q _ HC.out).mono ?_; rintro e w' ⟨rfl, hb'⟩)
  go_ret
  exact ⟨rfl, hb'⟩
set_option maxHeartbeats 1000000 in
theorem impl_isIn.calls (a0_0 : Int) (a0_1 : Int) (a0_2 : Int) (A1 : Option Addr) (c1 : Nat) (l1 : List Int) (r : Bool) (w : World) (hr1 : Kd.C (Kd.int .i64) w A1 l1.length l1) (hc1 : l1.length ≤ c1) (h : impl_isIn.f a0_0 a0_1 a0_2 l1 = some r) :
    Calls Try.prog 61 #[.agg #[.int .i64 a0_0, .int .i64 a0_1, .int .i64 a0_2], .slice A1 l1.length c1] w fun e w' => e = .returned (.bool r) ∧ Below w.heap.size w w' := by
  have hu30 := Try.underlying30
  have eg : ∀ args w, (callFunc 92 args).run Try.prog w = .ok (.enter 92 args) w := enters_of Try.func92 (by kernel_rfl) rfl
  unfold impl_isIn.f at h
  obtain ⟨t, ht, h⟩ := Option.bind_eq_some_iff.1 h
  have HT := Aside0.mk ht
  clear ht
  cases t with
  | false =>
    rw [if_neg (by decide)] at h
    obtain rfl := Option.some.inj h
    clear h hr1
    go_enter Try.func61, Try.ntmps61
    go_wp2_with (go_at_call 38; refine (impl_MazeOk.calls a0_0 a0_1 a0_2 false _ HT.out).mono ?_; rintro e w' ⟨rfl, hb'⟩)
    go_ret
    exact ⟨rfl, ((Below.refl _ _).alloc (Nat.le_refl _) _).trans (hb'.mono (by simp))⟩
  | true =>
    rw [if_pos rfl] at h
    obtain ⟨n, hn, h⟩ := Option.bind_eq_some_iff.1 h
    obtain rfl := Option.some.inj h
    clear h
    have hcon := fun (W : World) (hb : Below (w.heap.size + 1) (w.alloc (.cells #[.int .i64 a0_0, .int .i64 a0_1, .int .i64 a0_2] 30)) W) =>
      Funcs.ContainsFunc_any (fun c => !(decide (c ≥ 0) && decide (c < n))) 92 #[.pointer (some ⟨w.heap.size, 0, none⟩)] eg A1 c1 l1 W (fun W' x hb' => by
        have hg : W'.heap[w.heap.size]? = some (.cells #[.int .i64 a0_0, .int .i64 a0_1, .int .i64 a0_2] 30 (0, 0)) := by
          have h1 : W.heap[w.heap.size]? = some (.cells #[.int .i64 a0_0, .int .i64 a0_1, .int .i64 a0_2] 30 (0, 0)) := by
            rw [hb.block _ (by omega)]
            exact (MapKept.heap_alloc w _).1
          rw [hb'.block _ (Array.getElem?_eq_some_iff.1 h1).1]
          exact h1
        exact (isIn_pred a0_0 a0_1 a0_2 n x w.heap.size W' hn hg).mono fun e w' ⟨h1, h2⟩ => ⟨h1, hb'.trans (h2.mono hb'.size)⟩)
        (Kd.C_below hr1 (((Below.refl _ _).alloc (Nat.le_refl _) _).trans (hb.mono (by omega))))
    clear hr1
    generalize l1.any (fun c => !(decide (c ≥ 0) && decide (c < n))) = q at hcon ⊢
    clear hn
    go_enter Try.func61, Try.ntmps61
    go_wp2_with (first | (go_at_call 38; refine (impl_MazeOk.calls a0_0 a0_1 a0_2 true _ HT.out).mono ?_; rintro e w1 ⟨rfl, hb1⟩) | (go_at_call 73; refine (hcon _ (by simpa using hb1)).mono ?_; rintro e w2 ⟨rfl, hb2⟩))
    go_ret
    exact ⟨rfl, (((Below.refl _ _).alloc (Nat.le_refl _) _).trans (hb1.mono (by simp))).trans (hb2.mono (by have := hb1.size; simp at this; omega))⟩


def impl_isDirection.f (a0 : Int) : Option (Bool) := if a0 ≥ 0 then (some (decide (a0 ≤ 3))) else (some false)
set_option maxHeartbeats 8000000 in
set_option maxRecDepth 100000 in
theorem impl_isDirection.calls (a0 : Int) (r : Bool) (w : World) (h : impl_isDirection.f a0 = some r) :
  Calls Try.prog 83 #[.int .i64 a0] w fun e w' => e = .returned (.bool r) ∧ Drawn0 w w' := by
 have H := h
 unfold impl_isDirection.f at H
 clear h
 by_cases c2 : a0 ≥ 0
 ·rw [if_pos c2] at H
  have c2b0 := decide_eq_true c2
  clear c2
  obtain rfl := Option.some.inj H
  go_enter Try.func83, Try.ntmps83
  go_wp2
  go_ret
  exact ⟨by first | rfl | (simp; done) | (simp [*]; done), DZ⟩
 ·rw [if_neg c2] at H
  have c2b0 := decide_eq_false c2
  clear c2
  obtain rfl := Option.some.inj H
  go_enter Try.func83, Try.ntmps83
  go_wp2
  go_ret
  exact ⟨by first | rfl | (simp; done) | (simp [*]; done), DZ⟩

def impl_WalkerOk.f (a0_0 : Int) (a0_1 : Int) (a0_2 : Int) (a1_0 : Int) (a1_1 : Int) : Option (Bool) := (impl_isIn.f a0_0 a0_1 a0_2 (([a1_0] : List Int))).bind fun t116 => (if t116 = true then ((impl_isDirection.f a1_1).bind fun t117 => (some t117)) else (some false))
set_option maxHeartbeats 8000000 in
set_option maxRecDepth 100000 in
theorem impl_WalkerOk.calls (a0_0 : Int) (a0_1 : Int) (a0_2 : Int) (a1_0 : Int) (a1_1 : Int) (r : Bool) (w : World) (h : impl_WalkerOk.f a0_0 a0_1 a0_2 a1_0 a1_1 = some r) :
  Calls Try.prog 50 #[.agg #[.int .i64 a0_0, .int .i64 a0_1, .int .i64 a0_2], .agg #[.int .i64 a1_0, .int .i64 a1_1]] w fun e w' => e = .returned (.bool r) ∧ Below w.heap.size w w' := by
 have hu30 := Try.underlying30
 have hu43 := Try.underlying43
 have HB := Aside0.mk (Below.refl w.heap.size w)
 have H := h
 unfold impl_WalkerOk.f at H
 clear h
 generalize hy113 : ((([a1_0] : List Int)) : List Int) = y113 at H
 have Ny113 := Aside0.mk hy113.symm
 clear hy113
 obtain ⟨t116, A3, H⟩ := BD H
 by_cases c4 : t116 = true
 ·subst c4
  replace H := IT H
  obtain ⟨t117, A5, H⟩ := BD H
  obtain rfl := Option.some.inj H
  go_enter Try.func50, Try.ntmps50
  go_wp2_with (first | ((with_reducible refine gate_dst (N := 2) rfl ?_); refine BX 2 30 #[.int .i64 a0_0, .int .i64 a0_1, .int .i64 a0_2] ?_; intro gb111 hg w6 hbox hb; have BK111 := Aside0.mk (hbox); have GW111 := (GS hg : Aside0 (w.heap.size ≤ gb111)); have GE111 := GW111; replace HB := BS HB hb; clear hb hbox hg) | ((with_reducible refine gate_dst (N := 3) rfl ?_); refine BX 3 43 #[.int .i64 a1_0, .int .i64 a1_1] ?_; intro gb112 hg w7 hbox hb; have BK112 := Aside0.mk (hbox); have GW112 := (GS hg : Aside0 (w.heap.size ≤ gb112)); have GE112 := GW112; have NB111_112 := NL BK111 hg; have NB112_111 := NG BK111 hg; replace BK111 := BB BK111 hb; replace HB := BS HB hb; clear hb hbox hg; have hnb8 := NB111_112.out; have hnc8 := NB112_111.out; obtain ⟨hcz9_0, hcz9_1, hcz9_2, hfz9_0, hfz9_1, hfz9_2⟩ := CZ3 BK111; obtain ⟨hcz10_0, hcz10_1, hfz10_0, hfz10_1⟩ := CZ2 BK112) | ((with_reducible refine gate_dst (N := 8) rfl ?_); refine Kd.R_lit (Kd.int .i64) _ 3 ?hg (N := 8) ?hd (xs := ([a1_0] : List Int)) (inner := [.int .i64 a1_0]) (ok := fun _ => True) (okp := fun _ => True) ?hr ?hp (fun _ hk => hk) trivial (Below.refl _ _) (Nat.le_refl _) (by simp) ?_; (case hd => rfl); (case hg => rfl); (case hr => first | (go_simp; done) | (go_simp; rfl)); (case hp => exact (Reps.one (show Kd.M (Kd.int .i64) _ _ _ a1_0 [.int .i64 a1_0] from rfl) (Reps.none _ _))); intro v114 w11 ho12 hb hg_ hnew_; clear hg_ hnew_; (first | rw [← Ny113.out] at ho12 | (simp only [Int.reduceToNat] at ho12; rw [← Ny113.out] at ho12)); have HO115 := Aside0.mk (Kd.R_lower ho12 (below_size BZ)); replace BK111 := BB BK111 hb; replace BK112 := BB BK112 hb; replace HB := BS HB hb; clear hb ho12; obtain ⟨Ao13, co13, eo13⟩ := Kd.R_slice HO115.out; subst eo13) | ((with_reducible refine GC 61 rfl ?_); refine GL 9 Try.func61 (impl_isIn.calls a0_0 a0_1 a0_2 _ _ y113 true _ (CR HO115) (CL HO115) A3.out) ?_; rintro e w14 ⟨rfl, hb⟩; refine ⟨_, rfl, ?_⟩; replace HO115 := RB HO115 hb; replace BK111 := BB BK111 hb; replace BK112 := BB BK112 hb; replace HB := BS HB hb; clear hb; obtain ⟨hcz15_0, hcz15_1, hfz15_0, hfz15_1⟩ := CZ2 BK112) | (go_at_call 83; (with_reducible refine (impl_isDirection.calls a1_1 t117 _ A5.out).mono ?_); rintro e w' ⟨rfl, ⟨nd, rfl⟩⟩))
  go_ret
  exact ⟨RZ, BZ⟩
 ·replace c4 := Bool.eq_false_iff.mpr c4
  subst c4
  replace H := IE H
  obtain rfl := Option.some.inj H
  go_enter Try.func50, Try.ntmps50
  go_wp2_with (first | ((with_reducible refine gate_dst (N := 2) rfl ?_); refine BX 2 30 #[.int .i64 a0_0, .int .i64 a0_1, .int .i64 a0_2] ?_; intro gb111 hg w16 hbox hb; have BK111 := Aside0.mk (hbox); have GW111 := (GS hg : Aside0 (w.heap.size ≤ gb111)); have GE111 := GW111; replace HB := BS HB hb; clear hb hbox hg) | ((with_reducible refine gate_dst (N := 3) rfl ?_); refine BX 3 43 #[.int .i64 a1_0, .int .i64 a1_1] ?_; intro gb112 hg w17 hbox hb; have BK112 := Aside0.mk (hbox); have GW112 := (GS hg : Aside0 (w.heap.size ≤ gb112)); have GE112 := GW112; have NB111_112 := NL BK111 hg; have NB112_111 := NG BK111 hg; replace BK111 := BB BK111 hb; replace HB := BS HB hb; clear hb hbox hg; have hnb18 := NB111_112.out; have hnc18 := NB112_111.out; obtain ⟨hcz19_0, hcz19_1, hcz19_2, hfz19_0, hfz19_1, hfz19_2⟩ := CZ3 BK111; obtain ⟨hcz20_0, hcz20_1, hfz20_0, hfz20_1⟩ := CZ2 BK112) | ((with_reducible refine gate_dst (N := 8) rfl ?_); refine Kd.R_lit (Kd.int .i64) _ 3 ?hg (N := 8) ?hd (xs := ([a1_0] : List Int)) (inner := [.int .i64 a1_0]) (ok := fun _ => True) (okp := fun _ => True) ?hr ?hp (fun _ hk => hk) trivial (Below.refl _ _) (Nat.le_refl _) (by simp) ?_; (case hd => rfl); (case hg => rfl); (case hr => first | (go_simp; done) | (go_simp; rfl)); (case hp => exact (Reps.one (show Kd.M (Kd.int .i64) _ _ _ a1_0 [.int .i64 a1_0] from rfl) (Reps.none _ _))); intro v114 w21 ho22 hb hg_ hnew_; clear hg_ hnew_; (first | rw [← Ny113.out] at ho22 | (simp only [Int.reduceToNat] at ho22; rw [← Ny113.out] at ho22)); have HO115 := Aside0.mk (Kd.R_lower ho22 (below_size BZ)); replace BK111 := BB BK111 hb; replace BK112 := BB BK112 hb; replace HB := BS HB hb; clear hb ho22; obtain ⟨Ao23, co23, eo23⟩ := Kd.R_slice HO115.out; subst eo23) | ((with_reducible refine GC 61 rfl ?_); refine GL 9 Try.func61 (impl_isIn.calls a0_0 a0_1 a0_2 _ _ y113 false _ (CR HO115) (CL HO115) A3.out) ?_; rintro e w24 ⟨rfl, hb⟩; refine ⟨_, rfl, ?_⟩; replace HO115 := RB HO115 hb; replace BK111 := BB BK111 hb; replace BK112 := BB BK112 hb; replace HB := BS HB hb; clear hb))
  go_ret
  exact ⟨RZ, BZ⟩

def impl_isOpen.f (a0_0 : Int) (a0_1 : Int) (a0_2 : Int) (a1 : Int) : Option (Bool) := if a1 ≥ 0 then (if 0 ≤ a1 then (some ((Go.bits .and .i64 (shr .i64 a0_2 a1) 1) == 1)) else (none)) else (some false)
set_option maxHeartbeats 8000000 in
set_option maxRecDepth 100000 in
theorem impl_isOpen.calls (a0_0 : Int) (a0_1 : Int) (a0_2 : Int) (a1 : Int) (r : Bool) (w : World) (h : impl_isOpen.f a0_0 a0_1 a0_2 a1 = some r) :
  Calls Try.prog 86 #[.agg #[.int .i64 a0_0, .int .i64 a0_1, .int .i64 a0_2], .int .i64 a1] w fun e w' => e = .returned (.bool r) ∧ Below w.heap.size w w' := by
 have hu30 := Try.underlying30
 have HB := Aside0.mk (Below.refl w.heap.size w)
 have H := h
 unfold impl_isOpen.f at H
 clear h
 by_cases c3 : a1 ≥ 0
 ·rw [if_pos c3] at H
  have c3b0 := decide_eq_true c3
  clear c3
  by_cases c4 : 0 ≤ a1
  ·rw [if_pos c4] at H
   have c4b0 := eq_true c4
   have c4b1 := decide_eq_true c4
   clear c4
   obtain ⟨ji5, hji5⟩ : ∃ j_ : Int, (shr .i64 a0_2 a1) = j_ := ⟨_, rfl⟩
   replace H : (some ((Go.bits .and .i64 (ji5) 1) == 1)) = some r := by first | (rw [hji5] at H; exact H) | (simp only [hji5] at H ⊢; exact H)
   have hji5_ : (a0_2 / 2 ^ min a1.toNat 64) = ji5 := hji5
   have hji5z : a1 ≤ 64 → (a0_2 / 2 ^ a1.toNat) = ji5 := shr_small hji5
   obtain rfl := Option.some.inj H
   go_enter Try.func86, Try.ntmps86
   go_wp2_with (first | ((with_reducible refine gate_dst (N := 2) rfl ?_); refine BX 2 30 #[.int .i64 a0_0, .int .i64 a0_1, .int .i64 a0_2] ?_; intro gb118 hg w6 hbox hb; have BK118 := Aside0.mk (hbox); have GW118 := (GS hg : Aside0 (w.heap.size ≤ gb118)); have GE118 := GW118; replace HB := BS HB hb; clear hb hbox hg; obtain ⟨hcz7_0, hcz7_1, hcz7_2, hfz7_0, hfz7_1, hfz7_2⟩ := CZ3 BK118))
   go_ret
   exact ⟨by first | rfl | (simp [errW_none, errW_some] <;> rfl) | (simp only [← hji5]; first | rfl | (simp [errW_none, errW_some] <;> rfl)) | (simp [*, errW_none, errW_some] <;> rfl), BZ⟩
  ·exact absurd (of_decide_eq_true c3b0) c4
 ·rw [if_neg c3] at H
  have c3b0 := decide_eq_false c3
  clear c3
  obtain rfl := Option.some.inj H
  go_enter Try.func86, Try.ntmps86
  go_wp2_with (first | ((with_reducible refine gate_dst (N := 2) rfl ?_); refine BX 2 30 #[.int .i64 a0_0, .int .i64 a0_1, .int .i64 a0_2] ?_; intro gb118 hg w8 hbox hb; have BK118 := Aside0.mk (hbox); have GW118 := (GS hg : Aside0 (w.heap.size ≤ gb118)); have GE118 := GW118; replace HB := BS HB hb; clear hb hbox hg))
  go_ret
  exact ⟨RZ, BZ⟩

mutual
def impl_Neighbor.j0 : Nat → Int → Int → Int → Int → Bool → Int → Int → Option (Int)
 | 0, _, _, _, _, _, _, _ => none
 | k + 1, x1, x2, x7, x8, x21, x120000, x120001 => if x21 = true then (some (wrap64 (x1 - x120000))) else (if x2 = 1 then (impl_Neighbor.j1 k x1 x2 x7 x8 (decide (x7 < (wrap64 (x120000 - 1)))) x120000 x120001) else (impl_Neighbor.j1 k x1 x2 x7 x8 false x120000 x120001))
def impl_Neighbor.j1 : Nat → Int → Int → Int → Int → Bool → Int → Int → Option (Int)
 | 0, _, _, _, _, _, _, _ => none
 | k + 1, x1, x2, x7, x8, x32, x120000, x120001 => if x32 = true then (some (wrap64 (x1 + 1))) else (if x2 = 2 then (impl_Neighbor.j2 k x1 x2 x7 (decide (x8 < (wrap64 (x120001 - 1)))) x120000 x120001) else (impl_Neighbor.j2 k x1 x2 x7 false x120000 x120001))
def impl_Neighbor.j2 : Nat → Int → Int → Int → Bool → Int → Int → Option (Int)
 | 0, _, _, _, _, _, _ => none
 | k + 1, x1, x2, x7, x44, x120000, x120001 => if x44 = true then (some (wrap64 (x1 + x120000))) else (if x2 = 3 then (if x7 > 0 then (some (wrap64 (x1 - 1))) else (some (-1))) else (some (-1)))
end
def impl_Neighbor.f (k : Nat) (a0_0 : Int) (a0_1 : Int) (a1 : Int) (a2 : Int) : Option (Int) := (impl_isCell.f a0_0 a0_1 a1).bind fun t120 => (if t120 = true then (if a0_0 = 0 then (none) else (if a2 = 0 then (impl_Neighbor.j0 k a1 a2 (Int.tmod a1 a0_0) (wrap64 (Int.tdiv a1 a0_0)) (decide ((wrap64 (Int.tdiv a1 a0_0)) > 0)) a0_0 a0_1) else (impl_Neighbor.j0 k a1 a2 (Int.tmod a1 a0_0) (wrap64 (Int.tdiv a1 a0_0)) false a0_0 a0_1))) else (some (-1)))
theorem impl_Neighbor.mono_l : ∀ k, (∀ y0 y1 y2 y3 y4 y5 y6, LeO (impl_Neighbor.j0 k y0 y1 y2 y3 y4 y5 y6) (impl_Neighbor.j0 (k + 1) y0 y1 y2 y3 y4 y5 y6)) ∧ (∀ y0 y1 y2 y3 y4 y5 y6, LeO (impl_Neighbor.j1 k y0 y1 y2 y3 y4 y5 y6) (impl_Neighbor.j1 (k + 1) y0 y1 y2 y3 y4 y5 y6)) ∧ (∀ y0 y1 y2 y3 y4 y5, LeO (impl_Neighbor.j2 k y0 y1 y2 y3 y4 y5) (impl_Neighbor.j2 (k + 1) y0 y1 y2 y3 y4 y5))
 | 0 => ⟨fun _ _ _ _ _ _ _ r h => by simp [impl_Neighbor.j0] at h, fun _ _ _ _ _ _ _ r h => by simp [impl_Neighbor.j1] at h, fun _ _ _ _ _ _ r h => by simp [impl_Neighbor.j2] at h⟩
 | k + 1 => by
  obtain ⟨ih0, ih1, ih2⟩ := impl_Neighbor.mono_l k
  refine ⟨?_, ?_, ?_⟩
  ·intro y0 y1 y2 y3 y4 y5 y6
   unfold impl_Neighbor.j0
   repeat' first
   | (with_reducible exact ih0 _ _ _ _ _ _ _)
   | (with_reducible exact ih1 _ _ _ _ _ _ _)
   | (with_reducible exact ih2 _ _ _ _ _ _)
   | (with_reducible exact LeO.refl _)
   | (with_reducible exact LeO.none _)
   | (with_reducible refine LeO.ite ?_ ?_)
   | (with_reducible refine LeO.bind ?_ (fun _ => ?_))
   | exact ih0 _ _ _ _ _ _ _
   | exact ih1 _ _ _ _ _ _ _
   | exact ih2 _ _ _ _ _ _
   | exact LeO.none _
   | refine LeO.ite ?_ ?_
   | refine LeO.bind ?_ (fun _ => ?_)
  ·intro y0 y1 y2 y3 y4 y5 y6
   unfold impl_Neighbor.j1
   repeat' first
   | (with_reducible exact ih0 _ _ _ _ _ _ _)
   | (with_reducible exact ih1 _ _ _ _ _ _ _)
   | (with_reducible exact ih2 _ _ _ _ _ _)
   | (with_reducible exact LeO.refl _)
   | (with_reducible exact LeO.none _)
   | (with_reducible refine LeO.ite ?_ ?_)
   | (with_reducible refine LeO.bind ?_ (fun _ => ?_))
   | exact ih0 _ _ _ _ _ _ _
   | exact ih1 _ _ _ _ _ _ _
   | exact ih2 _ _ _ _ _ _
   | exact LeO.none _
   | refine LeO.ite ?_ ?_
   | refine LeO.bind ?_ (fun _ => ?_)
  ·intro y0 y1 y2 y3 y4 y5
   unfold impl_Neighbor.j2
   repeat' first
   | (with_reducible exact ih0 _ _ _ _ _ _ _)
   | (with_reducible exact ih1 _ _ _ _ _ _ _)
   | (with_reducible exact ih2 _ _ _ _ _ _)
   | (with_reducible exact LeO.refl _)
   | (with_reducible exact LeO.none _)
   | (with_reducible refine LeO.ite ?_ ?_)
   | (with_reducible refine LeO.bind ?_ (fun _ => ?_))
   | exact ih0 _ _ _ _ _ _ _
   | exact ih1 _ _ _ _ _ _ _
   | exact ih2 _ _ _ _ _ _
   | exact LeO.none _
   | refine LeO.ite ?_ ?_
   | refine LeO.bind ?_ (fun _ => ?_)
theorem impl_Neighbor.mono : ∀ a0 a1 a2 a3 k, LeO (impl_Neighbor.f k a0 a1 a2 a3) (impl_Neighbor.f (k + 1) a0 a1 a2 a3) := by
 intro a0 a1 a2 a3 k
 obtain ⟨ih0, ih1, ih2⟩ := impl_Neighbor.mono_l k
 unfold impl_Neighbor.f
 repeat' first
   | (with_reducible exact ih0 _ _ _ _ _ _ _)
   | (with_reducible exact ih1 _ _ _ _ _ _ _)
   | (with_reducible exact ih2 _ _ _ _ _ _)
   | (with_reducible exact LeO.refl _)
   | (with_reducible exact LeO.none _)
   | (with_reducible refine LeO.ite ?_ ?_)
   | (with_reducible refine LeO.bind ?_ (fun _ => ?_))
   | exact ih0 _ _ _ _ _ _ _
   | exact ih1 _ _ _ _ _ _ _
   | exact ih2 _ _ _ _ _ _
   | exact LeO.none _
   | refine LeO.ite ?_ ?_
   | refine LeO.bind ?_ (fun _ => ?_)
set_option maxHeartbeats 8000000 in
set_option maxRecDepth 100000 in
theorem impl_Neighbor.calls (k : Nat) (a0_0 : Int) (a0_1 : Int) (a1 : Int) (a2 : Int) (r : Int) (w : World) (h : impl_Neighbor.f k a0_0 a0_1 a1 a2 = some r) :
  Calls Try.prog 88 #[.agg #[.int .i64 a0_0, .int .i64 a0_1], .int .i64 a1, .int .i64 a2] w fun e w' => e = .returned (.int .i64 r) ∧ Below w.heap.size w w' := by
 have hu28 := Try.underlying28
 have HB := Aside0.mk (Below.refl w.heap.size w)
 have H := h
 unfold impl_Neighbor.f at H
 clear h
 obtain ⟨t120, A4, H⟩ := BD H
 by_cases c5 : t120 = true
 ·subst c5
  replace H := IT H
  by_cases c6 : a0_0 = 0
  ·rw [if_pos c6] at H
   exact absurd H (by simp)
  ·rw [if_neg c6] at H
   obtain ⟨c6b0, c6b1⟩ := QF c6
   have HC7 := Aside0.mk H
   clear H
   go_enter Try.func88, Try.ntmps88
   go_upto_region 4 with (first | ((with_reducible refine gate_dst (N := 3) rfl ?_); refine BX 3 28 #[.int .i64 a0_0, .int .i64 a0_1] ?_; intro gb119 hg w8 hbox hb; have BK119 := Aside0.mk (hbox); have GW119 := (GS hg : Aside0 (w.heap.size ≤ gb119)); have GE119 := GW119; replace HB := BS HB hb; clear hb hbox hg; obtain ⟨hcz9_0, hcz9_1, hfz9_0, hfz9_1⟩ := CZ2 BK119) | (go_at_call 93; (with_reducible refine (impl_isCell.calls a0_0 a0_1 a1 true _ A4.out).mono ?_); rintro e w10 ⟨rfl, hb⟩; replace BK119 := BB BK119 hb; replace HB := BS HB hb; clear hb; obtain ⟨hcz11_0, hcz11_1, hfz11_0, hfz11_1⟩ := CZ2 BK119))
   repeat (go_quiet (first | ((with_reducible refine gate_dst (N := 3) rfl ?_); refine BX 3 28 #[.int .i64 a0_0, .int .i64 a0_1] ?_; intro gb119 hg w8 hbox hb; have BK119 := Aside0.mk (hbox); have GW119 := (GS hg : Aside0 (w.heap.size ≤ gb119)); have GE119 := GW119; replace HB := BS HB hb; clear hb hbox hg; obtain ⟨hcz9_0, hcz9_1, hfz9_0, hfz9_1⟩ := CZ2 BK119) | (go_at_call 93; (with_reducible refine (impl_isCell.calls a0_0 a0_1 a1 true _ A4.out).mono ?_); rintro e w10 ⟨rfl, hb⟩; replace BK119 := BB BK119 hb; replace HB := BS HB hb; clear hb; obtain ⟨hcz11_0, hcz11_1, hfz11_0, hfz11_1⟩ := CZ2 BK119)); go_upto_region 4 with (first | ((with_reducible refine gate_dst (N := 3) rfl ?_); refine BX 3 28 #[.int .i64 a0_0, .int .i64 a0_1] ?_; intro gb119 hg w8 hbox hb; have BK119 := Aside0.mk (hbox); have GW119 := (GS hg : Aside0 (w.heap.size ≤ gb119)); have GE119 := GW119; replace HB := BS HB hb; clear hb hbox hg; obtain ⟨hcz9_0, hcz9_1, hfz9_0, hfz9_1⟩ := CZ2 BK119) | (go_at_call 93; (with_reducible refine (impl_isCell.calls a0_0 a0_1 a1 true _ A4.out).mono ?_); rintro e w10 ⟨rfl, hb⟩; replace BK119 := BB BK119 hb; replace HB := BS HB hb; clear hb; obtain ⟨hcz11_0, hcz11_1, hfz11_0, hfz11_1⟩ := CZ2 BK119)))
   (try simp only [Act.put, List.setIfInBounds_toArray, List.set_cons_zero, List.set_cons_succ])
   go_cut [21] (fun v21 wc => ∃ (kq : Nat) (x21_6 : Bool), v21 = .bool x21_6 ∧ Aside0 (impl_Neighbor.j0 kq a1 a2 (Int.tmod a1 a0_0) (wrap64 (Int.tdiv a1 a0_0)) x21_6 a0_0 a0_1 = some r) ∧ Aside0 (kq ≤ k) ∧ Aside0 (wc.heap[gb119]? = some (.cells #[.int .i64 a0_0, .int .i64 a0_1] 28 (0, 0))) ∧ Aside0 (Below w.heap.size w wc))
   case first =>
    have H := HC7.out
    clear HC7
    by_cases c12 : a2 = 0
    ·rw [if_pos c12] at H
     obtain ⟨c12b0, c12b1⟩ := QT c12
     clear c12
     (first | rw [c12b0] | (simp only [i64_w, i32_w]; rw [c12b0]) | skip)
     have H' := Aside0.mk H
     clear H
     go_wp2
     repeat (go_quiet (fail); try go_wp2)
     go_meet
     case rel => exact ⟨_, (decide ((wrap64 (Int.tdiv a1 a0_0)) > 0)), VZ, H', ⟨by first | omega | exact Nat.le_refl _⟩, ⟨BKZ⟩, ⟨BZ⟩⟩
    ·rw [if_neg c12] at H
     obtain ⟨c12b0, c12b1⟩ := QF c12
     (first | rw [c12b0] | (simp only [i64_w, i32_w]; rw [c12b0]) | skip)
     have H' := Aside0.mk H
     clear H
     go_wp2
     repeat (go_quiet (fail); try go_wp2)
     go_meet
     case rel => exact ⟨_, (false), VZ, H', ⟨by first | omega | exact Nat.le_refl _⟩, ⟨BKZ⟩, ⟨BZ⟩⟩
   case rest =>
    clear HC7
    (try clear c6); (try clear c6b0); (try clear c6b1); (try clear hcz11_0); (try clear hcz11_1); (try clear hcz9_0); (try clear hcz9_1); (try clear hfz11_0); (try clear hfz11_1); (try clear hfz9_0); (try clear hfz9_1)
    obtain ⟨kq, x21_6, rfl, HA, HJ6, BK119, HB⟩ := hcut
    cases kq with
    | zero => exact absurd HA.out (by simp [impl_Neighbor.j0])
    | succ kj6 =>
     have H := HA.out
     clear HA
     simp only [impl_Neighbor.j0] at H
     by_cases c13 : x21_6 = true
     ·subst c13
      replace H := IT H
      obtain rfl := Option.some.inj H
      obtain ⟨hcz14_0, hcz14_1, hfz14_0, hfz14_1⟩ := CZ2 BK119
      go_wp2
      repeat (go_quiet (fail); try go_wp2)
      go_ret
      exact ⟨RZ, BZ⟩
     ·replace c13 := Bool.eq_false_iff.mpr c13
      subst c13
      replace H := IE H
      have HC15 := Aside0.mk H
      clear H
      go_upto_region 6 with (fail)
      repeat (go_quiet (fail); go_upto_region 6 with (fail))
      go_cut [32] (fun v32 wc => ∃ (kq : Nat) (x32_14 : Bool), v32 = .bool x32_14 ∧ Aside0 (impl_Neighbor.j1 kq a1 a2 (Int.tmod a1 a0_0) (wrap64 (Int.tdiv a1 a0_0)) x32_14 a0_0 a0_1 = some r) ∧ Aside0 (kq ≤ kj6) ∧ Aside0 (wc.heap[gb119]? = some (.cells #[.int .i64 a0_0, .int .i64 a0_1] 28 (0, 0))) ∧ Aside0 (Below w.heap.size w wc))
      case first =>
       have H := HC15.out
       clear HC15
       by_cases c16 : a2 = 1
       ·rw [if_pos c16] at H
        obtain ⟨c16b0, c16b1⟩ := QT c16
        clear c16
        (first | rw [c16b0] | (simp only [i64_w, i32_w]; rw [c16b0]) | skip)
        have H' := Aside0.mk H
        clear H
        obtain ⟨hcz17_0, hcz17_1, hfz17_0, hfz17_1⟩ := CZ2 BK119
        go_wp2
        repeat (go_quiet (fail); try go_wp2)
        go_meet
        case rel => exact ⟨_, (decide ((Int.tmod a1 a0_0) < (wrap64 (a0_0 - 1)))), VZ, H', ⟨by have := HJ6.out; first | omega | exact Nat.le_refl _⟩, ⟨BKZ⟩, ⟨BZ⟩⟩
       ·rw [if_neg c16] at H
        obtain ⟨c16b0, c16b1⟩ := QF c16
        (first | rw [c16b0] | (simp only [i64_w, i32_w]; rw [c16b0]) | skip)
        have H' := Aside0.mk H
        clear H
        go_wp2
        repeat (go_quiet (fail); try go_wp2)
        go_meet
        case rel => exact ⟨_, (false), VZ, H', ⟨by have := HJ6.out; first | omega | exact Nat.le_refl _⟩, ⟨BKZ⟩, ⟨BZ⟩⟩
      case rest =>
       clear HC15
       (try clear c6); (try clear c6b0); (try clear c6b1); (try clear c13); (try clear hcz11_0); (try clear hcz11_1); (try clear hcz9_0); (try clear hcz9_1); (try clear hfz11_0); (try clear hfz11_1); (try clear hfz9_0); (try clear hfz9_1)
       obtain ⟨kq, x32_14, rfl, HA, HJ14, BK119, HB⟩ := hcut
       cases kq with
       | zero => exact absurd HA.out (by simp [impl_Neighbor.j1])
       | succ kj14 =>
        have H := HA.out
        clear HA
        simp only [impl_Neighbor.j1] at H
        by_cases c18 : x32_14 = true
        ·subst c18
         replace H := IT H
         obtain rfl := Option.some.inj H
         go_wp2
         repeat (go_quiet (fail); try go_wp2)
         go_ret
         exact ⟨RZ, BZ⟩
        ·replace c18 := Bool.eq_false_iff.mpr c18
         subst c18
         replace H := IE H
         have HC19 := Aside0.mk H
         clear H
         go_upto_region 8 with (fail)
         repeat (go_quiet (fail); go_upto_region 8 with (fail))
         go_cut [44] (fun v44 wc => ∃ (kq : Nat) (x44_18 : Bool), v44 = .bool x44_18 ∧ Aside0 (impl_Neighbor.j2 kq a1 a2 (Int.tmod a1 a0_0) x44_18 a0_0 a0_1 = some r) ∧ Aside0 (kq ≤ kj14) ∧ Aside0 (wc.heap[gb119]? = some (.cells #[.int .i64 a0_0, .int .i64 a0_1] 28 (0, 0))) ∧ Aside0 (Below w.heap.size w wc))
         case first =>
          have H := HC19.out
          clear HC19
          by_cases c20 : a2 = 2
          ·rw [if_pos c20] at H
           obtain ⟨c20b0, c20b1⟩ := QT c20
           clear c20
           (first | rw [c20b0] | (simp only [i64_w, i32_w]; rw [c20b0]) | skip)
           have H' := Aside0.mk H
           clear H
           obtain ⟨hcz21_0, hcz21_1, hfz21_0, hfz21_1⟩ := CZ2 BK119
           go_wp2
           repeat (go_quiet (fail); try go_wp2)
           go_meet
           case rel => exact ⟨_, (decide ((wrap64 (Int.tdiv a1 a0_0)) < (wrap64 (a0_1 - 1)))), VZ, H', ⟨by have := HJ6.out; have := HJ14.out; first | omega | exact Nat.le_refl _⟩, ⟨BKZ⟩, ⟨BZ⟩⟩
          ·rw [if_neg c20] at H
           obtain ⟨c20b0, c20b1⟩ := QF c20
           (first | rw [c20b0] | (simp only [i64_w, i32_w]; rw [c20b0]) | skip)
           have H' := Aside0.mk H
           clear H
           go_wp2
           repeat (go_quiet (fail); try go_wp2)
           go_meet
           case rel => exact ⟨_, (false), VZ, H', ⟨by have := HJ6.out; have := HJ14.out; first | omega | exact Nat.le_refl _⟩, ⟨BKZ⟩, ⟨BZ⟩⟩
         case rest =>
          clear HC19
          (try clear c6); (try clear c6b0); (try clear c6b1); (try clear c13); (try clear c18); (try clear hcz11_0); (try clear hcz11_1); (try clear hcz9_0); (try clear hcz9_1); (try clear hfz11_0); (try clear hfz11_1); (try clear hfz9_0); (try clear hfz9_1)
          obtain ⟨kq, x44_18, rfl, HA, HJ18, BK119, HB⟩ := hcut
          cases kq with
          | zero => exact absurd HA.out (by simp [impl_Neighbor.j2])
          | succ kj18 =>
           have H := HA.out
           clear HA
           simp only [impl_Neighbor.j2] at H
           by_cases c22 : x44_18 = true
           ·subst c22
            replace H := IT H
            obtain rfl := Option.some.inj H
            obtain ⟨hcz23_0, hcz23_1, hfz23_0, hfz23_1⟩ := CZ2 BK119
            go_wp2
            repeat (go_quiet (fail); try go_wp2)
            go_ret
            exact ⟨RZ, BZ⟩
           ·replace c22 := Bool.eq_false_iff.mpr c22
            subst c22
            replace H := IE H
            by_cases c24 : a2 = 3
            ·rw [if_pos c24] at H
             obtain ⟨c24b0, c24b1⟩ := QT c24
             clear c24
             by_cases c25 : (Int.tmod a1 a0_0) > 0
             ·rw [if_pos c25] at H
              have c25b0 := decide_eq_true c25
              clear c25
              obtain rfl := Option.some.inj H
              go_wp2
              repeat (go_quiet (fail); try go_wp2)
              go_ret
              exact ⟨RZ, BZ⟩
             ·rw [if_neg c25] at H
              have c25b0 := decide_eq_false c25
              clear c25
              obtain rfl := Option.some.inj H
              go_wp2
              repeat (go_quiet (fail); try go_wp2)
              go_ret
              exact ⟨RZ, BZ⟩
            ·rw [if_neg c24] at H
             obtain ⟨c24b0, c24b1⟩ := QF c24
             obtain rfl := Option.some.inj H
             go_wp2
             repeat (go_quiet (fail); try go_wp2)
             go_ret
             exact ⟨RZ, BZ⟩
 ·replace c5 := Bool.eq_false_iff.mpr c5
  subst c5
  replace H := IE H
  obtain rfl := Option.some.inj H
  go_enter Try.func88, Try.ntmps88
  go_wp2_with (first | ((with_reducible refine gate_dst (N := 3) rfl ?_); refine BX 3 28 #[.int .i64 a0_0, .int .i64 a0_1] ?_; intro gb119 hg w26 hbox hb; have BK119 := Aside0.mk (hbox); have GW119 := (GS hg : Aside0 (w.heap.size ≤ gb119)); have GE119 := GW119; replace HB := BS HB hb; clear hb hbox hg; obtain ⟨hcz27_0, hcz27_1, hfz27_0, hfz27_1⟩ := CZ2 BK119) | (go_at_call 93; (with_reducible refine (impl_isCell.calls a0_0 a0_1 a1 false _ A4.out).mono ?_); rintro e w28 ⟨rfl, hb⟩; replace BK119 := BB BK119 hb; replace HB := BS HB hb; clear hb))
  repeat (go_quiet (first | ((with_reducible refine gate_dst (N := 3) rfl ?_); refine BX 3 28 #[.int .i64 a0_0, .int .i64 a0_1] ?_; intro gb119 hg w26 hbox hb; have BK119 := Aside0.mk (hbox); have GW119 := (GS hg : Aside0 (w.heap.size ≤ gb119)); have GE119 := GW119; replace HB := BS HB hb; clear hb hbox hg; obtain ⟨hcz27_0, hcz27_1, hfz27_0, hfz27_1⟩ := CZ2 BK119) | (go_at_call 93; (with_reducible refine (impl_isCell.calls a0_0 a0_1 a1 false _ A4.out).mono ?_); rintro e w28 ⟨rfl, hb⟩; replace BK119 := BB BK119 hb; replace HB := BS HB hb; clear hb)); try go_wp2_with (first | ((with_reducible refine gate_dst (N := 3) rfl ?_); refine BX 3 28 #[.int .i64 a0_0, .int .i64 a0_1] ?_; intro gb119 hg w26 hbox hb; have BK119 := Aside0.mk (hbox); have GW119 := (GS hg : Aside0 (w.heap.size ≤ gb119)); have GE119 := GW119; replace HB := BS HB hb; clear hb hbox hg; obtain ⟨hcz27_0, hcz27_1, hfz27_0, hfz27_1⟩ := CZ2 BK119) | (go_at_call 93; (with_reducible refine (impl_isCell.calls a0_0 a0_1 a1 false _ A4.out).mono ?_); rintro e w28 ⟨rfl, hb⟩; replace BK119 := BB BK119 hb; replace HB := BS HB hb; clear hb)))
  go_ret
  exact ⟨RZ, BZ⟩

def impl_GapAt.f (k : Nat) (a0_0 : Int) (a0_1 : Int) (a1 : Int) (a2 : Int) : Option (Int) := (impl_Neighbor.f k a0_0 a0_1 a1 a2).bind fun t122 => (if t122 < 0 then (some (-1)) else (if a2 = 1 then (if a0_0 = 0 then (none) else (some (wrap64 ((wrap64 ((wrap64 (Int.tdiv (mn a1 t122) a0_0)) * (wrap64 (a0_0 - 1)))) + (Int.tmod (mn a1 t122) a0_0))))) else (if a2 = 3 then (if a0_0 = 0 then (none) else (some (wrap64 ((wrap64 ((wrap64 (Int.tdiv (mn a1 t122) a0_0)) * (wrap64 (a0_0 - 1)))) + (Int.tmod (mn a1 t122) a0_0))))) else (some (wrap64 ((wrap64 ((wrap64 (a0_0 - 1)) * a0_1)) + (mn a1 t122)))))))
theorem impl_GapAt.mono : ∀ a0 a1 a2 a3 k, LeO (impl_GapAt.f k a0 a1 a2 a3) (impl_GapAt.f (k + 1) a0 a1 a2 a3) := by
 intro a0 a1 a2 a3 k
 unfold impl_GapAt.f
 repeat' first
   | (with_reducible exact impl_Neighbor.mono _ _ _ _ _)
   | (with_reducible exact LeO.refl _)
   | (with_reducible exact LeO.none _)
   | (with_reducible refine LeO.ite ?_ ?_)
   | (with_reducible refine LeO.bind ?_ (fun _ => ?_))
   | exact impl_Neighbor.mono _ _ _ _ _
   | exact LeO.none _
   | refine LeO.ite ?_ ?_
   | refine LeO.bind ?_ (fun _ => ?_)
set_option maxHeartbeats 8000000 in
set_option maxRecDepth 100000 in
theorem impl_GapAt.calls (k : Nat) (a0_0 : Int) (a0_1 : Int) (a1 : Int) (a2 : Int) (r : Int) (w : World) (h : impl_GapAt.f k a0_0 a0_1 a1 a2 = some r) :
  Calls Try.prog 87 #[.agg #[.int .i64 a0_0, .int .i64 a0_1], .int .i64 a1, .int .i64 a2] w fun e w' => e = .returned (.int .i64 r) ∧ Below w.heap.size w w' := by
 have hu28 := Try.underlying28
 have HB := Aside0.mk (Below.refl w.heap.size w)
 have H := h
 unfold impl_GapAt.f at H
 clear h
 obtain ⟨t122, A4, H⟩ := BD H
 by_cases c5 : t122 < 0
 ·rw [if_pos c5] at H
  have c5b0 := decide_eq_true c5
  clear c5
  obtain rfl := Option.some.inj H
  go_enter Try.func87, Try.ntmps87
  go_wp2_with (first | ((with_reducible refine gate_dst (N := 3) rfl ?_); refine BX 3 28 #[.int .i64 a0_0, .int .i64 a0_1] ?_; intro gb121 hg w6 hbox hb; have BK121 := Aside0.mk (hbox); have GW121 := (GS hg : Aside0 (w.heap.size ≤ gb121)); have GE121 := GW121; replace HB := BS HB hb; clear hb hbox hg; obtain ⟨hcz7_0, hcz7_1, hfz7_0, hfz7_1⟩ := CZ2 BK121) | (go_at_call 88; (with_reducible refine (impl_Neighbor.calls k a0_0 a0_1 a1 a2 t122 _ A4.out).mono ?_); rintro e w8 ⟨rfl, hb⟩; replace BK121 := BB BK121 hb; replace HB := BS HB hb; clear hb))
  repeat (go_quiet (first | ((with_reducible refine gate_dst (N := 3) rfl ?_); refine BX 3 28 #[.int .i64 a0_0, .int .i64 a0_1] ?_; intro gb121 hg w6 hbox hb; have BK121 := Aside0.mk (hbox); have GW121 := (GS hg : Aside0 (w.heap.size ≤ gb121)); have GE121 := GW121; replace HB := BS HB hb; clear hb hbox hg; obtain ⟨hcz7_0, hcz7_1, hfz7_0, hfz7_1⟩ := CZ2 BK121) | (go_at_call 88; (with_reducible refine (impl_Neighbor.calls k a0_0 a0_1 a1 a2 t122 _ A4.out).mono ?_); rintro e w8 ⟨rfl, hb⟩; replace BK121 := BB BK121 hb; replace HB := BS HB hb; clear hb)); try go_wp2_with (first | ((with_reducible refine gate_dst (N := 3) rfl ?_); refine BX 3 28 #[.int .i64 a0_0, .int .i64 a0_1] ?_; intro gb121 hg w6 hbox hb; have BK121 := Aside0.mk (hbox); have GW121 := (GS hg : Aside0 (w.heap.size ≤ gb121)); have GE121 := GW121; replace HB := BS HB hb; clear hb hbox hg; obtain ⟨hcz7_0, hcz7_1, hfz7_0, hfz7_1⟩ := CZ2 BK121) | (go_at_call 88; (with_reducible refine (impl_Neighbor.calls k a0_0 a0_1 a1 a2 t122 _ A4.out).mono ?_); rintro e w8 ⟨rfl, hb⟩; replace BK121 := BB BK121 hb; replace HB := BS HB hb; clear hb)))
  go_ret
  exact ⟨RZ, BZ⟩
 ·rw [if_neg c5] at H
  have c5b0 := decide_eq_false c5
  clear c5
  obtain ⟨ji9, hji9⟩ : ∃ j_ : Int, (mn a1 t122) = j_ := ⟨_, rfl⟩
  replace H : (if a2 = 1 then (if a0_0 = 0 then (none) else (some (wrap64 ((wrap64 ((wrap64 (Int.tdiv (ji9) a0_0)) * (wrap64 (a0_0 - 1)))) + (Int.tmod (ji9) a0_0))))) else (if a2 = 3 then (if a0_0 = 0 then (none) else (some (wrap64 ((wrap64 ((wrap64 (Int.tdiv (ji9) a0_0)) * (wrap64 (a0_0 - 1)))) + (Int.tmod (ji9) a0_0))))) else (some (wrap64 ((wrap64 ((wrap64 (a0_0 - 1)) * a0_1)) + (ji9)))))) = some r := by first | (rw [hji9] at H; exact H) | (simp only [hji9] at H ⊢; exact H)
  (try rw [hji9] at A4)
  have hji9_ : (if t122 < a1 then t122 else a1) = ji9 := hji9
  by_cases c10 : a2 = 1
  ·rw [if_pos c10] at H
   obtain ⟨c10b0, c10b1⟩ := QT c10
   clear c10
   by_cases c11 : a0_0 = 0
   ·rw [if_pos c11] at H
    exact absurd H (by simp)
   ·rw [if_neg c11] at H
    obtain ⟨c11b0, c11b1⟩ := QF c11
    obtain rfl := Option.some.inj H
    go_enter Try.func87, Try.ntmps87
    go_wp2_with (first | ((with_reducible refine gate_dst (N := 3) rfl ?_); refine BX 3 28 #[.int .i64 a0_0, .int .i64 a0_1] ?_; intro gb121 hg w12 hbox hb; have BK121 := Aside0.mk (hbox); have GW121 := (GS hg : Aside0 (w.heap.size ≤ gb121)); have GE121 := GW121; replace HB := BS HB hb; clear hb hbox hg; obtain ⟨hcz13_0, hcz13_1, hfz13_0, hfz13_1⟩ := CZ2 BK121) | (go_at_call 88; (with_reducible refine (impl_Neighbor.calls k a0_0 a0_1 a1 a2 t122 _ A4.out).mono ?_); rintro e w14 ⟨rfl, hb⟩; replace BK121 := BB BK121 hb; replace HB := BS HB hb; clear hb; obtain ⟨hcz15_0, hcz15_1, hfz15_0, hfz15_1⟩ := CZ2 BK121))
    repeat (go_quiet (first | ((with_reducible refine gate_dst (N := 3) rfl ?_); refine BX 3 28 #[.int .i64 a0_0, .int .i64 a0_1] ?_; intro gb121 hg w12 hbox hb; have BK121 := Aside0.mk (hbox); have GW121 := (GS hg : Aside0 (w.heap.size ≤ gb121)); have GE121 := GW121; replace HB := BS HB hb; clear hb hbox hg; obtain ⟨hcz13_0, hcz13_1, hfz13_0, hfz13_1⟩ := CZ2 BK121) | (go_at_call 88; (with_reducible refine (impl_Neighbor.calls k a0_0 a0_1 a1 a2 t122 _ A4.out).mono ?_); rintro e w14 ⟨rfl, hb⟩; replace BK121 := BB BK121 hb; replace HB := BS HB hb; clear hb; obtain ⟨hcz15_0, hcz15_1, hfz15_0, hfz15_1⟩ := CZ2 BK121)); try go_wp2_with (first | ((with_reducible refine gate_dst (N := 3) rfl ?_); refine BX 3 28 #[.int .i64 a0_0, .int .i64 a0_1] ?_; intro gb121 hg w12 hbox hb; have BK121 := Aside0.mk (hbox); have GW121 := (GS hg : Aside0 (w.heap.size ≤ gb121)); have GE121 := GW121; replace HB := BS HB hb; clear hb hbox hg; obtain ⟨hcz13_0, hcz13_1, hfz13_0, hfz13_1⟩ := CZ2 BK121) | (go_at_call 88; (with_reducible refine (impl_Neighbor.calls k a0_0 a0_1 a1 a2 t122 _ A4.out).mono ?_); rintro e w14 ⟨rfl, hb⟩; replace BK121 := BB BK121 hb; replace HB := BS HB hb; clear hb; obtain ⟨hcz15_0, hcz15_1, hfz15_0, hfz15_1⟩ := CZ2 BK121)))
    go_ret
    exact ⟨by first | rfl | (simp [errW_none, errW_some] <;> rfl) | (simp only [← hji9]; first | rfl | (simp [errW_none, errW_some] <;> rfl)) | (simp [*, errW_none, errW_some] <;> rfl), BZ⟩
  ·rw [if_neg c10] at H
   obtain ⟨c10b0, c10b1⟩ := QF c10
   by_cases c16 : a2 = 3
   ·rw [if_pos c16] at H
    obtain ⟨c16b0, c16b1⟩ := QT c16
    clear c16
    by_cases c17 : a0_0 = 0
    ·rw [if_pos c17] at H
     exact absurd H (by simp)
    ·rw [if_neg c17] at H
     obtain ⟨c17b0, c17b1⟩ := QF c17
     obtain rfl := Option.some.inj H
     go_enter Try.func87, Try.ntmps87
     go_wp2_with (first | ((with_reducible refine gate_dst (N := 3) rfl ?_); refine BX 3 28 #[.int .i64 a0_0, .int .i64 a0_1] ?_; intro gb121 hg w18 hbox hb; have BK121 := Aside0.mk (hbox); have GW121 := (GS hg : Aside0 (w.heap.size ≤ gb121)); have GE121 := GW121; replace HB := BS HB hb; clear hb hbox hg; obtain ⟨hcz19_0, hcz19_1, hfz19_0, hfz19_1⟩ := CZ2 BK121) | (go_at_call 88; (with_reducible refine (impl_Neighbor.calls k a0_0 a0_1 a1 a2 t122 _ A4.out).mono ?_); rintro e w20 ⟨rfl, hb⟩; replace BK121 := BB BK121 hb; replace HB := BS HB hb; clear hb; obtain ⟨hcz21_0, hcz21_1, hfz21_0, hfz21_1⟩ := CZ2 BK121))
     repeat (go_quiet (first | ((with_reducible refine gate_dst (N := 3) rfl ?_); refine BX 3 28 #[.int .i64 a0_0, .int .i64 a0_1] ?_; intro gb121 hg w18 hbox hb; have BK121 := Aside0.mk (hbox); have GW121 := (GS hg : Aside0 (w.heap.size ≤ gb121)); have GE121 := GW121; replace HB := BS HB hb; clear hb hbox hg; obtain ⟨hcz19_0, hcz19_1, hfz19_0, hfz19_1⟩ := CZ2 BK121) | (go_at_call 88; (with_reducible refine (impl_Neighbor.calls k a0_0 a0_1 a1 a2 t122 _ A4.out).mono ?_); rintro e w20 ⟨rfl, hb⟩; replace BK121 := BB BK121 hb; replace HB := BS HB hb; clear hb; obtain ⟨hcz21_0, hcz21_1, hfz21_0, hfz21_1⟩ := CZ2 BK121)); try go_wp2_with (first | ((with_reducible refine gate_dst (N := 3) rfl ?_); refine BX 3 28 #[.int .i64 a0_0, .int .i64 a0_1] ?_; intro gb121 hg w18 hbox hb; have BK121 := Aside0.mk (hbox); have GW121 := (GS hg : Aside0 (w.heap.size ≤ gb121)); have GE121 := GW121; replace HB := BS HB hb; clear hb hbox hg; obtain ⟨hcz19_0, hcz19_1, hfz19_0, hfz19_1⟩ := CZ2 BK121) | (go_at_call 88; (with_reducible refine (impl_Neighbor.calls k a0_0 a0_1 a1 a2 t122 _ A4.out).mono ?_); rintro e w20 ⟨rfl, hb⟩; replace BK121 := BB BK121 hb; replace HB := BS HB hb; clear hb; obtain ⟨hcz21_0, hcz21_1, hfz21_0, hfz21_1⟩ := CZ2 BK121)))
     go_ret
     exact ⟨by first | rfl | (simp [errW_none, errW_some] <;> rfl) | (simp only [← hji9]; first | rfl | (simp [errW_none, errW_some] <;> rfl)) | (simp [*, errW_none, errW_some] <;> rfl), BZ⟩
   ·rw [if_neg c16] at H
    obtain ⟨c16b0, c16b1⟩ := QF c16
    obtain rfl := Option.some.inj H
    go_enter Try.func87, Try.ntmps87
    go_wp2_with (first | ((with_reducible refine gate_dst (N := 3) rfl ?_); refine BX 3 28 #[.int .i64 a0_0, .int .i64 a0_1] ?_; intro gb121 hg w22 hbox hb; have BK121 := Aside0.mk (hbox); have GW121 := (GS hg : Aside0 (w.heap.size ≤ gb121)); have GE121 := GW121; replace HB := BS HB hb; clear hb hbox hg; obtain ⟨hcz23_0, hcz23_1, hfz23_0, hfz23_1⟩ := CZ2 BK121) | (go_at_call 88; (with_reducible refine (impl_Neighbor.calls k a0_0 a0_1 a1 a2 t122 _ A4.out).mono ?_); rintro e w24 ⟨rfl, hb⟩; replace BK121 := BB BK121 hb; replace HB := BS HB hb; clear hb; obtain ⟨hcz25_0, hcz25_1, hfz25_0, hfz25_1⟩ := CZ2 BK121))
    repeat (go_quiet (first | ((with_reducible refine gate_dst (N := 3) rfl ?_); refine BX 3 28 #[.int .i64 a0_0, .int .i64 a0_1] ?_; intro gb121 hg w22 hbox hb; have BK121 := Aside0.mk (hbox); have GW121 := (GS hg : Aside0 (w.heap.size ≤ gb121)); have GE121 := GW121; replace HB := BS HB hb; clear hb hbox hg; obtain ⟨hcz23_0, hcz23_1, hfz23_0, hfz23_1⟩ := CZ2 BK121) | (go_at_call 88; (with_reducible refine (impl_Neighbor.calls k a0_0 a0_1 a1 a2 t122 _ A4.out).mono ?_); rintro e w24 ⟨rfl, hb⟩; replace BK121 := BB BK121 hb; replace HB := BS HB hb; clear hb; obtain ⟨hcz25_0, hcz25_1, hfz25_0, hfz25_1⟩ := CZ2 BK121)); try go_wp2_with (first | ((with_reducible refine gate_dst (N := 3) rfl ?_); refine BX 3 28 #[.int .i64 a0_0, .int .i64 a0_1] ?_; intro gb121 hg w22 hbox hb; have BK121 := Aside0.mk (hbox); have GW121 := (GS hg : Aside0 (w.heap.size ≤ gb121)); have GE121 := GW121; replace HB := BS HB hb; clear hb hbox hg; obtain ⟨hcz23_0, hcz23_1, hfz23_0, hfz23_1⟩ := CZ2 BK121) | (go_at_call 88; (with_reducible refine (impl_Neighbor.calls k a0_0 a0_1 a1 a2 t122 _ A4.out).mono ?_); rintro e w24 ⟨rfl, hb⟩; replace BK121 := BB BK121 hb; replace HB := BS HB hb; clear hb; obtain ⟨hcz25_0, hcz25_1, hfz25_0, hfz25_1⟩ := CZ2 BK121)))
    go_ret
    exact ⟨by first | rfl | (simp [errW_none, errW_some] <;> rfl) | (simp only [← hji9]; first | rfl | (simp [errW_none, errW_some] <;> rfl)) | (simp [*, errW_none, errW_some] <;> rfl), BZ⟩

end Go.Proofs.Ytfpomjnhgcmgoaa.P

