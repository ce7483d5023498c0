/- Proved here: calls of functions of the program answer as the plain functions beside them say. Conditions: each theorem names its own. Written by a program of this session (hprint.py) out of the translation. -/
import Derived.Test.YtfpomjnhgcmgoaaQcPLcdx0
import Derived.Test.YtfpomjnhgcmgoaaQcPLcdx1
import Derived.Test.YtfpomjnhgcmgoaaQcPLcdx3
import Derived.Test.YtfpomjnhgcmgoaaQcPLcdx4
import Derived.Test.YtfpomjnhgcmgoaaQcPLcdx5
import Derived.Test.YtfpomjnhgcmgoaaQcPLcdx7
import Derived.Test.YtfpomjnhgcmgoaaQcPLcdx8
import Derived.Test.YtfpomjnhgcmgoaaQcPLcdx9
namespace Go.Proofs.Ytfpomjnhgcmgoaa.P
open Go.RowKit Go.Proofs.YtfpomjnhgcmgoaaW.PrintWords Go.Proofs.YtfpomjnhgcmgoaaW.PrintLast Go.Proofs.YtfpomjnhgcmgoaaW.PrintMore
attribute [local go_sem] max2_int min2_int max_two min_two max_three min_three max_four min_four   -- for this text's walks alone
set_option linter.unusedVariables false
set_option linter.unusedSimpArgs false

attribute [local go_sem high] eqA43
mutual
def laws_FnLocated.j0 : Nat → List Int → List Int → List Int → Bool → Int → Int → Int → Int → Int → Option (Bool)
 | 0, _, _, _, _, _, _, _, _, _ => none
 | k + 1, x0, x5, x6, x42, x398000, x398001, x398002, x399000, x399001 => if x42 = true then (some false) else (laws_FnLocated.l0 k x0 x5 x6 0 x398000 x398001 x398002 x399000 x399001 x399000 x399001)
def laws_FnLocated.l0 : Nat → List Int → List Int → List Int → Int → Int → Int → Int → Int → Int → Int → Int → Option (Bool)
 | 0, _, _, _, _, _, _, _, _, _, _, _ => none
 | k + 1, x0, x5, x6, x9, x398000, x398001, x398002, x399000, x399001, x404000, x404001 => if x9 < (x5.length : Int) then (if 0 ≤ x9 then ((spec_Step.f k x398000 x398001 x398002 x404000 (Int.tmod (wrap64 (x404001 + (rd x5 x9))) 4)).bind fun t405 => (laws_FnLocated.l0 k x0 x5 x6 (wrap64 (x9 + 1)) x398000 x398001 x398002 x399000 x399001 t405 (Int.tmod (wrap64 (x404001 + (rd x5 x9))) 4))) else (none)) else ((spec_CountCells.f x398000 x398001).bind fun t406 => (laws_FnLocated.l1 k x0 x5 x6 (wrap64 ((wrap64 (4 * t406)) + 1)) 0 x398000 x398001 x398002 x399000 x399001 x404000 x404001))
def laws_FnLocated.l1 : Nat → List Int → List Int → List Int → Int → Int → Int → Int → Int → Int → Int → Int → Int → Option (Bool)
 | 0, _, _, _, _, _, _, _, _, _, _, _, _ => none
 | k + 1, x0, x5, x6, x11, x12, x398000, x398001, x398002, x399000, x399001, x404000, x404001 => if x12 ≤ (x5.length : Int) then (if 0 ≤ (wrap64 (x12 + 1)) then (if (wrap64 (x12 + 1)) ≤ (x6.length : Int) then (if 0 ≤ x12 then ((impl_PossibleWalkers.f k x398000 x398001 x398002 (x6.take ((wrap64 (x12 + 1)) : Int).toNat) (x5.take (x12 : Int).toNat)).bind fun t415 => (if (t415.length : Int) < 1 then (some false) else (if (t415.length : Int) > x11 then (some false) else (laws_FnLocated.l1 k x0 x5 x6 (t415.length : Int) (wrap64 (x12 + 1)) x398000 x398001 x398002 x399000 x399001 x404000 x404001)))) else (none)) else (none)) else (none)) else ((impl_PossibleWalkers.f k x398000 x398001 x398002 x6 x5).bind fun t418 => (laws_FnLocated.l2 k x0 x5 x6 t418 false 0 x398000 x398001 x398002 x399000 x399001 x404000 x404001))
def laws_FnLocated.l2 : Nat → List Int → List Int → List Int → List (S43) → Bool → Int → Int → Int → Int → Int → Int → Int → Int → Option (Bool)
 | 0, _, _, _, _, _, _, _, _, _, _, _, _, _ => none
 | k + 1, x0, x5, x6, x14, x15, x16, x398000, x398001, x398002, x399000, x399001, x404000, x404001 => if x16 < (x14.length : Int) then (if x15 = true then (laws_FnLocated.l2 k x0 x5 x6 x14 true (wrap64 (x16 + 1)) x398000 x398001 x398002 x399000 x399001 x404000 x404001) else (if 0 ≤ x16 then (laws_FnLocated.l2 k x0 x5 x6 x14 (((rd_T43 x14 x16).f0) == x404000 && (((rd_T43 x14 x16).f1) == x404001)) (wrap64 (x16 + 1)) x398000 x398001 x398002 x399000 x399001 x404000 x404001) else (none))) else ((laws_at.f x0 0).bind fun t422 => ((spec_CountCells.f x398000 x398001).bind fun t423 => (if t423 = 0 then (none) else ((laws_at.f x0 1).bind fun t424 => (if x15 = true then ((impl_IsLocated.f k x398000 x398001 x398002 x6 x5).bind fun t426 => (if (t426 == ((x14.length : Int) == 1)) = true then ((impl_LikeWalkers.f k x398000 x398001 x398002 x399000 x399001 x399000 x399001 3).bind fun t427 => (if t427 = true then ((impl_LikeWalkers.f k x398000 x398001 x398002 x399000 x399001 (Int.tmod t422 t423) (Int.tmod t424 4) 2).bind fun t428 => ((impl_LikeWalkers.f k x398000 x398001 x398002 (Int.tmod t422 t423) (Int.tmod t424 4) x399000 x399001 2).bind fun t429 => (if (t428 == t429) = true then ((impl_LikeWalkers.f k x398000 x398001 x398002 x399000 x399001 (Int.tmod t422 t423) (Int.tmod t424 4) 1).bind fun t430 => (if t430 = true then ((impl_PatternAt.f k x398000 x398001 x398002 x399000 x399001).bind fun t431 => ((impl_PatternAt.f k x398000 x398001 x398002 (Int.tmod t422 t423) (Int.tmod t424 4)).bind fun t432 => (some (t431 == t432)))) else (some true))) else (some false)))) else (some false))) else (some false))) else (some false))))))
end
def laws_FnLocated.f (k : Nat) (l0 : List Int) : Option (Bool) := (laws_big.f l0).bind fun t388 => (if t388 = true then (some true) else ((spec_DrawReport.f k l0).bind fun bt389 => ((impl_ReportOf.f k bt389.1 bt389.2.1 bt389.2.2.1 bt389.2.2.2.1 bt389.2.2.2.2.1 bt389.2.2.2.2.2).bind fun bt399 => (if bt399.2 = true then (laws_FnLocated.j0 k l0 bt389.2.2.2.2.2 bt399.1 ((bt399.1.length : Int) != (wrap64 ((bt389.2.2.2.2.2.length : Int) + 1))) bt389.1 bt389.2.1 bt389.2.2.1 bt389.2.2.2.1 bt389.2.2.2.2.1) else (laws_FnLocated.j0 k l0 bt389.2.2.2.2.2 bt399.1 true bt389.1 bt389.2.1 bt389.2.2.1 bt389.2.2.2.1 bt389.2.2.2.2.1)))))
def laws_FnLocated.T11 : Bool × List (List Nat × List Nat) := (true, [([], []), ([0], [0]), ([], []), ([], []), ([2, 3], [2, 3]), ([4], [4]), ([1, 5], [1, 5]), ([6], [6]), ([7, 0, 1, 2, 3, 4, 5, 6, 7], [7])])
def laws_FnLocated.B11 : List Nat := [0, 1, 0, 0, 12, 28, 63, 127, 255]
theorem laws_FnLocated.tab11 : rtab .any (opsOf Try.f5 11) = laws_FnLocated.T11 := by kernel_rfl
theorem laws_FnLocated.bits11 : waitsOk laws_FnLocated.T11.2 laws_FnLocated.B11 = true := by kernel_rfl
def laws_FnLocated.T17 : Bool × List (List Nat × List Nat) := (true, [([], []), ([], []), ([], []), ([2], [2]), ([1, 3], [1, 3]), ([], []), ([], []), ([5, 6], [5, 6]), ([0, 4, 7], [0, 4, 7]), ([8], [8]), ([9, 8, 0, 1, 2, 3, 4, 5, 6, 7, 8, 9], [9])])
def laws_FnLocated.B17 : List Nat := [0, 0, 0, 4, 14, 0, 0, 96, 255, 511, 1023]
theorem laws_FnLocated.tab17 : rtab .any (opsOf Try.f5 17) = laws_FnLocated.T17 := by kernel_rfl
theorem laws_FnLocated.bits17 : waitsOk laws_FnLocated.T17.2 laws_FnLocated.B17 = true := by kernel_rfl
def laws_FnLocated.T26 : Bool × List (List Nat × List Nat) := (true, [([], []), ([0], [0]), ([1], [1]), ([1], [1]), ([2, 3, 1], [1, 2, 3]), ([4, 1], [1, 4]), ([1], [1]), ([5, 6, 1], [1, 5, 6]), ([1, 7], [1, 7]), ([8, 1, 0, 1, 2, 3, 4, 5, 6, 7, 8], [0, 8])])
def laws_FnLocated.B26 : List Nat := [0, 1, 3, 3, 15, 31, 3, 127, 255, 511]
theorem laws_FnLocated.tab26 : rtab .any (opsOf Try.f5 26) = laws_FnLocated.T26 := by kernel_rfl
theorem laws_FnLocated.bits26 : waitsOk laws_FnLocated.T26.2 laws_FnLocated.B26 = true := by kernel_rfl
def laws_FnLocated.T27 : Bool × List (List Nat × List Nat) := (true, [([], []), ([0], [0]), ([], []), ([2], [2]), ([3, 1], [3]), ([1, 4], [1, 4]), ([], []), ([6, 4], [6]), ([7], [7]), ([5, 8], [5, 8]), ([], []), ([10, 9, 7, 0, 1, 2, 3, 4, 5, 6, 7, 8, 9, 10], [9, 10])])
def laws_FnLocated.B27 : List Nat := [0, 1, 0, 4, 15, 31, 0, 95, 223, 511, 0, 2047]
theorem laws_FnLocated.tab27 : rtab .any (opsOf Try.f5 27) = laws_FnLocated.T27 := by kernel_rfl
theorem laws_FnLocated.bits27 : waitsOk laws_FnLocated.T27.2 laws_FnLocated.B27 = true := by kernel_rfl
def laws_FnLocated.T28 : Bool × List (List Nat × List Nat) := (true, [([], []), ([0], [0]), ([1], [1]), ([1], [1]), ([1], [1]), ([2, 3, 4, 1, 1], [1, 2, 3, 4]), ([1], [1]), ([6, 1], [1, 6]), ([7, 1], [1, 7]), ([5, 8, 1], [1, 5, 8]), ([1, 9], [1, 9]), ([10, 5], [10]), ([11], [11]), ([11], [11]), ([11], [11]), ([12, 13, 14, 11, 11], [11, 12, 13, 14]), ([11, 15], [11, 15]), ([16, 15], [16]), ([17], [17]), ([17], [17]), ([17], [17]), ([18, 19, 20, 17, 17], [17, 18, 19, 20]), ([17], [17]), ([17], [17]), ([17], [17]), ([22, 23, 24, 21, 17], [17, 22, 23, 24]), ([21, 25, 17], [17, 21, 25]), ([17, 26], [17, 26]), ([27, 25], [27]), ([28], [28]), ([28], [28]), ([28], [28]), ([29, 30, 31, 28, 28], [28, 29, 30, 31]), ([32, 28], [28, 32]), ([33, 32, 28], [28, 33]), ([34], [34]), ([34], [34]), ([35, 36, 34, 34], [34, 35, 36]), ([34], [34]), ([34], [34]), ([38, 39, 37, 34], [34, 38, 39]), ([37, 40, 34], [34, 37, 40]), ([34, 41, 28], [28, 34, 41]), ([28, 42], [28, 42]), ([43, 40, 0, 1, 2, 3, 4, 5, 6, 7, 8, 9, 10, 11, 12, 13, 14, 15, 16, 17, 18, 19, 20, 21, 22, 23, 24, 25, 26, 27, 28, 29, 30, 31, 32, 33, 34, 35, 36, 37, 38, 39, 40, 41, 42, 43], [43])])
def laws_FnLocated.B28 : List Nat := [0, 1, 3, 3, 3, 31, 3, 67, 195, 511, 1023, 2047, 4095, 4095, 4095, 32767, 65535, 131071, 262143, 262143, 262143, 2097151, 262143, 262143, 262143, 33554431, 67108863, 134217727, 268435455, 536870911, 536870911, 536870911, 4294967295, 8589934591, 17179869183, 34359738367, 34359738367, 137438953471, 34359738367, 34359738367, 1099511627775, 2199023255551, 4398046511103, 8796093022207, 17592186044415]
theorem laws_FnLocated.tab28 : rtab .any (opsOf Try.f5 28) = laws_FnLocated.T28 := by kernel_rfl
theorem laws_FnLocated.bits28 : waitsOk laws_FnLocated.T28.2 laws_FnLocated.B28 = true := by kernel_rfl
set_option maxHeartbeats 8000000 in
set_option maxRecDepth 100000 in
theorem laws_FnLocated.calls (k : Nat) (A0 : Option Addr) (c0 : Nat) (l0 : List Int) (r : Bool) (w : World) (hr0 : Kd.C (Kd.int .u8) w A0 l0.length l0) (hc0 : l0.length ≤ c0) (h : laws_FnLocated.f k l0 = some r) :
  Calls Try.prog 5 #[.slice A0 l0.length c0] w fun e w' => e = .returned (.bool r) ∧ Below w.heap.size w w' := by
 have hu30 := Try.underlying30
 have hu43 := Try.underlying43
 have hu28 := Try.underlying28
 have HR0 := Aside0.mk hr0
 have HC0 := Aside0.mk hc0
 clear hr0 hc0
 have HB := Aside0.mk (Below.refl w.heap.size w)
 have H := h
 unfold laws_FnLocated.f at H
 clear h
 obtain ⟨t388, A2, H⟩ := BD H
 by_cases c3 : t388 = true
 ·subst c3
  replace H := IT H
  obtain rfl := Option.some.inj H
  go_enter Try.func5, Try.ntmps5
  go_wp2_with (first | ((with_reducible refine GC 18 rfl ?_); refine GL 19 Try.func18 (laws_big.calls _ _ l0 true _ ?side1 HC0.out A2.out) ?_; (case side1 => repeat (first | exact HR0.out | (with_reducible refine Kd.C_alloc ?_ _) | (with_reducible refine Kd.C_drewN ?_ _) | (with_reducible refine Kd.C_drew ?_))); rintro e w' ⟨rfl, ⟨nd, rfl⟩⟩; refine ⟨_, rfl, ?_⟩))
  go_ret
  exact ⟨RZ, BZ⟩
 ·as_aux_lemma =>
   replace c3 := Bool.eq_false_iff.mpr c3
   subst c3
   replace H := IE H
   obtain ⟨⟨t389, t390, t391, t392, t393, t394⟩, A4, H⟩ := BD H
   dsimp only at H
   obtain ⟨⟨t399, t402⟩, A5, H⟩ := BD H
   dsimp only at H
   have HC6 := Aside0.mk H
   clear H
   go_enter Try.func5, Try.ntmps5
   go_upto_region 5 with (first | ((with_reducible refine GC 18 rfl ?_); refine GL 19 Try.func18 (laws_big.calls _ _ l0 false _ ?side1 HC0.out A2.out) ?_; (case side1 => repeat (first | exact HR0.out | (with_reducible refine Kd.C_alloc ?_ _) | (with_reducible refine Kd.C_drewN ?_ _) | (with_reducible refine Kd.C_drew ?_))); rintro e w' ⟨rfl, ⟨nd, rfl⟩⟩; refine ⟨_, rfl, ?_⟩) | ((with_reducible refine GC 19 rfl ?_); refine GL 22 Try.func19 (spec_DrawReport.calls k _ _ l0 t389 t390 t391 t392 t393 t394 _ ?side1 HC0.out A4.out) ?_; (case side1 => repeat (first | exact HR0.out | (with_reducible refine Kd.C_alloc ?_ _) | (with_reducible refine Kd.C_drewN ?_ _) | (with_reducible refine Kd.C_drew ?_))); rintro e w7 ⟨v395, rfl, ho0, hb⟩; refine ⟨_, rfl, ?_⟩; have HO396 := Aside0.mk (Kd.R_lower ho0 (below_size BZ)); replace HB := BS HB hb; clear hb; (try clear ho0)) | ((with_reducible refine gate_dst (N := 3) rfl ?_); (try (refine gate_guard (by rfl) ?_; dsimp only)); refine BX 3 30 #[.int .i64 0, .int .i64 0, .int .i64 0] ?_; intro gb397 hg w8 hbox hb; have BK397 := Aside0.mk (hbox); have GW397 := (GS hg : Aside0 (w.heap.size ≤ gb397)); have GE397 := GW397; replace HO396 := RB HO396 hb; replace HB := BS HB hb; clear hb hbox hg) | ((with_reducible refine gate_dst (N := 4) rfl ?_); (try (refine gate_guard (by rfl) ?_; dsimp only)); refine BX 4 43 #[.int .i64 0, .int .i64 0] ?_; intro gb398 hg w9 hbox hb; have BK398 := Aside0.mk (hbox); have GW398 := (GS hg : Aside0 (w.heap.size ≤ gb398)); have GE398 := GW398; have NB397_398 := NL BK397 hg; have NB398_397 := NG BK397 hg; replace HO396 := RB HO396 hb; replace BK397 := BB BK397 hb; replace HB := BS HB hb; clear hb hbox hg; have hnb10 := NB397_398.out; have hnc10 := NB398_397.out; obtain ⟨hcz11_0, hcz11_1, hcz11_2, hfz11_0, hfz11_1, hfz11_2⟩ := CZ3 BK397; obtain ⟨hcz12_0, hcz12_1, hfz12_0, hfz12_1⟩ := CZ2 BK398; obtain ⟨Ao13, co13, eo13⟩ := Kd.R_slice HO396.out; subst eo13) | ((with_reducible refine GC 20 rfl ?_); refine GL 30 Try.func20 (impl_ReportOf.calls k t389 t390 t391 t392 t393 _ _ t394 t399 t402 _ ?side1 (CL HO396) A5.out) ?_; (case side1 => refine (Kd.R_reads' (e := 3) (base := w.heap.size) (ok := fun k_ => True) (n := t394.length) (c := co13) ?_).2.2; exact (RT ((Kd.R_mono (Kd.R_mono (Kd.R_far (p := ⟨gb398, 1, none⟩) (Kd.R_far (p := ⟨gb398, 0, none⟩) (Kd.R_far (p := ⟨gb397, 2, none⟩) (Kd.R_far (p := ⟨gb397, 1, none⟩) (Kd.R_far (p := ⟨gb397, 0, none⟩) (Kd.R_types (Kd.R_types HO396.out BK397.out (by decide)) BK398.out (by decide)) (fun _ hk => hk.1.2) (.int .i64 t389)) (fun _ hk => hk.1.2) (.int .i64 t390)) (fun _ hk => hk.1.2) (.int .i64 t391)) (fun _ hk => hk.2) (.int .i64 t392)) (fun _ hk => hk.2) (.int .i64 t393)) (fun _ h_ => h_.1)) (fun _ h_ => h_.1))))); rintro e w14 ⟨v400, rfl, ho0, hb⟩; refine ⟨_, rfl, ?_⟩; have HO401 := Aside0.mk (Kd.R_lower (Kd.R_new' ho0 (Kd.R_lt (RT ((Kd.R_mono (Kd.R_mono (Kd.R_far (p := ⟨gb398, 1, none⟩) (Kd.R_far (p := ⟨gb398, 0, none⟩) (Kd.R_far (p := ⟨gb397, 2, none⟩) (Kd.R_far (p := ⟨gb397, 1, none⟩) (Kd.R_far (p := ⟨gb397, 0, none⟩) (Kd.R_types (Kd.R_types HO396.out BK397.out (by decide)) BK398.out (by decide)) (fun _ hk => hk.1.2) (.int .i64 t389)) (fun _ hk => hk.1.2) (.int .i64 t390)) (fun _ hk => hk.1.2) (.int .i64 t391)) (fun _ hk => hk.2) (.int .i64 t392)) (fun _ hk => hk.2) (.int .i64 t393)) (fun _ h_ => h_.1)) (fun _ h_ => h_.1)))))) (below_size BZ)); replace HO396 := Aside0.mk (Kd.R_elder' (RT ((Kd.R_mono (Kd.R_mono (Kd.R_far (p := ⟨gb398, 1, none⟩) (Kd.R_far (p := ⟨gb398, 0, none⟩) (Kd.R_far (p := ⟨gb397, 2, none⟩) (Kd.R_far (p := ⟨gb397, 1, none⟩) (Kd.R_far (p := ⟨gb397, 0, none⟩) (Kd.R_types (Kd.R_types HO396.out BK397.out (by decide)) BK398.out (by decide)) (fun _ hk => hk.1.2) (.int .i64 t389)) (fun _ hk => hk.1.2) (.int .i64 t390)) (fun _ hk => hk.1.2) (.int .i64 t391)) (fun _ hk => hk.2) (.int .i64 t392)) (fun _ hk => hk.2) (.int .i64 t393)) (fun _ h_ => h_.1)) (fun _ h_ => h_.1)))) (Kd.R_base ho0) hb); replace BK397 := Aside0.mk (blk_below (g := gb397) (o := .cells #[.int .i64 t389, .int .i64 t390, .int .i64 t391] 30 (0, 0)) (by refine BT ?_; refine blk_far ?_ NB397_398.out _; refine BT ?_; refine blk_far ?_ NB397_398.out _; refine BT ?_; refine blk_put (cs := #[.int .i64 t389, .int .i64 t390, .int .i64 0]) ?_ 2 _ rfl; refine BT ?_; refine blk_put (cs := #[.int .i64 t389, .int .i64 0, .int .i64 0]) ?_ 1 _ rfl; refine BT ?_; refine blk_put (cs := #[.int .i64 0, .int .i64 0, .int .i64 0]) ?_ 0 _ rfl; refine BT ?_; exact BK397.out) hb); replace BK398 := Aside0.mk (blk_below (g := gb398) (o := .cells #[.int .i64 t392, .int .i64 t393] 43 (0, 0)) (by refine BT ?_; refine blk_put (cs := #[.int .i64 t392, .int .i64 0]) ?_ 1 _ rfl; refine BT ?_; refine blk_put (cs := #[.int .i64 0, .int .i64 0]) ?_ 0 _ rfl; refine BT ?_; refine blk_far ?_ NB398_397.out _; refine BT ?_; refine blk_far ?_ NB398_397.out _; refine BT ?_; refine blk_far ?_ NB398_397.out _; refine BT ?_; exact BK398.out) hb); replace HB := BS HB hb; clear hb; (try clear ho0)))
   (try simp only [Act.put, List.setIfInBounds_toArray, List.set_cons_zero, List.set_cons_succ])
   go_cut [42] (fun v42 wc => ∃ (kq : Nat) (x42_5 : Bool), v42 = .bool x42_5 ∧ Aside0 (laws_FnLocated.j0 kq l0 t394 t399 x42_5 t389 t390 t391 t392 t393 = some r) ∧ Aside0 (kq ≤ k) ∧ Aside0 (Kd.R (Kd.int .i64) 3 wc w.heap.size (fun k_ => some k_ ≠ (v400 : Value).ownBlock) (.slice Ao13 t394.length co13) t394) ∧ Aside0 (Kd.R (Kd.int .i64) 3 wc w.heap.size (fun k_ => some k_ ≠ ((.slice Ao13 t394.length co13) : Value).ownBlock) v400 t399) ∧ Aside0 (wc.heap[gb397]? = some (.cells #[.int .i64 t389, .int .i64 t390, .int .i64 t391] 30 (0, 0))) ∧ Aside0 (wc.heap[gb398]? = some (.cells #[.int .i64 t392, .int .i64 t393] 43 (0, 0))) ∧ Aside0 (Below w.heap.size w wc))
   case first =>
    have H := HC6.out
    clear HC6
    by_cases c15 : t402 = true
    ·subst c15
     replace H := IT H
     have H' := Aside0.mk H
     clear H
     obtain ⟨Ao16, co16, eo16⟩ := Kd.R_slice HO401.out
     subst eo16
     go_wp2
     go_meet
     case rel => exact ⟨_, (((t399.length : Int) != (wrap64 ((t394.length : Int) + 1)))), VZ, H', ⟨by first | omega | exact Nat.le_refl _⟩, ⟨RT (Kd.R_mono HO396.out (fun _ hk => hk.2))⟩, ⟨RT (Kd.R_mono HO401.out (fun _ hk => hk.2))⟩, ⟨BKZ⟩, ⟨BKZ⟩, ⟨BZ⟩⟩
    ·replace c15 := Bool.eq_false_iff.mpr c15
     subst c15
     replace H := IE H
     have H' := Aside0.mk H
     clear H
     go_wp2
     go_meet
     case rel => exact ⟨_, (true), VZ, H', ⟨by first | omega | exact Nat.le_refl _⟩, ⟨RT (Kd.R_mono HO396.out (fun _ hk => hk.2))⟩, ⟨RT (Kd.R_mono HO401.out (fun _ hk => hk.2))⟩, ⟨BKZ⟩, ⟨BKZ⟩, ⟨BZ⟩⟩
   case rest =>
    clear HC6
    (try clear c3); (try clear hcz11_0); (try clear hcz11_1); (try clear hcz11_2); (try clear hcz12_0); (try clear hcz12_1); (try clear hfz11_0); (try clear hfz11_1); (try clear hfz11_2); (try clear hfz12_0); (try clear hfz12_1)
    obtain ⟨kq, x42_5, rfl, HA, HJ5, HO_5, HO_6, BK397, BK398, HB⟩ := hcut
    cases kq with
    | zero => exact absurd HA.out (by simp [laws_FnLocated.j0])
    | succ kj5 =>
     have H := HA.out
     clear HA
     simp only [laws_FnLocated.j0] at H
     by_cases c17 : x42_5 = true
     ·subst c17
      replace H := IT H
      obtain rfl := Option.some.inj H
      go_wp2
      go_ret
      exact ⟨RZ, BZ⟩
     ·as_aux_lemma =>
       replace c17 := Bool.eq_false_iff.mpr c17
       subst c17
       replace H := IE H
       have H' := Aside0.mk H
       clear H
       have hnb18 := NB398_397.out
       have hnc18 := NB397_398.out
       obtain ⟨hcz19_0, hcz19_1, hfz19_0, hfz19_1⟩ := CZ2 BK398
       go_wp2_with (first | ((with_reducible refine gate_dst (N := 8) rfl ?_); (try (refine gate_guard (by rfl) ?_; dsimp only)); refine BX 8 43 #[.int .i64 0, .int .i64 0] ?_; intro gb403 hg w20 hbox hb; have BK403 := Aside0.mk (hbox); have GW403 := (GS hg : Aside0 (w.heap.size ≤ gb403)); have GE403 := GW403; have NB397_403 := NL BK397 hg; have NB403_397 := NG BK397 hg; have NB398_403 := NL BK398 hg; have NB403_398 := NG BK398 hg; replace HO_5 := RB HO_5 hb; replace HO_6 := RB HO_6 hb; replace BK397 := BB BK397 hb; replace BK398 := BB BK398 hb; replace HB := BS HB hb; clear hb hbox hg; have hnb21 := NB403_397.out; have hnc21 := NB397_403.out; have hnb22 := NB403_398.out; have hnc22 := NB398_403.out; obtain ⟨hcz23_0, hcz23_1, hfz23_0, hfz23_1⟩ := CZ2 BK403))
       go_loopg [9] kj5 (fun kq v9 w' => ∃ (x9_2 : Int) (x404000_2 : Int) (x404001_2 : Int), v9 = .int .i64 x9_2 ∧ Aside0 (laws_FnLocated.l0 kq l0 t394 t399 x9_2 t389 t390 t391 t392 t393 x404000_2 x404001_2 = some r) ∧ Aside0 (kq ≤ kj5) ∧ Aside0 (Kd.R (Kd.int .i64) 3 w' w.heap.size (fun k_ => some k_ ≠ (v400 : Value).ownBlock) (.slice Ao13 t394.length co13) t394) ∧ Aside0 (Kd.R (Kd.int .i64) 3 w' w.heap.size (fun k_ => some k_ ≠ ((.slice Ao13 t394.length co13) : Value).ownBlock) v400 t399) ∧ Aside0 (w'.heap[gb397]? = some (.cells #[.int .i64 t389, .int .i64 t390, .int .i64 t391] 30 (0, 0))) ∧ Aside0 (w'.heap[gb398]? = some (.cells #[.int .i64 t392, .int .i64 t393] 43 (0, 0))) ∧ Aside0 (w'.heap[gb403]? = some (.cells #[.int .i64 x404000_2, .int .i64 x404001_2] 43 (0, 0))) ∧ Aside0 (Below w.heap.size w w'))
       case atStart => exact ⟨(0), (t392), (t393), VZ, H', ⟨Nat.le_refl _⟩, ⟨RT (RF2 (Kd.R_types HO_5.out BK403.out (by decide)))⟩, ⟨RT (RF2 (Kd.R_types HO_6.out BK403.out (by decide)))⟩, ⟨BF2 NB397_403 BK397⟩, ⟨BF2 NB398_403 BK398⟩, ⟨PQ2 BK403⟩, ⟨BZ⟩⟩
       case round =>
        clear H'
        (try clear c3); (try clear c17); (try clear hcz11_0); (try clear hcz11_1); (try clear hcz11_2); (try clear hcz12_0); (try clear hcz12_1); (try clear hcz19_0); (try clear hcz19_1); (try clear hcz23_0); (try clear hcz23_1); (try clear hfz11_0); (try clear hfz11_1); (try clear hfz11_2); (try clear hfz12_0); (try clear hfz12_1); (try clear hfz19_0); (try clear hfz19_1); (try clear hfz23_0); (try clear hfz23_1)
        obtain ⟨x9_2, x404000_2, x404001_2, rfl, HA, HK2, HO_5, HO_6, BK397, BK398, BK403, HB⟩ := hrel
        cases gk with
        | zero => exact absurd HA.out (by simp [laws_FnLocated.l0])
        | succ k2 =>
         have H := HA.out
         clear HA
         simp only [laws_FnLocated.l0] at H
         by_cases c24 : x9_2 < (t394.length : Int)
         ·rw [if_pos c24] at H
          have c24b0 := decide_eq_true c24
          clear c24
          by_cases c25 : 0 ≤ x9_2
          ·rw [if_pos c25] at H
           have c25b0 := decide_eq_true c25
           clear c25
           obtain ⟨t405, A26, H⟩ := BD H
           have H' := Aside0.mk H
           clear H
           try go_wp2
           replace HO_5 := Aside0.mk (Kd.R_drew HO_5.out)
           replace HO_6 := Aside0.mk (Kd.R_drew HO_6.out)
           replace BK397 := Aside0.mk (blk_drew BK397.out)
           replace BK398 := Aside0.mk (blk_drew BK398.out)
           replace BK403 := Aside0.mk (blk_drew BK403.out)
           replace HB := Aside0.mk (below_drew1 HB.out)
           have p404 : 0 ≤ (x9_2 : Int) := of_decide_eq_true PZ
           have q404 : x9_2 < (t394.length : Int) := of_decide_eq_true PZ
           obtain ⟨ad404, e404, hx404_0⟩ := Kd.at_int (Kd.R_reads' HO_5.out).2.2 x9_2 p404 q404
           cases e404
           replace p404 := eq_true p404
           replace q404 := eq_true q404
           refine ST 9 (fun w' => w'.cell? ⟨gb403, 0, none⟩ = some (.int .i64 x404000_2) ∧ w'.cell? ⟨gb403, 1, none⟩ = some (.int .i64 x404001_2) ∧ w'.cell? (ad404.add (x9_2).toNat) = some (.int .i64 (rd t394 x9_2))) [] laws_FnLocated.tab11 laws_FnLocated.bits11 ⟨CE BK403 0, CE BK403 1, hx404_0⟩ (fun hHeld HT_ HW_ => ?_)
           generalize wr.drew = w27 at HO_5 HO_6 BK397 BK398 BK403 HB hx404_0 hHeld ⊢
           refine PU 0 50 HT_ ?_
           refine PU 2 52 HT_ ?_
           refine PU 3 53 HT_ ?_
           refine PU 4 54 HT_ ?_
           refine TA 1 51 HT_ HW_ hHeld ?_
           refine TA 5 55 HT_ HW_ hHeld ?_
           refine PU 6 56 HT_ ?_
           refine PU 7 57 HT_ ?_
           refine PU 8 10 HT_ ?_
           refine done_ (done_of HT_.out (by kernel_rfl)) ?_
           have hnb28 := NB397_398.out
           have hnc28 := NB398_397.out
           have hnb29 := NB397_403.out
           have hnc29 := NB403_397.out
           obtain ⟨hcz30_0, hcz30_1, hcz30_2, hfz30_0, hfz30_1, hfz30_2⟩ := CZ3 BK397
           have hnb31 := NB403_398.out
           have hnc31 := NB398_403.out
           obtain ⟨hcz32_0, hcz32_1, hfz32_0, hfz32_1⟩ := CZ2 BK403
           try go_wp2_with (first | ((with_reducible refine GC 21 rfl ?_); refine GL 62 Try.func21 (spec_Step.calls k2 t389 t390 t391 x404000_2 (Int.tmod (wrap64 (x404001_2 + (rd t394 x9_2))) 4) t405 _ A26.out) ?_; rintro e w33 ⟨rfl, hb⟩; refine ⟨_, rfl, ?_⟩; replace HO_5 := RB HO_5 hb; replace HO_6 := RB HO_6 hb; replace BK397 := BB BK397 hb; replace BK398 := BB BK398 hb; replace BK403 := BB BK403 hb; replace HB := BS HB hb; clear hb; obtain ⟨hcz34_0, hcz34_1, hfz34_0, hfz34_1⟩ := CZ2 BK403))
           go_roundg k2
           case measure => have := HJ5.out; have := HK2.out; omega
           case rel => exact ⟨(wrap64 (x9_2 + 1)), (t405), (Int.tmod (wrap64 (x404001_2 + (rd t394 x9_2))) 4), VZ, H', ⟨by have := HJ5.out; have := HK2.out; omega⟩, ⟨RT (RF2 (Kd.R_types HO_5.out BK403.out (by decide)))⟩, ⟨RT (RF2 (Kd.R_types HO_6.out BK403.out (by decide)))⟩, ⟨BF2 NB397_403 BK397⟩, ⟨BF2 NB398_403 BK398⟩, ⟨PQ2 BK403⟩, ⟨BZ⟩⟩
          ·rw [if_neg c25] at H
           exact absurd H (by simp)
         ·as_aux_lemma =>
           rw [if_neg c24] at H
           have c24b0 := decide_eq_false c24
           clear c24
           obtain ⟨t406, A35, H⟩ := BD H
           have H' := Aside0.mk H
           clear H
           have hnb36 := NB397_398.out
           have hnc36 := NB398_397.out
           have hnb37 := NB397_403.out
           have hnc37 := NB403_397.out
           obtain ⟨hcz38_0, hcz38_1, hcz38_2, hfz38_0, hfz38_1, hfz38_2⟩ := CZ3 BK397
           go_wp2_with (first | ((with_reducible refine GC 22 rfl ?_); refine GL 67 Try.func22 (spec_CountCells.calls t389 t390 t406 _ A35.out) ?_; rintro e w39 ⟨rfl, hb⟩; refine ⟨_, rfl, ?_⟩; replace HO_5 := RB HO_5 hb; replace HO_6 := RB HO_6 hb; replace BK397 := BB BK397 hb; replace BK398 := BB BK398 hb; replace BK403 := BB BK403 hb; replace HB := BS HB hb; clear hb))
           go_loopg [11, 12] k2 (fun kq v11 v12 w' => ∃ (x11_3 : Int) (x12_3 : Int), v11 = .int .i64 x11_3 ∧ v12 = .int .i64 x12_3 ∧ Aside0 (laws_FnLocated.l1 kq l0 t394 t399 x11_3 x12_3 t389 t390 t391 t392 t393 x404000_2 x404001_2 = some r) ∧ Aside0 (kq ≤ k2) ∧ Aside0 (Kd.R (Kd.int .i64) 3 w' w.heap.size (fun k_ => some k_ ≠ (v400 : Value).ownBlock) (.slice Ao13 t394.length co13) t394) ∧ Aside0 (Kd.R (Kd.int .i64) 3 w' w.heap.size (fun k_ => some k_ ≠ ((.slice Ao13 t394.length co13) : Value).ownBlock) v400 t399) ∧ Aside0 (w'.heap[gb397]? = some (.cells #[.int .i64 t389, .int .i64 t390, .int .i64 t391] 30 (0, 0))) ∧ Aside0 (w'.heap[gb398]? = some (.cells #[.int .i64 t392, .int .i64 t393] 43 (0, 0))) ∧ Aside0 (w'.heap[gb403]? = some (.cells #[.int .i64 x404000_2, .int .i64 x404001_2] 43 (0, 0))) ∧ Aside0 (Below w.heap.size w w'))
           case atStart => exact ⟨(wrap64 ((wrap64 (4 * t406)) + 1)), (0), VZ, VZ, H', ⟨Nat.le_refl _⟩, ⟨KR HO_5⟩, ⟨KR HO_6⟩, ⟨BKZ⟩, ⟨BKZ⟩, ⟨BKZ⟩, ⟨BZ⟩⟩
           case round =>
            clear H'
            (try clear c3); (try clear c17); (try clear c24); (try clear c24b0); (try clear hcz11_0); (try clear hcz11_1); (try clear hcz11_2); (try clear hcz12_0); (try clear hcz12_1); (try clear hcz19_0); (try clear hcz19_1); (try clear hcz23_0); (try clear hcz23_1); (try clear hcz38_0); (try clear hcz38_1); (try clear hcz38_2); (try clear hfz11_0); (try clear hfz11_1); (try clear hfz11_2); (try clear hfz12_0); (try clear hfz12_1); (try clear hfz19_0); (try clear hfz19_1); (try clear hfz23_0); (try clear hfz23_1); (try clear hfz38_0); (try clear hfz38_1); (try clear hfz38_2)
            obtain ⟨x11_3, x12_3, rfl, rfl, HA, HK3, HO_5, HO_6, BK397, BK398, BK403, HB⟩ := hrel
            cases gk with
            | zero => exact absurd HA.out (by simp [laws_FnLocated.l1])
            | succ k3 =>
             have H := HA.out
             clear HA
             simp only [laws_FnLocated.l1] at H
             by_cases c40 : x12_3 ≤ (t394.length : Int)
             ·as_aux_lemma =>
               rw [if_pos c40] at H
               have c40b0 := decide_eq_true c40
               clear c40
               obtain ⟨ji41, hji41⟩ : ∃ j_ : Int, (wrap64 (x12_3 + 1)) = j_ := ⟨_, rfl⟩
               replace H : (if 0 ≤ (ji41) then (if (ji41) ≤ (t399.length : Int) then (if 0 ≤ x12_3 then ((impl_PossibleWalkers.f k3 t389 t390 t391 (t399.take ((ji41) : Int).toNat) (t394.take (x12_3 : Int).toNat)).bind fun t415 => (if (t415.length : Int) < 1 then (some false) else (if (t415.length : Int) > x11_3 then (some false) else (laws_FnLocated.l1 k3 l0 t394 t399 (t415.length : Int) ji41 t389 t390 t391 t392 t393 x404000_2 x404001_2)))) else (none)) else (none)) else (none)) = some r := by first | (rw [hji41] at H; exact H) | (simp only [hji41] at H ⊢; exact H)
               have hji41w : (IntKind.i64.wrap (x12_3 + 1)) = ji41 := (i64_w _).trans hji41
               by_cases c42 : 0 ≤ (ji41)
               ·as_aux_lemma =>
                 rw [if_pos c42] at H
                 have c42b0 := eq_true c42
                 have c42b1 := decide_eq_true c42
                 clear c42
                 by_cases c43 : (ji41) ≤ (t399.length : Int)
                 ·as_aux_lemma =>
                   rw [if_pos c43] at H
                   have c43b0 := eq_true c43
                   have c43b1 := decide_eq_true c43
                   clear c43
                   generalize hy407 : ((t399.take ((ji41) : Int).toNat) : List Int) = y407 at H
                   have Ny407 := Aside0.mk hy407.symm
                   clear hy407
                   by_cases c44 : 0 ≤ x12_3
                   ·as_aux_lemma =>
                     rw [if_pos c44] at H
                     have c44b0 := eq_true c44
                     have c44b1 := decide_eq_true c44
                     clear c44
                     have c45b0 := eq_true (of_decide_eq_true PZ : x12_3 ≤ (t394.length : Int))
                     generalize hy411 : ((t394.take (x12_3 : Int).toNat) : List Int) = y411 at H
                     have Ny411 := Aside0.mk hy411.symm
                     clear hy411
                     obtain ⟨t415, A46, H⟩ := BD H
                     by_cases c47 : (t415.length : Int) < 1
                     ·as_aux_lemma =>
                       rw [if_pos c47] at H
                       have c47b0 := decide_eq_true c47
                       have c47b1 : decide (t415.length < 1) = true := decide_eq_true (by omega)
                       clear c47
                       obtain rfl := Option.some.inj H
                       try go_wp2
                       replace HO_5 := Aside0.mk (Kd.R_drew HO_5.out)
                       replace HO_6 := Aside0.mk (Kd.R_drew HO_6.out)
                       replace BK397 := Aside0.mk (blk_drew BK397.out)
                       replace BK398 := Aside0.mk (blk_drew BK398.out)
                       replace BK403 := Aside0.mk (blk_drew BK403.out)
                       replace HB := Aside0.mk (below_drew1 HB.out)
                       obtain ⟨Ao50, co50, eo50⟩ := Kd.R_slice HO_6.out
                       (first | subst eo50 | (injection eo50 with f1_ f2_ f3_; have f4_ := f1_.symm; have f5_ := f3_.symm; clear f1_ f2_ f3_; subst f4_; subst f5_))
                       have q49 : ((ji41) : Int) ≤ ((t399.length : Int) : Int) := of_decide_eq_true PZ
                       obtain ⟨i049, hi049, _, hsz49, _⟩ := info_parts info3
                       have hroom49 : t399.length ≤ co50 := (Kd.R_reads' HO_6.out).2.1
                       have hC49 : Kd.C (Kd.int .i64) _ Ao50 t399.length t399 := (Kd.R_reads' HO_6.out).2.2
                       have hcut49 := cut_to (P := Try.prog) 26 3 .i64 Try.underlying26 hi049 Ao50 t399.length co50 (ji41) (of_decide_eq_true PZ) q49 hroom49
                       have hr49 := Kd.C_take (m := ((ji41) : Int).toNat) hC49 (by omega)
                       have hy49 : y407.length = ((ji41) : Int).toNat := (by rw [Ny407.out, List.length_take]; omega)
                       rw [← Ny407.out] at hr49
                       rw [← hy49] at hcut49
                       have HR410 := Aside0.mk hr49
                       have HC410 := Aside0.mk (show y407.length ≤ co50 from by omega)
                       clear hr49 hC49 hroom49 hi049 hsz49
                       have KY49 := Aside0.mk hy49
                       clear hy49
                       have KL49 := Aside0.mk (show ((ji41) : Int).toNat ≤ t399.length from by omega)
                       replace q49 := eq_true q49
                       have q51 : (x12_3 : Int) ≤ ((t394.length : Int) : Int) := of_decide_eq_true PZ
                       obtain ⟨i051, hi051, _, hsz51, _⟩ := info_parts info3
                       have hroom51 : t394.length ≤ co13 := (Kd.R_reads' HO_5.out).2.1
                       have hC51 : Kd.C (Kd.int .i64) _ Ao13 t394.length t394 := (Kd.R_reads' HO_5.out).2.2
                       have hcut51 := cut_to (P := Try.prog) 26 3 .i64 Try.underlying26 hi051 Ao13 t394.length co13 x12_3 (of_decide_eq_true PZ) q51 hroom51
                       have hr51 := Kd.C_take (m := (x12_3 : Int).toNat) hC51 (by omega)
                       have hy51 : y411.length = (x12_3 : Int).toNat := (by rw [Ny411.out, List.length_take]; omega)
                       rw [← Ny411.out] at hr51
                       rw [← hy51] at hcut51
                       have HR414 := Aside0.mk hr51
                       have HC414 := Aside0.mk (show y411.length ≤ co13 from by omega)
                       clear hr51 hC51 hroom51 hi051 hsz51
                       have KY51 := Aside0.mk hy51
                       clear hy51
                       have KL51 := Aside0.mk (show (x12_3 : Int).toNat ≤ t394.length from by omega)
                       replace q51 := eq_true q51
                       refine ST 11 (fun w' => w'.cell? ⟨gb397, 0, none⟩ = some (.int .i64 t389) ∧ w'.cell? ⟨gb397, 1, none⟩ = some (.int .i64 t390) ∧ w'.cell? ⟨gb397, 2, none⟩ = some (.int .i64 t391)) [] laws_FnLocated.tab17 laws_FnLocated.bits17 ⟨CE BK397 0, CE BK397 1, CE BK397 2⟩ (fun hHeld HT_ HW_ => ?_)
                       generalize wr.drew = w48 at HO_5 HO_6 BK397 BK398 BK403 HB HR410 HR414 hHeld ⊢
                       refine PU 1 77 HT_ ?_
                       refine PU 2 78 HT_ ?_
                       refine PU 3 79 HT_ ?_
                       refine PU 4 80 HT_ ?_
                       refine PU 5 81 HT_ ?_
                       refine PU 6 82 HT_ ?_
                       refine PU 7 83 HT_ ?_
                       refine TA 0 76 HT_ HW_ hHeld ?_
                       refine OG 8 84 HT_ Try.func13 (impl_PossibleWalkers.calls k3 t389 t390 t391 _ _ y407 _ _ y411 t415 _ ?side1 ?side2 ?side3 ?side4 A46.out) (fun K hK => ?_)
                       (case side1 => repeat (first | exact (by repeat (first | (with_reducible exact HR410.out) | (with_reducible refine Kd.C_alloc ?_ _) | (with_reducible refine Kd.C_drewN ?_ _) | (with_reducible refine Kd.C_drew ?_) | exact HR410.out)) | (with_reducible refine Kd.C_alloc ?_ _) | (with_reducible refine Kd.C_drewN ?_ _) | (with_reducible refine Kd.C_drew ?_)))
                       (case side2 => exact HC410.out)
                       (case side3 => repeat (first | exact (by repeat (first | (with_reducible exact HR414.out) | (with_reducible refine Kd.C_alloc ?_ _) | (with_reducible refine Kd.C_drewN ?_ _) | (with_reducible refine Kd.C_drew ?_) | exact HR414.out)) | (with_reducible refine Kd.C_alloc ?_ _) | (with_reducible refine Kd.C_drewN ?_ _) | (with_reducible refine Kd.C_drew ?_)))
                       (case side4 => exact HC414.out)
                       rintro e w52 ⟨v416, rfl, ho0, hb⟩
                       refine ⟨_, rfl, ?_⟩
                       have HO417 := Aside0.mk (Kd.R_lower (Kd.R_newB (Kd.R_newB ho0 (g := gb398) (o := .cells #[.int .i64 t392, .int .i64 t393] 43 (0, 0)) BKZ) (g := gb403) (o := .cells #[.int .i64 x404000_2, .int .i64 x404001_2] 43 (0, 0)) BKZ) (below_size BZ))
                       replace HO_5 := RB HO_5 hb
                       replace HO_6 := RB HO_6 hb
                       replace BK397 := BB BK397 hb
                       replace BK398 := BB BK398 hb
                       replace BK403 := BB BK403 hb
                       replace HR410 := Aside0.mk (Kd.C_below (by repeat (first | (with_reducible exact HR410.out) | (with_reducible refine Kd.C_alloc ?_ _) | (with_reducible refine Kd.C_drewN ?_ _) | (with_reducible refine Kd.C_drew ?_) | exact HR410.out)) hb)
                       replace HR414 := Aside0.mk (Kd.C_below (by repeat (first | (with_reducible exact HR414.out) | (with_reducible refine Kd.C_alloc ?_ _) | (with_reducible refine Kd.C_drewN ?_ _) | (with_reducible refine Kd.C_drew ?_) | exact HR414.out)) hb)
                       replace HB := BS HB hb
                       clear hb
                       (try clear ho0)
                       obtain ⟨Ao53, co53, eo53⟩ := Kd.R_slice HO417.out
                       (first | subst eo53 | (injection eo53 with f1_ f2_ f3_; have f4_ := f1_.symm; have f5_ := f3_.symm; clear f1_ f2_ f3_; subst f4_; subst f5_))
                       refine HN hK ⟨CE BK397 0, CE BK397 1, CE BK397 2⟩ (fun hHeld => ?_)
                       clear hK K
                       refine PU 9 85 HT_ ?_
                       refine PU 10 13 HT_ ?_
                       refine done_ (done_of HT_.out (by kernel_rfl)) ?_
                       try go_wp2
                       go_ret
                       exact ⟨by first | rfl | (simp [errW_none, errW_some] <;> rfl) | (simp only [← hji41]; first | rfl | (simp [errW_none, errW_some] <;> rfl)) | (simp [*, errW_none, errW_some] <;> rfl), BZ⟩
                     ·as_aux_lemma =>
                       rw [if_neg c47] at H
                       have c47b0 := decide_eq_false c47
                       have c47b1 : decide (t415.length < 1) = false := decide_eq_false (by omega)
                       clear c47
                       by_cases c54 : (t415.length : Int) > x11_3
                       ·as_aux_lemma =>
                         rw [if_pos c54] at H
                         have c54b0 := decide_eq_true c54
                         clear c54
                         obtain rfl := Option.some.inj H
                         try go_wp2
                         replace HO_5 := Aside0.mk (Kd.R_drew HO_5.out)
                         replace HO_6 := Aside0.mk (Kd.R_drew HO_6.out)
                         replace BK397 := Aside0.mk (blk_drew BK397.out)
                         replace BK398 := Aside0.mk (blk_drew BK398.out)
                         replace BK403 := Aside0.mk (blk_drew BK403.out)
                         replace HB := Aside0.mk (below_drew1 HB.out)
                         obtain ⟨Ao57, co57, eo57⟩ := Kd.R_slice HO_6.out
                         (first | subst eo57 | (injection eo57 with f1_ f2_ f3_; have f4_ := f1_.symm; have f5_ := f3_.symm; clear f1_ f2_ f3_; subst f4_; subst f5_))
                         have q56 : ((ji41) : Int) ≤ ((t399.length : Int) : Int) := of_decide_eq_true PZ
                         obtain ⟨i056, hi056, _, hsz56, _⟩ := info_parts info3
                         have hroom56 : t399.length ≤ co57 := (Kd.R_reads' HO_6.out).2.1
                         have hC56 : Kd.C (Kd.int .i64) _ Ao57 t399.length t399 := (Kd.R_reads' HO_6.out).2.2
                         have hcut56 := cut_to (P := Try.prog) 26 3 .i64 Try.underlying26 hi056 Ao57 t399.length co57 (ji41) (of_decide_eq_true PZ) q56 hroom56
                         have hr56 := Kd.C_take (m := ((ji41) : Int).toNat) hC56 (by omega)
                         have hy56 : y407.length = ((ji41) : Int).toNat := (by rw [Ny407.out, List.length_take]; omega)
                         rw [← Ny407.out] at hr56
                         rw [← hy56] at hcut56
                         have HR410 := Aside0.mk hr56
                         have HC410 := Aside0.mk (show y407.length ≤ co57 from by omega)
                         clear hr56 hC56 hroom56 hi056 hsz56
                         have KY56 := Aside0.mk hy56
                         clear hy56
                         have KL56 := Aside0.mk (show ((ji41) : Int).toNat ≤ t399.length from by omega)
                         replace q56 := eq_true q56
                         have q58 : (x12_3 : Int) ≤ ((t394.length : Int) : Int) := of_decide_eq_true PZ
                         obtain ⟨i058, hi058, _, hsz58, _⟩ := info_parts info3
                         have hroom58 : t394.length ≤ co13 := (Kd.R_reads' HO_5.out).2.1
                         have hC58 : Kd.C (Kd.int .i64) _ Ao13 t394.length t394 := (Kd.R_reads' HO_5.out).2.2
                         have hcut58 := cut_to (P := Try.prog) 26 3 .i64 Try.underlying26 hi058 Ao13 t394.length co13 x12_3 (of_decide_eq_true PZ) q58 hroom58
                         have hr58 := Kd.C_take (m := (x12_3 : Int).toNat) hC58 (by omega)
                         have hy58 : y411.length = (x12_3 : Int).toNat := (by rw [Ny411.out, List.length_take]; omega)
                         rw [← Ny411.out] at hr58
                         rw [← hy58] at hcut58
                         have HR414 := Aside0.mk hr58
                         have HC414 := Aside0.mk (show y411.length ≤ co13 from by omega)
                         clear hr58 hC58 hroom58 hi058 hsz58
                         have KY58 := Aside0.mk hy58
                         clear hy58
                         have KL58 := Aside0.mk (show (x12_3 : Int).toNat ≤ t394.length from by omega)
                         replace q58 := eq_true q58
                         refine ST 11 (fun w' => w'.cell? ⟨gb397, 0, none⟩ = some (.int .i64 t389) ∧ w'.cell? ⟨gb397, 1, none⟩ = some (.int .i64 t390) ∧ w'.cell? ⟨gb397, 2, none⟩ = some (.int .i64 t391)) [] laws_FnLocated.tab17 laws_FnLocated.bits17 ⟨CE BK397 0, CE BK397 1, CE BK397 2⟩ (fun hHeld HT_ HW_ => ?_)
                         generalize wr.drew = w55 at HO_5 HO_6 BK397 BK398 BK403 HB HR410 HR414 hHeld ⊢
                         refine PU 1 77 HT_ ?_
                         refine PU 2 78 HT_ ?_
                         refine PU 3 79 HT_ ?_
                         refine PU 4 80 HT_ ?_
                         refine PU 5 81 HT_ ?_
                         refine PU 6 82 HT_ ?_
                         refine PU 7 83 HT_ ?_
                         refine TA 0 76 HT_ HW_ hHeld ?_
                         refine OG 8 84 HT_ Try.func13 (impl_PossibleWalkers.calls k3 t389 t390 t391 _ _ y407 _ _ y411 t415 _ ?side1 ?side2 ?side3 ?side4 A46.out) (fun K hK => ?_)
                         (case side1 => repeat (first | exact (by repeat (first | (with_reducible exact HR410.out) | (with_reducible refine Kd.C_alloc ?_ _) | (with_reducible refine Kd.C_drewN ?_ _) | (with_reducible refine Kd.C_drew ?_) | exact HR410.out)) | (with_reducible refine Kd.C_alloc ?_ _) | (with_reducible refine Kd.C_drewN ?_ _) | (with_reducible refine Kd.C_drew ?_)))
                         (case side2 => exact HC410.out)
                         (case side3 => repeat (first | exact (by repeat (first | (with_reducible exact HR414.out) | (with_reducible refine Kd.C_alloc ?_ _) | (with_reducible refine Kd.C_drewN ?_ _) | (with_reducible refine Kd.C_drew ?_) | exact HR414.out)) | (with_reducible refine Kd.C_alloc ?_ _) | (with_reducible refine Kd.C_drewN ?_ _) | (with_reducible refine Kd.C_drew ?_)))
                         (case side4 => exact HC414.out)
                         rintro e w59 ⟨v416, rfl, ho0, hb⟩
                         refine ⟨_, rfl, ?_⟩
                         have HO417 := Aside0.mk (Kd.R_lower (Kd.R_newB (Kd.R_newB ho0 (g := gb398) (o := .cells #[.int .i64 t392, .int .i64 t393] 43 (0, 0)) BKZ) (g := gb403) (o := .cells #[.int .i64 x404000_2, .int .i64 x404001_2] 43 (0, 0)) BKZ) (below_size BZ))
                         replace HO_5 := RB HO_5 hb
                         replace HO_6 := RB HO_6 hb
                         replace BK397 := BB BK397 hb
                         replace BK398 := BB BK398 hb
                         replace BK403 := BB BK403 hb
                         replace HR410 := Aside0.mk (Kd.C_below (by repeat (first | (with_reducible exact HR410.out) | (with_reducible refine Kd.C_alloc ?_ _) | (with_reducible refine Kd.C_drewN ?_ _) | (with_reducible refine Kd.C_drew ?_) | exact HR410.out)) hb)
                         replace HR414 := Aside0.mk (Kd.C_below (by repeat (first | (with_reducible exact HR414.out) | (with_reducible refine Kd.C_alloc ?_ _) | (with_reducible refine Kd.C_drewN ?_ _) | (with_reducible refine Kd.C_drew ?_) | exact HR414.out)) hb)
                         replace HB := BS HB hb
                         clear hb
                         (try clear ho0)
                         obtain ⟨Ao60, co60, eo60⟩ := Kd.R_slice HO417.out
                         (first | subst eo60 | (injection eo60 with f1_ f2_ f3_; have f4_ := f1_.symm; have f5_ := f3_.symm; clear f1_ f2_ f3_; subst f4_; subst f5_))
                         refine HN hK ⟨CE BK397 0, CE BK397 1, CE BK397 2⟩ (fun hHeld => ?_)
                         clear hK K
                         refine PU 9 85 HT_ ?_
                         refine PU 10 13 HT_ ?_
                         refine done_ (done_of HT_.out (by kernel_rfl)) ?_
                         try go_wp2
                         go_ret
                         exact ⟨by first | rfl | (simp [errW_none, errW_some] <;> rfl) | (simp only [← hji41]; first | rfl | (simp [errW_none, errW_some] <;> rfl)) | (simp [*, errW_none, errW_some] <;> rfl), BZ⟩
                       ·as_aux_lemma =>
                         rw [if_neg c54] at H
                         have c54b0 := decide_eq_false c54
                         clear c54
                         have H' := Aside0.mk H
                         clear H
                         try go_wp2
                         replace HO_5 := Aside0.mk (Kd.R_drew HO_5.out)
                         replace HO_6 := Aside0.mk (Kd.R_drew HO_6.out)
                         replace BK397 := Aside0.mk (blk_drew BK397.out)
                         replace BK398 := Aside0.mk (blk_drew BK398.out)
                         replace BK403 := Aside0.mk (blk_drew BK403.out)
                         replace HB := Aside0.mk (below_drew1 HB.out)
                         obtain ⟨Ao63, co63, eo63⟩ := Kd.R_slice HO_6.out
                         (first | subst eo63 | (injection eo63 with f1_ f2_ f3_; have f4_ := f1_.symm; have f5_ := f3_.symm; clear f1_ f2_ f3_; subst f4_; subst f5_))
                         have q62 : ((ji41) : Int) ≤ ((t399.length : Int) : Int) := of_decide_eq_true PZ
                         obtain ⟨i062, hi062, _, hsz62, _⟩ := info_parts info3
                         have hroom62 : t399.length ≤ co63 := (Kd.R_reads' HO_6.out).2.1
                         have hC62 : Kd.C (Kd.int .i64) _ Ao63 t399.length t399 := (Kd.R_reads' HO_6.out).2.2
                         have hcut62 := cut_to (P := Try.prog) 26 3 .i64 Try.underlying26 hi062 Ao63 t399.length co63 (ji41) (of_decide_eq_true PZ) q62 hroom62
                         have hr62 := Kd.C_take (m := ((ji41) : Int).toNat) hC62 (by omega)
                         have hy62 : y407.length = ((ji41) : Int).toNat := (by rw [Ny407.out, List.length_take]; omega)
                         rw [← Ny407.out] at hr62
                         rw [← hy62] at hcut62
                         have HR410 := Aside0.mk hr62
                         have HC410 := Aside0.mk (show y407.length ≤ co63 from by omega)
                         clear hr62 hC62 hroom62 hi062 hsz62
                         have KY62 := Aside0.mk hy62
                         clear hy62
                         have KL62 := Aside0.mk (show ((ji41) : Int).toNat ≤ t399.length from by omega)
                         replace q62 := eq_true q62
                         have q64 : (x12_3 : Int) ≤ ((t394.length : Int) : Int) := of_decide_eq_true PZ
                         obtain ⟨i064, hi064, _, hsz64, _⟩ := info_parts info3
                         have hroom64 : t394.length ≤ co13 := (Kd.R_reads' HO_5.out).2.1
                         have hC64 : Kd.C (Kd.int .i64) _ Ao13 t394.length t394 := (Kd.R_reads' HO_5.out).2.2
                         have hcut64 := cut_to (P := Try.prog) 26 3 .i64 Try.underlying26 hi064 Ao13 t394.length co13 x12_3 (of_decide_eq_true PZ) q64 hroom64
                         have hr64 := Kd.C_take (m := (x12_3 : Int).toNat) hC64 (by omega)
                         have hy64 : y411.length = (x12_3 : Int).toNat := (by rw [Ny411.out, List.length_take]; omega)
                         rw [← Ny411.out] at hr64
                         rw [← hy64] at hcut64
                         have HR414 := Aside0.mk hr64
                         have HC414 := Aside0.mk (show y411.length ≤ co13 from by omega)
                         clear hr64 hC64 hroom64 hi064 hsz64
                         have KY64 := Aside0.mk hy64
                         clear hy64
                         have KL64 := Aside0.mk (show (x12_3 : Int).toNat ≤ t394.length from by omega)
                         replace q64 := eq_true q64
                         refine ST 11 (fun w' => w'.cell? ⟨gb397, 0, none⟩ = some (.int .i64 t389) ∧ w'.cell? ⟨gb397, 1, none⟩ = some (.int .i64 t390) ∧ w'.cell? ⟨gb397, 2, none⟩ = some (.int .i64 t391)) [] laws_FnLocated.tab17 laws_FnLocated.bits17 ⟨CE BK397 0, CE BK397 1, CE BK397 2⟩ (fun hHeld HT_ HW_ => ?_)
                         generalize wr.drew = w61 at HO_5 HO_6 BK397 BK398 BK403 HB HR410 HR414 hHeld ⊢
                         refine PU 1 77 HT_ ?_
                         refine PU 2 78 HT_ ?_
                         refine PU 3 79 HT_ ?_
                         refine PU 4 80 HT_ ?_
                         refine PU 5 81 HT_ ?_
                         refine PU 6 82 HT_ ?_
                         refine PU 7 83 HT_ ?_
                         refine TA 0 76 HT_ HW_ hHeld ?_
                         refine OG 8 84 HT_ Try.func13 (impl_PossibleWalkers.calls k3 t389 t390 t391 _ _ y407 _ _ y411 t415 _ ?side1 ?side2 ?side3 ?side4 A46.out) (fun K hK => ?_)
                         (case side1 => repeat (first | exact (by repeat (first | (with_reducible exact HR410.out) | (with_reducible refine Kd.C_alloc ?_ _) | (with_reducible refine Kd.C_drewN ?_ _) | (with_reducible refine Kd.C_drew ?_) | exact HR410.out)) | (with_reducible refine Kd.C_alloc ?_ _) | (with_reducible refine Kd.C_drewN ?_ _) | (with_reducible refine Kd.C_drew ?_)))
                         (case side2 => exact HC410.out)
                         (case side3 => repeat (first | exact (by repeat (first | (with_reducible exact HR414.out) | (with_reducible refine Kd.C_alloc ?_ _) | (with_reducible refine Kd.C_drewN ?_ _) | (with_reducible refine Kd.C_drew ?_) | exact HR414.out)) | (with_reducible refine Kd.C_alloc ?_ _) | (with_reducible refine Kd.C_drewN ?_ _) | (with_reducible refine Kd.C_drew ?_)))
                         (case side4 => exact HC414.out)
                         rintro e w65 ⟨v416, rfl, ho0, hb⟩
                         refine ⟨_, rfl, ?_⟩
                         have HO417 := Aside0.mk (Kd.R_lower (Kd.R_newB (Kd.R_newB ho0 (g := gb398) (o := .cells #[.int .i64 t392, .int .i64 t393] 43 (0, 0)) BKZ) (g := gb403) (o := .cells #[.int .i64 x404000_2, .int .i64 x404001_2] 43 (0, 0)) BKZ) (below_size BZ))
                         replace HO_5 := RB HO_5 hb
                         replace HO_6 := RB HO_6 hb
                         replace BK397 := BB BK397 hb
                         replace BK398 := BB BK398 hb
                         replace BK403 := BB BK403 hb
                         replace HR410 := Aside0.mk (Kd.C_below (by repeat (first | (with_reducible exact HR410.out) | (with_reducible refine Kd.C_alloc ?_ _) | (with_reducible refine Kd.C_drewN ?_ _) | (with_reducible refine Kd.C_drew ?_) | exact HR410.out)) hb)
                         replace HR414 := Aside0.mk (Kd.C_below (by repeat (first | (with_reducible exact HR414.out) | (with_reducible refine Kd.C_alloc ?_ _) | (with_reducible refine Kd.C_drewN ?_ _) | (with_reducible refine Kd.C_drew ?_) | exact HR414.out)) hb)
                         replace HB := BS HB hb
                         clear hb
                         (try clear ho0)
                         obtain ⟨Ao66, co66, eo66⟩ := Kd.R_slice HO417.out
                         (first | subst eo66 | (injection eo66 with f1_ f2_ f3_; have f4_ := f1_.symm; have f5_ := f3_.symm; clear f1_ f2_ f3_; subst f4_; subst f5_))
                         refine HN hK ⟨CE BK397 0, CE BK397 1, CE BK397 2⟩ (fun hHeld => ?_)
                         clear hK K
                         refine PU 9 85 HT_ ?_
                         refine PU 10 13 HT_ ?_
                         refine done_ (done_of HT_.out (by kernel_rfl)) ?_
                         try go_wp2
                         go_roundg k3
                         case measure => have := HJ5.out; have := HK2.out; have := HK3.out; omega
                         case rel => exact ⟨((t415.length : Int)), (ji41), VZ, (by first | rfl | (simp; done) | (simp only [← hji41] <;> (first | rfl | simp)) | (simp [*]; done)), H', ⟨by have := HJ5.out; have := HK2.out; have := HK3.out; omega⟩, ⟨KR HO_5⟩, ⟨KR HO_6⟩, ⟨BKZ⟩, ⟨BKZ⟩, ⟨BKZ⟩, ⟨BZ⟩⟩
                   ·rw [if_neg c44] at H
                    exact absurd H (by simp)
                 ·rw [if_neg c43] at H
                  exact absurd H (by simp)
               ·rw [if_neg c42] at H
                exact absurd H (by simp)
             ·as_aux_lemma =>
               rw [if_neg c40] at H
               have c40b0 := decide_eq_false c40
               clear c40
               obtain ⟨t418, A67, H⟩ := BD H
               have H' := Aside0.mk H
               clear H
               have hnb68 := NB397_398.out
               have hnc68 := NB398_397.out
               have hnb69 := NB397_403.out
               have hnc69 := NB403_397.out
               obtain ⟨hcz70_0, hcz70_1, hcz70_2, hfz70_0, hfz70_1, hfz70_2⟩ := CZ3 BK397
               obtain ⟨Ao71, co71, eo71⟩ := Kd.R_slice HO_6.out
               subst eo71
               go_wp2_with (first | ((with_reducible refine GC 13 rfl ?_); refine GL 97 Try.func13 (impl_PossibleWalkers.calls k3 t389 t390 t391 _ _ t399 _ _ t394 t418 _ (CR HO_6) (CL HO_6) (CR HO_5) (CL HO_5) A67.out) ?_; rintro e w72 ⟨v419, rfl, ho0, hb⟩; refine ⟨_, rfl, ?_⟩; have HO420 := Aside0.mk (Kd.R_lower (Kd.R_newB (Kd.R_newB ho0 (g := gb398) (o := .cells #[.int .i64 t392, .int .i64 t393] 43 (0, 0)) BKZ) (g := gb403) (o := .cells #[.int .i64 x404000_2, .int .i64 x404001_2] 43 (0, 0)) BKZ) (below_size BZ)); replace HO_5 := RB HO_5 hb; replace HO_6 := RB HO_6 hb; replace BK397 := BB BK397 hb; replace BK398 := BB BK398 hb; replace BK403 := BB BK403 hb; replace HB := BS HB hb; clear hb; (try clear ho0)))
               go_loopg [15, 16] k3 (fun kq v15 v16 w' => ∃ (x15_4 : Bool) (x16_4 : Int), v15 = .bool x15_4 ∧ v16 = .int .i64 x16_4 ∧ Aside0 (laws_FnLocated.l2 kq l0 t394 t399 t418 x15_4 x16_4 t389 t390 t391 t392 t393 x404000_2 x404001_2 = some r) ∧ Aside0 (kq ≤ k3) ∧ Aside0 (Kd.R (Kd.int .i64) 3 w' w.heap.size (fun k_ => some k_ ≠ ((.slice Ao71 t399.length co71) : Value).ownBlock) (.slice Ao13 t394.length co13) t394) ∧ Aside0 (Kd.R (Kd.int .i64) 3 w' w.heap.size (fun k_ => some k_ ≠ ((.slice Ao13 t394.length co13) : Value).ownBlock) (.slice Ao71 t399.length co71) t399) ∧ Aside0 (Kd.R k43 43 w' w.heap.size (fun k_ => k_ ≠ gb398 ∧ k_ ≠ gb403) v419 t418) ∧ Aside0 (w'.heap[gb397]? = some (.cells #[.int .i64 t389, .int .i64 t390, .int .i64 t391] 30 (0, 0))) ∧ Aside0 (w'.heap[gb398]? = some (.cells #[.int .i64 t392, .int .i64 t393] 43 (0, 0))) ∧ Aside0 (w'.heap[gb403]? = some (.cells #[.int .i64 x404000_2, .int .i64 x404001_2] 43 (0, 0))) ∧ Aside0 (Below w.heap.size w w'))
               case atStart => exact ⟨(false), (0), VZ, VZ, H', ⟨Nat.le_refl _⟩, ⟨KR HO_5⟩, ⟨KR HO_6⟩, ⟨RT (Kd.R_mono HO420.out (fun _ hk => ⟨hk.1.2, hk.2⟩))⟩, ⟨BKZ⟩, ⟨BKZ⟩, ⟨BKZ⟩, ⟨BZ⟩⟩
               case round =>
                clear H'
                (try clear c40); (try clear c40b0); (try clear hcz70_0); (try clear hcz70_1); (try clear hcz70_2); (try clear hfz70_0); (try clear hfz70_1); (try clear hfz70_2)
                obtain ⟨x15_4, x16_4, rfl, rfl, HA, HK4, HO_5, HO_6, HO_14, BK397, BK398, BK403, HB⟩ := hrel
                cases gk with
                | zero => exact absurd HA.out (by simp [laws_FnLocated.l2])
                | succ k4 =>
                 have H := HA.out
                 clear HA
                 simp only [laws_FnLocated.l2] at H
                 by_cases c73 : x16_4 < (t418.length : Int)
                 ·rw [if_pos c73] at H
                  have c73b0 := decide_eq_true c73
                  clear c73
                  by_cases c74 : x15_4 = true
                  ·subst c74
                   replace H := IT H
                   have H' := Aside0.mk H
                   clear H
                   obtain ⟨Ao75, co75, eo75⟩ := Kd.R_slice HO_14.out
                   subst eo75
                   try go_wp2
                   replace HO_5 := Aside0.mk (Kd.R_drew HO_5.out)
                   replace HO_6 := Aside0.mk (Kd.R_drew HO_6.out)
                   replace HO_14 := Aside0.mk (Kd.R_drew HO_14.out)
                   replace BK397 := Aside0.mk (blk_drew BK397.out)
                   replace BK398 := Aside0.mk (blk_drew BK398.out)
                   replace BK403 := Aside0.mk (blk_drew BK403.out)
                   replace HB := Aside0.mk (below_drew1 HB.out)
                   refine ST 10 (fun w' => True) [] laws_FnLocated.tab26 laws_FnLocated.bits26 trivial (fun hHeld HT_ HW_ => ?_)
                   generalize wr.drew = w76 at HO_5 HO_6 HO_14 BK397 BK398 BK403 HB hHeld ⊢
                   refine PU 0 104 HT_ ?_
                   refine PU 1 105 HT_ ?_
                   refine PX 2 106 HT_ ?_
                   refine PX 3 107 HT_ ?_
                   refine PX 4 108 HT_ ?_
                   refine PX 5 109 HT_ ?_
                   refine PX 6 110 HT_ ?_
                   refine PX 7 111 HT_ ?_
                   refine PU 8 112 HT_ ?_
                   refine PU 9 15 HT_ ?_
                   refine done_ (done_of HT_.out (by kernel_rfl)) ?_
                   try go_wp2
                   go_roundg k4
                   case measure => have := HJ5.out; have := HK2.out; have := HK3.out; have := HK4.out; omega
                   case rel => exact ⟨(true), (wrap64 (x16_4 + 1)), VZ, VZ, H', ⟨by have := HJ5.out; have := HK2.out; have := HK3.out; have := HK4.out; omega⟩, ⟨KR HO_5⟩, ⟨KR HO_6⟩, ⟨KR HO_14⟩, ⟨BKZ⟩, ⟨BKZ⟩, ⟨BKZ⟩, ⟨BZ⟩⟩
                  ·replace c74 := Bool.eq_false_iff.mpr c74
                   subst c74
                   replace H := IE H
                   by_cases c77 : 0 ≤ x16_4
                   ·rw [if_pos c77] at H
                    have c77b0 := decide_eq_true c77
                    clear c77
                    have H' := Aside0.mk H
                    clear H
                    obtain ⟨Ao78, co78, eo78⟩ := Kd.R_slice HO_14.out
                    subst eo78
                    try go_wp2
                    replace HO_5 := Aside0.mk (Kd.R_drew HO_5.out)
                    replace HO_6 := Aside0.mk (Kd.R_drew HO_6.out)
                    replace HO_14 := Aside0.mk (Kd.R_drew HO_14.out)
                    replace BK397 := Aside0.mk (blk_drew BK397.out)
                    replace BK398 := Aside0.mk (blk_drew BK398.out)
                    replace BK403 := Aside0.mk (blk_drew BK403.out)
                    replace HB := Aside0.mk (below_drew1 HB.out)
                    have p421 : 0 ≤ (x16_4 : Int) := of_decide_eq_true PZ
                    have q421 : x16_4 < (t418.length : Int) := of_decide_eq_true PZ
                    obtain ⟨ad421, e421, hx421_0, hx421_1⟩ := at_T43 (Kd.R_reads' HO_14.out).2.2 x16_4 p421 q421
                    cases e421
                    replace p421 := eq_true p421
                    replace q421 := eq_true q421
                    refine ST 10 (fun w' => w'.cell? ⟨gb403, 0, none⟩ = some (.int .i64 x404000_2) ∧ w'.cell? ⟨gb403, 1, none⟩ = some (.int .i64 x404001_2) ∧ w'.cell? (ad421.add ((x16_4).toNat * 2)) = some (.int .i64 ((rd_T43 t418 x16_4).f0)) ∧ w'.cell? ⟨(ad421.add ((x16_4).toNat * 2)).block, (ad421.add ((x16_4).toNat * 2)).off + 1, none⟩ = some (.int .i64 ((rd_T43 t418 x16_4).f1))) [] laws_FnLocated.tab26 laws_FnLocated.bits26 ⟨CE BK403 0, CE BK403 1, hx421_0, hx421_1⟩ (fun hHeld HT_ HW_ => ?_)
                    generalize wr.drew = w79 at HO_5 HO_6 HO_14 BK397 BK398 BK403 HB hx421_0 hx421_1 hHeld ⊢
                    refine PU 0 104 HT_ ?_
                    refine PU 1 105 HT_ ?_
                    refine PU 2 106 HT_ ?_
                    refine PU 3 107 HT_ ?_
                    refine PU 4 108 HT_ ?_
                    refine TA 5 109 HT_ HW_ hHeld ?_
                    refine TA 6 110 HT_ HW_ hHeld ?_
                    refine PU 7 111 HT_ ?_
                    refine PU 8 112 HT_ ?_
                    refine PU 9 15 HT_ ?_
                    refine done_ (done_of HT_.out (by kernel_rfl)) ?_
                    try go_wp2
                    go_roundg k4
                    case measure => have := HJ5.out; have := HK2.out; have := HK3.out; have := HK4.out; omega
                    case rel => exact ⟨((((rd_T43 t418 x16_4).f0) == x404000_2 && (((rd_T43 t418 x16_4).f1) == x404001_2))), (wrap64 (x16_4 + 1)), VZ, VZ, H', ⟨by have := HJ5.out; have := HK2.out; have := HK3.out; have := HK4.out; omega⟩, ⟨KR HO_5⟩, ⟨KR HO_6⟩, ⟨KR HO_14⟩, ⟨BKZ⟩, ⟨BKZ⟩, ⟨BKZ⟩, ⟨BZ⟩⟩
                   ·rw [if_neg c77] at H
                    exact absurd H (by simp)
                 ·as_aux_lemma =>
                   rw [if_neg c73] at H
                   have c73b0 := decide_eq_false c73
                   clear c73
                   obtain ⟨t422, A80, H⟩ := BD H
                   obtain ⟨t423, A81, H⟩ := BD H
                   have e_ := Option.some.inj (A35.out.symm.trans A81.out)
                   subst e_
                   by_cases c82 : t406 = 0
                   ·rw [if_pos c82] at H
                    exact absurd H (by simp)
                   ·as_aux_lemma =>
                     rw [if_neg c82] at H
                     obtain ⟨c82b0, c82b1⟩ := QF c82
                     obtain ⟨t424, A83, H⟩ := BD H
                     by_cases c84 : x15_4 = true
                     ·as_aux_lemma =>
                       subst c84
                       replace H := IT H
                       obtain ⟨t426, A85, H⟩ := BD H
                       by_cases c86 : (t426 == ((t418.length : Int) == 1)) = true
                       ·as_aux_lemma =>
                         rw [if_pos c86] at H
                         have c86b0 : (t426 == ((t418.length : Int) == 1)) = true := c86
                         (try (have c86b1 : decide (t426 = ((t418.length : Int) == 1)) = true := by simpa using c86))
                         (try (have c86b2 : (t426 == ((t418.length : Int) == 1)) = true := by simpa using c86))
                         clear c86
                         obtain ⟨t427, A87, H⟩ := BD H
                         by_cases c88 : t427 = true
                         ·as_aux_lemma =>
                           subst c88
                           replace H := IT H
                           obtain ⟨t428, A89, H⟩ := BD H
                           obtain ⟨t429, A90, H⟩ := BD H
                           by_cases c91 : (t428 == t429) = true
                           ·as_aux_lemma =>
                             rw [if_pos c91] at H
                             have c91b0 : (t428 == t429) = true := c91
                             (try (have c91b1 : decide (t428 = t429) = true := by simpa using c91))
                             (try (have c91b2 : (t428 == t429) = true := by simpa using c91))
                             clear c91
                             obtain ⟨t430, A92, H⟩ := BD H
                             by_cases c93 : t430 = true
                             ·as_aux_lemma =>
                               subst c93
                               replace H := IT H
                               obtain ⟨t431, A94, H⟩ := BD H
                               obtain ⟨t432, A95, H⟩ := BD H
                               obtain rfl := Option.some.inj H
                               obtain ⟨Ao96, co96, eo96⟩ := Kd.R_slice HO_14.out
                               subst eo96
                               try go_wp2
                               replace HO_5 := Aside0.mk (Kd.R_drew HO_5.out)
                               replace HO_6 := Aside0.mk (Kd.R_drew HO_6.out)
                               replace HO_14 := Aside0.mk (Kd.R_drew HO_14.out)
                               replace BK397 := Aside0.mk (blk_drew BK397.out)
                               replace BK398 := Aside0.mk (blk_drew BK398.out)
                               replace BK403 := Aside0.mk (blk_drew BK403.out)
                               replace HB := Aside0.mk (below_drew1 HB.out)
                               refine ST 12 (fun w' => w'.cell? ⟨gb397, 0, none⟩ = some (.int .i64 t389) ∧ w'.cell? ⟨gb397, 1, none⟩ = some (.int .i64 t390) ∧ w'.cell? ⟨gb397, 2, none⟩ = some (.int .i64 t391)) [] laws_FnLocated.tab27 laws_FnLocated.bits27 ⟨CE BK397 0, CE BK397 1, CE BK397 2⟩ (fun hHeld HT_ HW_ => ?_)
                               generalize wr.drew = w97 at HO_5 HO_6 HO_14 BK397 BK398 BK403 HB hHeld ⊢
                               refine PU 0 113 HT_ ?_
                               refine PU 2 115 HT_ ?_
                               refine PU 6 119 HT_ ?_
                               refine TA 3 116 HT_ HW_ hHeld ?_
                               refine join_ (σ := Nat) 1 #[true, true, true, true, true, true, true, true, true, true, true, false] (fun s_ => [(114, .int .i64 t422), (117, .int .i64 t406), (120, .int .i64 t424), (17, .pointer (some ⟨s_, 0, none⟩)), (118, .int .i64 (Int.tmod t422 t406)), (121, .int .i64 (Int.tmod t424 4)), (122, .agg #[.int .i64 (Int.tmod t422 t406), .int .i64 (Int.tmod t424 4)])]) (fun s_ w' => (w'.cell? ⟨gb397, 0, none⟩ = some (.int .i64 t389) ∧ w'.cell? ⟨gb397, 1, none⟩ = some (.int .i64 t390) ∧ w'.cell? ⟨gb397, 2, none⟩ = some (.int .i64 t391)) ∧ (Kd.R k43 43 w' w.heap.size (fun k_ => k_ ≠ gb398 ∧ k_ ≠ gb403 ∧ k_ ≠ s_) (.slice Ao96 t418.length co96) t418) ∧ (Kd.R (Kd.int .i64) 3 w' w.heap.size (fun k_ => some k_ ≠ (.slice Ao71 t399.length co71 : Value).ownBlock) (.slice Ao13 t394.length co13) t394) ∧ (Kd.R (Kd.int .i64) 3 w' w.heap.size (fun k_ => some k_ ≠ (.slice Ao13 t394.length co13 : Value).ownBlock) (.slice Ao71 t399.length co71) t399) ∧ (w'.heap[gb397]? = some (.cells #[.int .i64 t389, .int .i64 t390, .int .i64 t391] 30 (0, 0))) ∧ (w'.heap[gb398]? = some (.cells #[.int .i64 t392, .int .i64 t393] 43 (0, 0))) ∧ (w'.heap[gb403]? = some (.cells #[.int .i64 x404000_2, .int .i64 x404001_2] 43 (0, 0))) ∧ (w'.heap[s_]? = some (.cells #[.int .i64 0, .int .i64 0] 43 (0, 0))) ∧ (w.heap.size ≤ s_) ∧ (w.heap.size ≤ s_) ∧ (gb397 ≠ s_) ∧ (s_ ≠ gb397) ∧ (gb398 ≠ s_) ∧ (s_ ≠ gb398) ∧ (gb403 ≠ s_) ∧ (s_ ≠ gb403) ∧ (Below w.heap.size w w')) ?_ ?_
                               rotate_left
                               ·as_aux_lemma =>
                                 intro hCont
                                 refine two_ (i := 1) (j := 10) (Ni := some 114) (Nj := some 17) #[true, true, true, true, false, false, true, false, false, false, false, false] #[true, false, true, true, false, false, true, false, false, false, true, false] rfl rfl rfl rfl (two_of HT_.out (by kernel_rfl)) (by decide) (by decide) (fun K hK => ?_) (fun K hK => ?_)
                                 ·as_aux_lemma =>
                                   skip
                                   refine goes_ Try.func23 (by kernel_rfl) rfl #[.slice A0 l0.length c0, .int .i64 0] (by rfl) rfl rfl (by (try simp only [List.map_toArray, List.map_cons, List.map_nil]); first | done | rfl | (simp only [List.length_drop, List.length_take]; rfl)) ?_
                                   with_reducible refine (laws_at.calls _ _ l0 0 t422 _ ?side1 ?side2 A80.out).mono ?_
                                   (case side1 => repeat (first | exact (Kd.C_below HR0.out HB.out) | (with_reducible refine Kd.C_alloc ?_ _) | (with_reducible refine Kd.C_drewN ?_ _) | (with_reducible refine Kd.C_drew ?_)))
                                   (case side2 => exact HC0.out)
                                   rintro e w' ⟨rfl, ⟨nd, rfl⟩⟩
                                   refine ⟨_, rfl, ?_⟩
                                   refine HN hK ⟨CE BK397 0, CE BK397 1, CE BK397 2⟩ (fun hHeld => ?_)
                                   clear hK K
                                   refine two_ (i := 4) (j := 10) (Ni := some 117) (Nj := some 17) #[true, true, true, true, true, false, true, false, false, false, false, false] #[true, true, true, true, false, false, true, false, false, false, true, false] rfl rfl rfl rfl (two_of HT_.out (by kernel_rfl)) (by decide) (by decide) (fun K hK => ?_) (fun K hK => ?_)
                                   ·as_aux_lemma =>
                                     skip
                                     refine goes_ Try.func22 (by kernel_rfl) rfl #[.agg #[.int .i64 t389, .int .i64 t390]] (by rfl) rfl rfl (by (try simp only [List.map_toArray, List.map_cons, List.map_nil]); first | done | rfl | (simp only [List.length_drop, List.length_take]; rfl)) ?_
                                     with_reducible refine (spec_CountCells.calls t389 t390 t406 _ A81.out).mono ?_
                                     rintro e w98 ⟨rfl, hb⟩
                                     refine ⟨_, rfl, ?_⟩
                                     replace HO_5 := RB HO_5 hb
                                     replace HO_6 := RB HO_6 hb
                                     replace HO_14 := RB HO_14 hb
                                     replace BK397 := BB BK397 hb
                                     replace BK398 := BB BK398 hb
                                     replace BK403 := BB BK403 hb
                                     replace HB := BS HB hb
                                     clear hb
                                     refine HN hK ⟨CE BK397 0, CE BK397 1, CE BK397 2⟩ (fun hHeld => ?_)
                                     clear hK K
                                     refine PU 5 118 HT_ ?_
                                     refine two_ (i := 7) (j := 10) (Ni := some 120) (Nj := some 17) #[true, true, true, true, true, true, true, true, false, false, false, false] #[true, true, true, true, true, true, true, false, false, false, true, false] rfl rfl rfl rfl (two_of HT_.out (by kernel_rfl)) (by decide) (by decide) (fun K hK => ?_) (fun K hK => ?_)
                                     ·skip
                                      refine goes_ Try.func23 (by kernel_rfl) rfl #[.slice A0 l0.length c0, .int .i64 1] (by rfl) rfl rfl (by (try simp only [List.map_toArray, List.map_cons, List.map_nil]); first | done | rfl | (simp only [List.length_drop, List.length_take]; rfl)) ?_
                                      with_reducible refine (laws_at.calls _ _ l0 1 t424 _ ?side1 ?side2 A83.out).mono ?_
                                      (case side1 => repeat (first | exact (Kd.C_below HR0.out HB.out) | (with_reducible refine Kd.C_alloc ?_ _) | (with_reducible refine Kd.C_drewN ?_ _) | (with_reducible refine Kd.C_drew ?_)))
                                      (case side2 => exact HC0.out)
                                      rintro e w' ⟨rfl, ⟨nd, rfl⟩⟩
                                      refine ⟨_, rfl, ?_⟩
                                      refine HN hK ⟨CE BK397 0, CE BK397 1, CE BK397 2⟩ (fun hHeld => ?_)
                                      clear hK K
                                      refine PU 8 121 HT_ ?_
                                      refine PU 9 122 HT_ ?_
                                      refine one_ (i := 10) (N := some 17) #[true, true, true, true, true, true, true, true, true, true, true, false] rfl rfl (one_of HT_.out (by kernel_rfl)) (by decide) (fun K hK => ?_)
                                      refine box_step ?hg (N := 17) ?hd (cs := #[.int .i64 0, .int .i64 0]) (t := 43) ?hr ?_; (case hd => rfl); (case hg => rfl); (case hr => first | (go_simp; done) | (go_simp; rfl))
                                      intro gb425 hg w99 hbox hb
                                      have BK425 := Aside0.mk (hbox)
                                      have GW425 := (GS hg : Aside0 (w.heap.size ≤ gb425))
                                      have GE425 := GW425
                                      have NB397_425 := NL BK397 hg
                                      have NB425_397 := NG BK397 hg
                                      have NB398_425 := NL BK398 hg
                                      have NB425_398 := NG BK398 hg
                                      have NB403_425 := NL BK403 hg
                                      have NB425_403 := NG BK403 hg
                                      replace HO_5 := RB HO_5 hb
                                      replace HO_6 := RB HO_6 hb
                                      replace HO_14 := Aside0.mk (Kd.R_below (Kd.R_elderB (KR HO_14) gb425 (Nat.le_of_eq hg.symm)) hb)
                                      replace BK397 := BB BK397 hb
                                      replace BK398 := BB BK398 hb
                                      replace BK403 := BB BK403 hb
                                      replace HB := BS HB hb
                                      clear hb hbox hg
                                      refine HN hK ⟨CE BK397 0, CE BK397 1, CE BK397 2⟩ (fun hHeld => ?_)
                                      clear hK K
                                      exact norm_ (by simp only [putAll, Act.put, List.setIfInBounds_toArray, List.set_cons_zero, List.set_cons_succ]) (hCont (gb425) _ ⟨hHeld, (RT (Kd.R_mono HO_14.out (fun _ hk => ⟨hk.1.1, ⟨hk.1.2, hk.2⟩⟩))), (KR HO_5), (KR HO_6), BKZ, BKZ, BKZ, BKZ, GW425.out, GE425.out, NB397_425.out, NB425_397.out, NB398_425.out, NB425_398.out, NB403_425.out, NB425_403.out, BZ⟩)
                                     ·skip
                                      refine box_step ?hg (N := 17) ?hd (cs := #[.int .i64 0, .int .i64 0]) (t := 43) ?hr ?_; (case hd => rfl); (case hg => rfl); (case hr => first | (go_simp; done) | (go_simp; rfl))
                                      intro gb425 hg w99 hbox hb
                                      have BK425 := Aside0.mk (hbox)
                                      have GW425 := (GS hg : Aside0 (w.heap.size ≤ gb425))
                                      have GE425 := GW425
                                      have NB397_425 := NL BK397 hg
                                      have NB425_397 := NG BK397 hg
                                      have NB398_425 := NL BK398 hg
                                      have NB425_398 := NG BK398 hg
                                      have NB403_425 := NL BK403 hg
                                      have NB425_403 := NG BK403 hg
                                      replace HO_5 := RB HO_5 hb
                                      replace HO_6 := RB HO_6 hb
                                      replace HO_14 := Aside0.mk (Kd.R_below (Kd.R_elderB (KR HO_14) gb425 (Nat.le_of_eq hg.symm)) hb)
                                      replace BK397 := BB BK397 hb
                                      replace BK398 := BB BK398 hb
                                      replace BK403 := BB BK403 hb
                                      replace HB := BS HB hb
                                      clear hb hbox hg
                                      refine HN hK ⟨CE BK397 0, CE BK397 1, CE BK397 2⟩ (fun hHeld => ?_)
                                      clear hK K
                                      refine OG 7 120 HT_ Try.func23 (laws_at.calls _ _ l0 1 t424 _ ?side1 ?side2 A83.out) (fun K hK => ?_)
                                      (case side1 => repeat (first | exact (Kd.C_below HR0.out HB.out) | (with_reducible refine Kd.C_alloc ?_ _) | (with_reducible refine Kd.C_drewN ?_ _) | (with_reducible refine Kd.C_drew ?_)))
                                      (case side2 => exact HC0.out)
                                      rintro e w' ⟨rfl, ⟨nd, rfl⟩⟩
                                      refine ⟨_, rfl, ?_⟩
                                      refine HN hK ⟨CE BK397 0, CE BK397 1, CE BK397 2⟩ (fun hHeld => ?_)
                                      clear hK K
                                      refine PU 8 121 HT_ ?_
                                      refine PU 9 122 HT_ ?_
                                      exact norm_ (by simp only [putAll, Act.put, List.setIfInBounds_toArray, List.set_cons_zero, List.set_cons_succ]) (hCont (gb425) _ ⟨hHeld, (RT (Kd.R_mono HO_14.out (fun _ hk => ⟨hk.1.1, ⟨hk.1.2, hk.2⟩⟩))), (KR HO_5), (KR HO_6), BKZ, BKZ, BKZ, BKZ, GW425.out, GE425.out, NB397_425.out, NB425_397.out, NB398_425.out, NB425_398.out, NB403_425.out, NB425_403.out, BZ⟩)
                                   ·skip
                                    refine box_step ?hg (N := 17) ?hd (cs := #[.int .i64 0, .int .i64 0]) (t := 43) ?hr ?_; (case hd => rfl); (case hg => rfl); (case hr => first | (go_simp; done) | (go_simp; rfl))
                                    intro gb425 hg w98 hbox hb
                                    have BK425 := Aside0.mk (hbox)
                                    have GW425 := (GS hg : Aside0 (w.heap.size ≤ gb425))
                                    have GE425 := GW425
                                    have NB397_425 := NL BK397 hg
                                    have NB425_397 := NG BK397 hg
                                    have NB398_425 := NL BK398 hg
                                    have NB425_398 := NG BK398 hg
                                    have NB403_425 := NL BK403 hg
                                    have NB425_403 := NG BK403 hg
                                    replace HO_5 := RB HO_5 hb
                                    replace HO_6 := RB HO_6 hb
                                    replace HO_14 := Aside0.mk (Kd.R_below (Kd.R_elderB (KR HO_14) gb425 (Nat.le_of_eq hg.symm)) hb)
                                    replace BK397 := BB BK397 hb
                                    replace BK398 := BB BK398 hb
                                    replace BK403 := BB BK403 hb
                                    replace HB := BS HB hb
                                    clear hb hbox hg
                                    refine HN hK ⟨CE BK397 0, CE BK397 1, CE BK397 2⟩ (fun hHeld => ?_)
                                    clear hK K
                                    refine OG 4 117 HT_ Try.func22 (spec_CountCells.calls t389 t390 t406 _ A81.out) (fun K hK => ?_)
                                    rintro e w99 ⟨rfl, hb⟩
                                    refine ⟨_, rfl, ?_⟩
                                    replace HO_5 := RB HO_5 hb
                                    replace HO_6 := RB HO_6 hb
                                    replace HO_14 := RB HO_14 hb
                                    replace BK397 := BB BK397 hb
                                    replace BK398 := BB BK398 hb
                                    replace BK403 := BB BK403 hb
                                    replace BK425 := BB BK425 hb
                                    replace HB := BS HB hb
                                    clear hb
                                    refine HN hK ⟨CE BK397 0, CE BK397 1, CE BK397 2⟩ (fun hHeld => ?_)
                                    clear hK K
                                    refine PU 5 118 HT_ ?_
                                    refine OG 7 120 HT_ Try.func23 (laws_at.calls _ _ l0 1 t424 _ ?side1 ?side2 A83.out) (fun K hK => ?_)
                                    (case side1 => repeat (first | exact (Kd.C_below HR0.out HB.out) | (with_reducible refine Kd.C_alloc ?_ _) | (with_reducible refine Kd.C_drewN ?_ _) | (with_reducible refine Kd.C_drew ?_)))
                                    (case side2 => exact HC0.out)
                                    rintro e w' ⟨rfl, ⟨nd, rfl⟩⟩
                                    refine ⟨_, rfl, ?_⟩
                                    refine HN hK ⟨CE BK397 0, CE BK397 1, CE BK397 2⟩ (fun hHeld => ?_)
                                    clear hK K
                                    refine PU 8 121 HT_ ?_
                                    refine PU 9 122 HT_ ?_
                                    exact norm_ (by simp only [putAll, Act.put, List.setIfInBounds_toArray, List.set_cons_zero, List.set_cons_succ]) (hCont (gb425) _ ⟨hHeld, (RT (Kd.R_mono HO_14.out (fun _ hk => ⟨hk.1.1, ⟨hk.1.2, hk.2⟩⟩))), (KR HO_5), (KR HO_6), BKZ, BKZ, BKZ, BKZ, GW425.out, GE425.out, NB397_425.out, NB425_397.out, NB398_425.out, NB425_398.out, NB403_425.out, NB425_403.out, BZ⟩)
                                 ·skip
                                  refine box_step ?hg (N := 17) ?hd (cs := #[.int .i64 0, .int .i64 0]) (t := 43) ?hr ?_; (case hd => rfl); (case hg => rfl); (case hr => first | (go_simp; done) | (go_simp; rfl))
                                  intro gb425 hg w98 hbox hb
                                  have BK425 := Aside0.mk (hbox)
                                  have GW425 := (GS hg : Aside0 (w.heap.size ≤ gb425))
                                  have GE425 := GW425
                                  have NB397_425 := NL BK397 hg
                                  have NB425_397 := NG BK397 hg
                                  have NB398_425 := NL BK398 hg
                                  have NB425_398 := NG BK398 hg
                                  have NB403_425 := NL BK403 hg
                                  have NB425_403 := NG BK403 hg
                                  replace HO_5 := RB HO_5 hb
                                  replace HO_6 := RB HO_6 hb
                                  replace HO_14 := Aside0.mk (Kd.R_below (Kd.R_elderB (KR HO_14) gb425 (Nat.le_of_eq hg.symm)) hb)
                                  replace BK397 := BB BK397 hb
                                  replace BK398 := BB BK398 hb
                                  replace BK403 := BB BK403 hb
                                  replace HB := BS HB hb
                                  clear hb hbox hg
                                  refine HN hK ⟨CE BK397 0, CE BK397 1, CE BK397 2⟩ (fun hHeld => ?_)
                                  clear hK K
                                  refine OG 1 114 HT_ Try.func23 (laws_at.calls _ _ l0 0 t422 _ ?side1 ?side2 A80.out) (fun K hK => ?_)
                                  (case side1 => repeat (first | exact (Kd.C_below HR0.out HB.out) | (with_reducible refine Kd.C_alloc ?_ _) | (with_reducible refine Kd.C_drewN ?_ _) | (with_reducible refine Kd.C_drew ?_)))
                                  (case side2 => exact HC0.out)
                                  rintro e w' ⟨rfl, ⟨nd, rfl⟩⟩
                                  refine ⟨_, rfl, ?_⟩
                                  refine HN hK ⟨CE BK397 0, CE BK397 1, CE BK397 2⟩ (fun hHeld => ?_)
                                  clear hK K
                                  refine OG 4 117 HT_ Try.func22 (spec_CountCells.calls t389 t390 t406 _ A81.out) (fun K hK => ?_)
                                  rintro e w99 ⟨rfl, hb⟩
                                  refine ⟨_, rfl, ?_⟩
                                  replace HO_5 := RB HO_5 hb
                                  replace HO_6 := RB HO_6 hb
                                  replace HO_14 := RB HO_14 hb
                                  replace BK397 := BB BK397 hb
                                  replace BK398 := BB BK398 hb
                                  replace BK403 := BB BK403 hb
                                  replace BK425 := BB BK425 hb
                                  replace HB := BS HB hb
                                  clear hb
                                  refine HN hK ⟨CE BK397 0, CE BK397 1, CE BK397 2⟩ (fun hHeld => ?_)
                                  clear hK K
                                  refine PU 5 118 HT_ ?_
                                  refine OG 7 120 HT_ Try.func23 (laws_at.calls _ _ l0 1 t424 _ ?side1 ?side2 A83.out) (fun K hK => ?_)
                                  (case side1 => repeat (first | exact (Kd.C_below HR0.out HB.out) | (with_reducible refine Kd.C_alloc ?_ _) | (with_reducible refine Kd.C_drewN ?_ _) | (with_reducible refine Kd.C_drew ?_)))
                                  (case side2 => exact HC0.out)
                                  rintro e w' ⟨rfl, ⟨nd, rfl⟩⟩
                                  refine ⟨_, rfl, ?_⟩
                                  refine HN hK ⟨CE BK397 0, CE BK397 1, CE BK397 2⟩ (fun hHeld => ?_)
                                  clear hK K
                                  refine PU 8 121 HT_ ?_
                                  refine PU 9 122 HT_ ?_
                                  exact norm_ (by simp only [putAll, Act.put, List.setIfInBounds_toArray, List.set_cons_zero, List.set_cons_succ]) (hCont (gb425) _ ⟨hHeld, (RT (Kd.R_mono HO_14.out (fun _ hk => ⟨hk.1.1, ⟨hk.1.2, hk.2⟩⟩))), (KR HO_5), (KR HO_6), BKZ, BKZ, BKZ, BKZ, GW425.out, GE425.out, NB397_425.out, NB425_397.out, NB398_425.out, NB425_398.out, NB403_425.out, NB425_403.out, BZ⟩)
                               rintro gb425 w100 ⟨hS_, h0_, h1_, h2_, h3_, h4_, h5_, h6_, h7_, h8_, h9_, h10_, h11_, h12_, h13_, h14_, h15_⟩
                               have n0_ : Aside0 (Kd.R k43 43 w100 w.heap.size (fun k_ => k_ ≠ gb398 ∧ k_ ≠ gb403 ∧ k_ ≠ gb425) (.slice Ao96 t418.length co96) t418) := ⟨h0_⟩
                               have n1_ : Aside0 (Kd.R (Kd.int .i64) 3 w100 w.heap.size (fun k_ => some k_ ≠ (.slice Ao71 t399.length co71 : Value).ownBlock) (.slice Ao13 t394.length co13) t394) := ⟨h1_⟩
                               have n2_ : Aside0 (Kd.R (Kd.int .i64) 3 w100 w.heap.size (fun k_ => some k_ ≠ (.slice Ao13 t394.length co13 : Value).ownBlock) (.slice Ao71 t399.length co71) t399) := ⟨h2_⟩
                               have n3_ : Aside0 (w100.heap[gb397]? = some (.cells #[.int .i64 t389, .int .i64 t390, .int .i64 t391] 30 (0, 0))) := ⟨h3_⟩
                               have n4_ : Aside0 (w100.heap[gb398]? = some (.cells #[.int .i64 t392, .int .i64 t393] 43 (0, 0))) := ⟨h4_⟩
                               have n5_ : Aside0 (w100.heap[gb403]? = some (.cells #[.int .i64 x404000_2, .int .i64 x404001_2] 43 (0, 0))) := ⟨h5_⟩
                               have n6_ : Aside0 (w100.heap[gb425]? = some (.cells #[.int .i64 0, .int .i64 0] 43 (0, 0))) := ⟨h6_⟩
                               have n7_ : Aside0 (w.heap.size ≤ gb425) := ⟨h7_⟩
                               have n8_ : Aside0 (w.heap.size ≤ gb425) := ⟨h8_⟩
                               have n9_ : Aside0 (gb397 ≠ gb425) := ⟨h9_⟩
                               have n10_ : Aside0 (gb425 ≠ gb397) := ⟨h10_⟩
                               have n11_ : Aside0 (gb398 ≠ gb425) := ⟨h11_⟩
                               have n12_ : Aside0 (gb425 ≠ gb398) := ⟨h12_⟩
                               have n13_ : Aside0 (gb403 ≠ gb425) := ⟨h13_⟩
                               have n14_ : Aside0 (gb425 ≠ gb403) := ⟨h14_⟩
                               have n15_ : Aside0 (Below w.heap.size w w100) := ⟨h15_⟩
                               clear HO_5
                               clear HO_6
                               clear HO_14
                               clear BK397
                               clear BK398
                               clear BK403
                               clear HB
                               clear h0_ h1_ h2_ h3_ h4_ h5_ h6_ h7_ h8_ h9_ h10_ h11_ h12_ h13_ h14_ h15_
                               have HO_14 := n0_
                               have HO_5 := n1_
                               have HO_6 := n2_
                               have BK397 := n3_
                               have BK398 := n4_
                               have BK403 := n5_
                               have BK425 := n6_
                               have GW425 := n7_
                               have GE425 := n8_
                               have NB397_425 := n9_
                               have NB425_397 := n10_
                               have NB398_425 := n11_
                               have NB425_398 := n12_
                               have NB403_425 := n13_
                               have NB425_403 := n14_
                               have HB := n15_
                               clear n0_ n1_ n2_ n3_ n4_ n5_ n6_ n7_ n8_ n9_ n10_ n11_ n12_ n13_ n14_ n15_
                               have hHeld : w100.cell? ⟨gb397, 0, none⟩ = some (.int .i64 t389) ∧ w100.cell? ⟨gb397, 1, none⟩ = some (.int .i64 t390) ∧ w100.cell? ⟨gb397, 2, none⟩ = some (.int .i64 t391) := hS_
                               refine norm_ (a' := ?_) ?_ ?_
                               rotate_left
                               ·simp only [putAll, Act.put, List.setIfInBounds_toArray, List.set_cons_zero, List.set_cons_succ]
                                rfl
                               refine one_ (i := 11) (N := none) #[true, true, true, true, true, true, true, true, true, true, true, true] rfl rfl (one_of HT_.out (by kernel_rfl)) (by decide) (fun K hK => ?_)
                               have hs101 : w100.cell? ⟨gb425, 0, none⟩ = some (.int .i64 0) := CE BK425 0
                               have hfs101 := blk_frozen BK425.out 0
                               have hns101_0 := NB397_425.out
                               have hns101_1 := NB398_425.out
                               have hns101_2 := NB403_425.out
                               have hms101_0 := NB425_397.out
                               have hms101_1 := NB425_398.out
                               have hms101_2 := NB425_403.out
                               have hs102 : w100.cell? ⟨gb425, 1, none⟩ = some (.int .i64 0) := CE BK425 1
                               have hfs102 := blk_frozen BK425.out 1
                               have hns102_0 := NB397_425.out
                               have hns102_1 := NB398_425.out
                               have hns102_2 := NB403_425.out
                               have hms102_0 := NB425_397.out
                               have hms102_1 := NB425_398.out
                               have hms102_2 := NB425_403.out
                               refine skip_ (w1 := ?_) (by rfl) rfl ?_ ?_
                               rotate_left
                               ·go_simp
                                rfl
                               refine hK.out _ _ ⟨(CF2 NB397_425.out (hHeld.1)), (CF2 NB397_425.out (hHeld.2.1)), (CF2 NB397_425.out (hHeld.2.2))⟩ (fun hHeld => ?_)
                               clear hK K
                               refine done_ (done_of HT_.out (by kernel_rfl)) ?_
                               try go_wp2
                               have n0_ : Aside0 (Kd.R (Kd.int .i64) 3 (S2W w100 gb425 (.int .i64 (Int.tmod t422 t406)) (.int .i64 (Int.tmod t424 4))) w.heap.size (fun k_ => some k_ ≠ (.slice Ao71 t399.length co71 : Value).ownBlock) (.slice Ao13 t394.length co13) t394) := ⟨RT (RF2 (Kd.R_types HO_5.out BK425.out (by decide)))⟩
                               have n1_ : Aside0 (Kd.R (Kd.int .i64) 3 (S2W w100 gb425 (.int .i64 (Int.tmod t422 t406)) (.int .i64 (Int.tmod t424 4))) w.heap.size (fun k_ => some k_ ≠ (.slice Ao13 t394.length co13 : Value).ownBlock) (.slice Ao71 t399.length co71) t399) := ⟨RT (RF2 (Kd.R_types HO_6.out BK425.out (by decide)))⟩
                               have n2_ : Aside0 (Kd.R k43 43 (S2W w100 gb425 (.int .i64 (Int.tmod t422 t406)) (.int .i64 (Int.tmod t424 4))) w.heap.size (fun k_ => k_ ≠ gb398 ∧ k_ ≠ gb403 ∧ k_ ≠ gb425) (.slice Ao96 t418.length co96) t418) := ⟨RT (Kd.R_mono (Kd.R_far (p := ⟨gb425, 1, none⟩) (Kd.R_far (p := ⟨gb425, 0, none⟩) (Kd.R_mono HO_14.out (fun k_ hk => (⟨hk, hk.2.2⟩ : _ ∧ k_ ≠ gb425))) (fun _ hk => hk.2) (.int .i64 (Int.tmod t422 t406))) (fun _ hk => hk.2) (.int .i64 (Int.tmod t424 4))) (fun _ hk => ⟨hk.1.1, ⟨hk.1.2.1, hk.1.2.2⟩⟩))⟩
                               have n3_ : Aside0 ((S2W w100 gb425 (.int .i64 (Int.tmod t422 t406)) (.int .i64 (Int.tmod t424 4))).heap[gb397]? = some (.cells #[.int .i64 t389, .int .i64 t390, .int .i64 t391] 30 (0, 0))) := ⟨BF2 NB397_425 BK397⟩
                               have n4_ : Aside0 ((S2W w100 gb425 (.int .i64 (Int.tmod t422 t406)) (.int .i64 (Int.tmod t424 4))).heap[gb398]? = some (.cells #[.int .i64 t392, .int .i64 t393] 43 (0, 0))) := ⟨BF2 NB398_425 BK398⟩
                               have n5_ : Aside0 ((S2W w100 gb425 (.int .i64 (Int.tmod t422 t406)) (.int .i64 (Int.tmod t424 4))).heap[gb403]? = some (.cells #[.int .i64 x404000_2, .int .i64 x404001_2] 43 (0, 0))) := ⟨BF2 NB403_425 BK403⟩
                               have n6_ : Aside0 ((S2W w100 gb425 (.int .i64 (Int.tmod t422 t406)) (.int .i64 (Int.tmod t424 4))).heap[gb425]? = some (.cells #[.int .i64 (Int.tmod t422 t406), .int .i64 (Int.tmod t424 4)] 43 (0, 0))) := ⟨PQ2 BK425⟩
                               have n7_ : Aside0 (Below w.heap.size w (S2W w100 gb425 (.int .i64 (Int.tmod t422 t406)) (.int .i64 (Int.tmod t424 4)))) := ⟨BZ⟩
                               (try clear HO_5)
                               (try clear HO_6)
                               (try clear HO_14)
                               (try clear BK397)
                               (try clear BK398)
                               (try clear BK403)
                               (try clear BK425)
                               (try clear HB)
                               (try dsimp only [S2W] at n0_ n1_ n2_ n3_ n4_ n5_ n6_ n7_); generalize ((w100.setCell ⟨gb425, 0, none⟩ (.int .i64 (Int.tmod t422 t406))).setCell ⟨gb425, 1, none⟩ (.int .i64 (Int.tmod t424 4))) = w103 at n0_ n1_ n2_ n3_ n4_ n5_ n6_ n7_ ⊢
                               have HO_5 := n0_
                               have HO_6 := n1_
                               have HO_14 := n2_
                               have BK397 := n3_
                               have BK398 := n4_
                               have BK403 := n5_
                               have BK425 := n6_
                               have HB := n7_
                               clear n0_ n1_ n2_ n3_ n4_ n5_ n6_ n7_
                               replace HO_5 := Aside0.mk (Kd.R_drew HO_5.out)
                               replace HO_6 := Aside0.mk (Kd.R_drew HO_6.out)
                               replace HO_14 := Aside0.mk (Kd.R_drew HO_14.out)
                               replace BK397 := Aside0.mk (blk_drew BK397.out)
                               replace BK398 := Aside0.mk (blk_drew BK398.out)
                               replace BK403 := Aside0.mk (blk_drew BK403.out)
                               replace BK425 := Aside0.mk (blk_drew BK425.out)
                               replace HB := Aside0.mk (below_drew1 HB.out)
                               refine ST 45 (fun w' => w'.cell? ⟨gb397, 0, none⟩ = some (.int .i64 t389) ∧ w'.cell? ⟨gb397, 1, none⟩ = some (.int .i64 t390) ∧ w'.cell? ⟨gb397, 2, none⟩ = some (.int .i64 t391) ∧ w'.cell? ⟨gb398, 0, none⟩ = some (.int .i64 t392) ∧ w'.cell? ⟨gb398, 1, none⟩ = some (.int .i64 t393) ∧ w'.cell? ⟨gb425, 0, none⟩ = some (.int .i64 (Int.tmod t422 t406)) ∧ w'.cell? ⟨gb425, 1, none⟩ = some (.int .i64 (Int.tmod t424 4))) [] laws_FnLocated.tab28 laws_FnLocated.bits28 ⟨CE BK397 0, CE BK397 1, CE BK397 2, CE BK398 0, CE BK398 1, CE BK425 0, CE BK425 1⟩ (fun hHeld HT_ HW_ => ?_)
                               generalize w103.drew = w104 at HO_5 HO_6 HO_14 BK397 BK398 BK403 BK425 HB hHeld ⊢
                               refine PU 0 123 HT_ ?_
                               refine PU 1 124 HT_ ?_
                               refine PU 3 126 HT_ ?_
                               refine PU 4 127 HT_ ?_
                               refine PU 6 129 HT_ ?_
                               refine PU 7 130 HT_ ?_
                               refine PU 8 131 HT_ ?_
                               refine TA 2 125 HT_ HW_ hHeld ?_
                               refine OG 5 128 HT_ Try.func10 (impl_IsLocated.calls k4 t389 t390 t391 _ _ t399 _ _ t394 t426 _ ?side1 ?side2 ?side3 ?side4 A85.out) (fun K hK => ?_)
                               (case side1 => repeat (first | exact (Kd.R_reads' HO_6.out).2.2 | (with_reducible refine Kd.C_alloc ?_ _) | (with_reducible refine Kd.C_drewN ?_ _) | (with_reducible refine Kd.C_drew ?_)))
                               (case side2 => exact (Kd.R_reads' HO_6.out).2.1)
                               (case side3 => repeat (first | exact (Kd.R_reads' HO_5.out).2.2 | (with_reducible refine Kd.C_alloc ?_ _) | (with_reducible refine Kd.C_drewN ?_ _) | (with_reducible refine Kd.C_drew ?_)))
                               (case side4 => exact (Kd.R_reads' HO_5.out).2.1)
                               rintro e w105 ⟨rfl, hb⟩
                               refine ⟨_, rfl, ?_⟩
                               replace HO_5 := RB HO_5 hb
                               replace HO_6 := RB HO_6 hb
                               replace HO_14 := RB HO_14 hb
                               replace BK397 := BB BK397 hb
                               replace BK398 := BB BK398 hb
                               replace BK403 := BB BK403 hb
                               replace BK425 := BB BK425 hb
                               replace HB := BS HB hb
                               clear hb
                               refine HN hK ⟨CE BK397 0, CE BK397 1, CE BK397 2, CE BK398 0, CE BK398 1, CE BK425 0, CE BK425 1⟩ (fun hHeld => ?_)
                               clear hK K
                               refine PU 9 132 HT_ ?_
                               refine PU 10 133 HT_ ?_
                               refine PU 11 134 HT_ ?_
                               refine TA 12 135 HT_ HW_ hHeld ?_
                               refine TA 13 136 HT_ HW_ hHeld ?_
                               refine TA 14 137 HT_ HW_ hHeld ?_
                               refine OG 15 138 HT_ Try.func24 (impl_LikeWalkers.calls k4 t389 t390 t391 t392 t393 t392 t393 3 true _ A87.out) (fun K hK => ?_)
                               rintro e w106 ⟨rfl, hb⟩
                               refine ⟨_, rfl, ?_⟩
                               replace HO_5 := RB HO_5 hb
                               replace HO_6 := RB HO_6 hb
                               replace HO_14 := RB HO_14 hb
                               replace BK397 := BB BK397 hb
                               replace BK398 := BB BK398 hb
                               replace BK403 := BB BK403 hb
                               replace BK425 := BB BK425 hb
                               replace HB := BS HB hb
                               clear hb
                               refine HN hK ⟨CE BK397 0, CE BK397 1, CE BK397 2, CE BK398 0, CE BK398 1, CE BK425 0, CE BK425 1⟩ (fun hHeld => ?_)
                               clear hK K
                               refine PU 16 139 HT_ ?_
                               refine PU 17 140 HT_ ?_
                               refine TA 18 141 HT_ HW_ hHeld ?_
                               refine TA 19 142 HT_ HW_ hHeld ?_
                               refine TA 20 143 HT_ HW_ hHeld ?_
                               refine TA 22 145 HT_ HW_ hHeld ?_
                               refine TA 23 146 HT_ HW_ hHeld ?_
                               refine TA 24 147 HT_ HW_ hHeld ?_
                               refine OG 21 144 HT_ Try.func24 (impl_LikeWalkers.calls k4 t389 t390 t391 t392 t393 (Int.tmod t422 t406) (Int.tmod t424 4) 2 t428 _ A89.out) (fun K hK => ?_)
                               rintro e w107 ⟨rfl, hb⟩
                               refine ⟨_, rfl, ?_⟩
                               replace HO_5 := RB HO_5 hb
                               replace HO_6 := RB HO_6 hb
                               replace HO_14 := RB HO_14 hb
                               replace BK397 := BB BK397 hb
                               replace BK398 := BB BK398 hb
                               replace BK403 := BB BK403 hb
                               replace BK425 := BB BK425 hb
                               replace HB := BS HB hb
                               clear hb
                               refine HN hK ⟨CE BK397 0, CE BK397 1, CE BK397 2, CE BK398 0, CE BK398 1, CE BK425 0, CE BK425 1⟩ (fun hHeld => ?_)
                               clear hK K
                               refine OG 25 148 HT_ Try.func24 (impl_LikeWalkers.calls k4 t389 t390 t391 (Int.tmod t422 t406) (Int.tmod t424 4) t392 t393 2 t429 _ A90.out) (fun K hK => ?_)
                               rintro e w108 ⟨rfl, hb⟩
                               refine ⟨_, rfl, ?_⟩
                               replace HO_5 := RB HO_5 hb
                               replace HO_6 := RB HO_6 hb
                               replace HO_14 := RB HO_14 hb
                               replace BK397 := BB BK397 hb
                               replace BK398 := BB BK398 hb
                               replace BK403 := BB BK403 hb
                               replace BK425 := BB BK425 hb
                               replace HB := BS HB hb
                               clear hb
                               refine HN hK ⟨CE BK397 0, CE BK397 1, CE BK397 2, CE BK398 0, CE BK398 1, CE BK425 0, CE BK425 1⟩ (fun hHeld => ?_)
                               clear hK K
                               refine PU 26 149 HT_ ?_
                               refine PU 27 150 HT_ ?_
                               refine PU 28 151 HT_ ?_
                               refine TA 29 152 HT_ HW_ hHeld ?_
                               refine TA 30 153 HT_ HW_ hHeld ?_
                               refine TA 31 154 HT_ HW_ hHeld ?_
                               refine OG 32 155 HT_ Try.func24 (impl_LikeWalkers.calls k4 t389 t390 t391 t392 t393 (Int.tmod t422 t406) (Int.tmod t424 4) 1 true _ A92.out) (fun K hK => ?_)
                               rintro e w109 ⟨rfl, hb⟩
                               refine ⟨_, rfl, ?_⟩
                               replace HO_5 := RB HO_5 hb
                               replace HO_6 := RB HO_6 hb
                               replace HO_14 := RB HO_14 hb
                               replace BK397 := BB BK397 hb
                               replace BK398 := BB BK398 hb
                               replace BK403 := BB BK403 hb
                               replace BK425 := BB BK425 hb
                               replace HB := BS HB hb
                               clear hb
                               refine HN hK ⟨CE BK397 0, CE BK397 1, CE BK397 2, CE BK398 0, CE BK398 1, CE BK425 0, CE BK425 1⟩ (fun hHeld => ?_)
                               clear hK K
                               refine PU 33 156 HT_ ?_
                               refine PU 34 157 HT_ ?_
                               refine TA 35 158 HT_ HW_ hHeld ?_
                               refine TA 36 159 HT_ HW_ hHeld ?_
                               refine TA 38 161 HT_ HW_ hHeld ?_
                               refine TA 39 162 HT_ HW_ hHeld ?_
                               refine OG 37 160 HT_ Try.func25 (impl_PatternAt.calls k4 t389 t390 t391 t392 t393 t431 _ A94.out) (fun K hK => ?_)
                               rintro e w110 ⟨rfl, hb⟩
                               refine ⟨_, rfl, ?_⟩
                               replace HO_5 := RB HO_5 hb
                               replace HO_6 := RB HO_6 hb
                               replace HO_14 := RB HO_14 hb
                               replace BK397 := BB BK397 hb
                               replace BK398 := BB BK398 hb
                               replace BK403 := BB BK403 hb
                               replace BK425 := BB BK425 hb
                               replace HB := BS HB hb
                               clear hb
                               refine HN hK ⟨CE BK397 0, CE BK397 1, CE BK397 2, CE BK398 0, CE BK398 1, CE BK425 0, CE BK425 1⟩ (fun hHeld => ?_)
                               clear hK K
                               refine OG 40 163 HT_ Try.func25 (impl_PatternAt.calls k4 t389 t390 t391 (Int.tmod t422 t406) (Int.tmod t424 4) t432 _ A95.out) (fun K hK => ?_)
                               rintro e w111 ⟨rfl, hb⟩
                               refine ⟨_, rfl, ?_⟩
                               replace HO_5 := RB HO_5 hb
                               replace HO_6 := RB HO_6 hb
                               replace HO_14 := RB HO_14 hb
                               replace BK397 := BB BK397 hb
                               replace BK398 := BB BK398 hb
                               replace BK403 := BB BK403 hb
                               replace BK425 := BB BK425 hb
                               replace HB := BS HB hb
                               clear hb
                               refine HN hK ⟨CE BK397 0, CE BK397 1, CE BK397 2, CE BK398 0, CE BK398 1, CE BK425 0, CE BK425 1⟩ (fun hHeld => ?_)
                               clear hK K
                               refine PU 41 164 HT_ ?_
                               refine PU 42 165 HT_ ?_
                               refine PU 43 166 HT_ ?_
                               refine PU 44 2 HT_ ?_
                               refine done_ (done_of HT_.out (by kernel_rfl)) ?_
                               try go_wp2
                               go_ret
                               exact ⟨RZ, BZ⟩
                             ·as_aux_lemma =>
                               replace c93 := Bool.eq_false_iff.mpr c93
                               subst c93
                               replace H := IE H
                               obtain rfl := Option.some.inj H
                               obtain ⟨Ao112, co112, eo112⟩ := Kd.R_slice HO_14.out
                               subst eo112
                               try go_wp2
                               replace HO_5 := Aside0.mk (Kd.R_drew HO_5.out)
                               replace HO_6 := Aside0.mk (Kd.R_drew HO_6.out)
                               replace HO_14 := Aside0.mk (Kd.R_drew HO_14.out)
                               replace BK397 := Aside0.mk (blk_drew BK397.out)
                               replace BK398 := Aside0.mk (blk_drew BK398.out)
                               replace BK403 := Aside0.mk (blk_drew BK403.out)
                               replace HB := Aside0.mk (below_drew1 HB.out)
                               refine ST 12 (fun w' => w'.cell? ⟨gb397, 0, none⟩ = some (.int .i64 t389) ∧ w'.cell? ⟨gb397, 1, none⟩ = some (.int .i64 t390) ∧ w'.cell? ⟨gb397, 2, none⟩ = some (.int .i64 t391)) [] laws_FnLocated.tab27 laws_FnLocated.bits27 ⟨CE BK397 0, CE BK397 1, CE BK397 2⟩ (fun hHeld HT_ HW_ => ?_)
                               generalize wr.drew = w113 at HO_5 HO_6 HO_14 BK397 BK398 BK403 HB hHeld ⊢
                               refine PU 0 113 HT_ ?_
                               refine PU 2 115 HT_ ?_
                               refine PU 6 119 HT_ ?_
                               refine TA 3 116 HT_ HW_ hHeld ?_
                               refine join_ (σ := Nat) 1 #[true, true, true, true, true, true, true, true, true, true, true, false] (fun s_ => [(114, .int .i64 t422), (117, .int .i64 t406), (120, .int .i64 t424), (17, .pointer (some ⟨s_, 0, none⟩)), (118, .int .i64 (Int.tmod t422 t406)), (121, .int .i64 (Int.tmod t424 4)), (122, .agg #[.int .i64 (Int.tmod t422 t406), .int .i64 (Int.tmod t424 4)])]) (fun s_ w' => (w'.cell? ⟨gb397, 0, none⟩ = some (.int .i64 t389) ∧ w'.cell? ⟨gb397, 1, none⟩ = some (.int .i64 t390) ∧ w'.cell? ⟨gb397, 2, none⟩ = some (.int .i64 t391)) ∧ (Kd.R k43 43 w' w.heap.size (fun k_ => k_ ≠ gb398 ∧ k_ ≠ gb403 ∧ k_ ≠ s_) (.slice Ao112 t418.length co112) t418) ∧ (Kd.R (Kd.int .i64) 3 w' w.heap.size (fun k_ => some k_ ≠ (.slice Ao71 t399.length co71 : Value).ownBlock) (.slice Ao13 t394.length co13) t394) ∧ (Kd.R (Kd.int .i64) 3 w' w.heap.size (fun k_ => some k_ ≠ (.slice Ao13 t394.length co13 : Value).ownBlock) (.slice Ao71 t399.length co71) t399) ∧ (w'.heap[gb397]? = some (.cells #[.int .i64 t389, .int .i64 t390, .int .i64 t391] 30 (0, 0))) ∧ (w'.heap[gb398]? = some (.cells #[.int .i64 t392, .int .i64 t393] 43 (0, 0))) ∧ (w'.heap[gb403]? = some (.cells #[.int .i64 x404000_2, .int .i64 x404001_2] 43 (0, 0))) ∧ (w'.heap[s_]? = some (.cells #[.int .i64 0, .int .i64 0] 43 (0, 0))) ∧ (w.heap.size ≤ s_) ∧ (w.heap.size ≤ s_) ∧ (gb397 ≠ s_) ∧ (s_ ≠ gb397) ∧ (gb398 ≠ s_) ∧ (s_ ≠ gb398) ∧ (gb403 ≠ s_) ∧ (s_ ≠ gb403) ∧ (Below w.heap.size w w')) ?_ ?_
                               rotate_left
                               ·as_aux_lemma =>
                                 intro hCont
                                 refine two_ (i := 1) (j := 10) (Ni := some 114) (Nj := some 17) #[true, true, true, true, false, false, true, false, false, false, false, false] #[true, false, true, true, false, false, true, false, false, false, true, false] rfl rfl rfl rfl (two_of HT_.out (by kernel_rfl)) (by decide) (by decide) (fun K hK => ?_) (fun K hK => ?_)
                                 ·as_aux_lemma =>
                                   skip
                                   refine goes_ Try.func23 (by kernel_rfl) rfl #[.slice A0 l0.length c0, .int .i64 0] (by rfl) rfl rfl (by (try simp only [List.map_toArray, List.map_cons, List.map_nil]); first | done | rfl | (simp only [List.length_drop, List.length_take]; rfl)) ?_
                                   with_reducible refine (laws_at.calls _ _ l0 0 t422 _ ?side1 ?side2 A80.out).mono ?_
                                   (case side1 => repeat (first | exact (Kd.C_below HR0.out HB.out) | (with_reducible refine Kd.C_alloc ?_ _) | (with_reducible refine Kd.C_drewN ?_ _) | (with_reducible refine Kd.C_drew ?_)))
                                   (case side2 => exact HC0.out)
                                   rintro e w' ⟨rfl, ⟨nd, rfl⟩⟩
                                   refine ⟨_, rfl, ?_⟩
                                   refine HN hK ⟨CE BK397 0, CE BK397 1, CE BK397 2⟩ (fun hHeld => ?_)
                                   clear hK K
                                   refine two_ (i := 4) (j := 10) (Ni := some 117) (Nj := some 17) #[true, true, true, true, true, false, true, false, false, false, false, false] #[true, true, true, true, false, false, true, false, false, false, true, false] rfl rfl rfl rfl (two_of HT_.out (by kernel_rfl)) (by decide) (by decide) (fun K hK => ?_) (fun K hK => ?_)
                                   ·as_aux_lemma =>
                                     skip
                                     refine goes_ Try.func22 (by kernel_rfl) rfl #[.agg #[.int .i64 t389, .int .i64 t390]] (by rfl) rfl rfl (by (try simp only [List.map_toArray, List.map_cons, List.map_nil]); first | done | rfl | (simp only [List.length_drop, List.length_take]; rfl)) ?_
                                     with_reducible refine (spec_CountCells.calls t389 t390 t406 _ A81.out).mono ?_
                                     rintro e w114 ⟨rfl, hb⟩
                                     refine ⟨_, rfl, ?_⟩
                                     replace HO_5 := RB HO_5 hb
                                     replace HO_6 := RB HO_6 hb
                                     replace HO_14 := RB HO_14 hb
                                     replace BK397 := BB BK397 hb
                                     replace BK398 := BB BK398 hb
                                     replace BK403 := BB BK403 hb
                                     replace HB := BS HB hb
                                     clear hb
                                     refine HN hK ⟨CE BK397 0, CE BK397 1, CE BK397 2⟩ (fun hHeld => ?_)
                                     clear hK K
                                     refine PU 5 118 HT_ ?_
                                     refine two_ (i := 7) (j := 10) (Ni := some 120) (Nj := some 17) #[true, true, true, true, true, true, true, true, false, false, false, false] #[true, true, true, true, true, true, true, false, false, false, true, false] rfl rfl rfl rfl (two_of HT_.out (by kernel_rfl)) (by decide) (by decide) (fun K hK => ?_) (fun K hK => ?_)
                                     ·skip
                                      refine goes_ Try.func23 (by kernel_rfl) rfl #[.slice A0 l0.length c0, .int .i64 1] (by rfl) rfl rfl (by (try simp only [List.map_toArray, List.map_cons, List.map_nil]); first | done | rfl | (simp only [List.length_drop, List.length_take]; rfl)) ?_
                                      with_reducible refine (laws_at.calls _ _ l0 1 t424 _ ?side1 ?side2 A83.out).mono ?_
                                      (case side1 => repeat (first | exact (Kd.C_below HR0.out HB.out) | (with_reducible refine Kd.C_alloc ?_ _) | (with_reducible refine Kd.C_drewN ?_ _) | (with_reducible refine Kd.C_drew ?_)))
                                      (case side2 => exact HC0.out)
                                      rintro e w' ⟨rfl, ⟨nd, rfl⟩⟩
                                      refine ⟨_, rfl, ?_⟩
                                      refine HN hK ⟨CE BK397 0, CE BK397 1, CE BK397 2⟩ (fun hHeld => ?_)
                                      clear hK K
                                      refine PU 8 121 HT_ ?_
                                      refine PU 9 122 HT_ ?_
                                      refine one_ (i := 10) (N := some 17) #[true, true, true, true, true, true, true, true, true, true, true, false] rfl rfl (one_of HT_.out (by kernel_rfl)) (by decide) (fun K hK => ?_)
                                      refine box_step ?hg (N := 17) ?hd (cs := #[.int .i64 0, .int .i64 0]) (t := 43) ?hr ?_; (case hd => rfl); (case hg => rfl); (case hr => first | (go_simp; done) | (go_simp; rfl))
                                      intro gb425 hg w115 hbox hb
                                      have BK425 := Aside0.mk (hbox)
                                      have GW425 := (GS hg : Aside0 (w.heap.size ≤ gb425))
                                      have GE425 := GW425
                                      have NB397_425 := NL BK397 hg
                                      have NB425_397 := NG BK397 hg
                                      have NB398_425 := NL BK398 hg
                                      have NB425_398 := NG BK398 hg
                                      have NB403_425 := NL BK403 hg
                                      have NB425_403 := NG BK403 hg
                                      replace HO_5 := RB HO_5 hb
                                      replace HO_6 := RB HO_6 hb
                                      replace HO_14 := Aside0.mk (Kd.R_below (Kd.R_elderB (KR HO_14) gb425 (Nat.le_of_eq hg.symm)) hb)
                                      replace BK397 := BB BK397 hb
                                      replace BK398 := BB BK398 hb
                                      replace BK403 := BB BK403 hb
                                      replace HB := BS HB hb
                                      clear hb hbox hg
                                      refine HN hK ⟨CE BK397 0, CE BK397 1, CE BK397 2⟩ (fun hHeld => ?_)
                                      clear hK K
                                      exact norm_ (by simp only [putAll, Act.put, List.setIfInBounds_toArray, List.set_cons_zero, List.set_cons_succ]) (hCont (gb425) _ ⟨hHeld, (RT (Kd.R_mono HO_14.out (fun _ hk => ⟨hk.1.1, ⟨hk.1.2, hk.2⟩⟩))), (KR HO_5), (KR HO_6), BKZ, BKZ, BKZ, BKZ, GW425.out, GE425.out, NB397_425.out, NB425_397.out, NB398_425.out, NB425_398.out, NB403_425.out, NB425_403.out, BZ⟩)
                                     ·skip
                                      refine box_step ?hg (N := 17) ?hd (cs := #[.int .i64 0, .int .i64 0]) (t := 43) ?hr ?_; (case hd => rfl); (case hg => rfl); (case hr => first | (go_simp; done) | (go_simp; rfl))
                                      intro gb425 hg w115 hbox hb
                                      have BK425 := Aside0.mk (hbox)
                                      have GW425 := (GS hg : Aside0 (w.heap.size ≤ gb425))
                                      have GE425 := GW425
                                      have NB397_425 := NL BK397 hg
                                      have NB425_397 := NG BK397 hg
                                      have NB398_425 := NL BK398 hg
                                      have NB425_398 := NG BK398 hg
                                      have NB403_425 := NL BK403 hg
                                      have NB425_403 := NG BK403 hg
                                      replace HO_5 := RB HO_5 hb
                                      replace HO_6 := RB HO_6 hb
                                      replace HO_14 := Aside0.mk (Kd.R_below (Kd.R_elderB (KR HO_14) gb425 (Nat.le_of_eq hg.symm)) hb)
                                      replace BK397 := BB BK397 hb
                                      replace BK398 := BB BK398 hb
                                      replace BK403 := BB BK403 hb
                                      replace HB := BS HB hb
                                      clear hb hbox hg
                                      refine HN hK ⟨CE BK397 0, CE BK397 1, CE BK397 2⟩ (fun hHeld => ?_)
                                      clear hK K
                                      refine OG 7 120 HT_ Try.func23 (laws_at.calls _ _ l0 1 t424 _ ?side1 ?side2 A83.out) (fun K hK => ?_)
                                      (case side1 => repeat (first | exact (Kd.C_below HR0.out HB.out) | (with_reducible refine Kd.C_alloc ?_ _) | (with_reducible refine Kd.C_drewN ?_ _) | (with_reducible refine Kd.C_drew ?_)))
                                      (case side2 => exact HC0.out)
                                      rintro e w' ⟨rfl, ⟨nd, rfl⟩⟩
                                      refine ⟨_, rfl, ?_⟩
                                      refine HN hK ⟨CE BK397 0, CE BK397 1, CE BK397 2⟩ (fun hHeld => ?_)
                                      clear hK K
                                      refine PU 8 121 HT_ ?_
                                      refine PU 9 122 HT_ ?_
                                      exact norm_ (by simp only [putAll, Act.put, List.setIfInBounds_toArray, List.set_cons_zero, List.set_cons_succ]) (hCont (gb425) _ ⟨hHeld, (RT (Kd.R_mono HO_14.out (fun _ hk => ⟨hk.1.1, ⟨hk.1.2, hk.2⟩⟩))), (KR HO_5), (KR HO_6), BKZ, BKZ, BKZ, BKZ, GW425.out, GE425.out, NB397_425.out, NB425_397.out, NB398_425.out, NB425_398.out, NB403_425.out, NB425_403.out, BZ⟩)
                                   ·skip
                                    refine box_step ?hg (N := 17) ?hd (cs := #[.int .i64 0, .int .i64 0]) (t := 43) ?hr ?_; (case hd => rfl); (case hg => rfl); (case hr => first | (go_simp; done) | (go_simp; rfl))
                                    intro gb425 hg w114 hbox hb
                                    have BK425 := Aside0.mk (hbox)
                                    have GW425 := (GS hg : Aside0 (w.heap.size ≤ gb425))
                                    have GE425 := GW425
                                    have NB397_425 := NL BK397 hg
                                    have NB425_397 := NG BK397 hg
                                    have NB398_425 := NL BK398 hg
                                    have NB425_398 := NG BK398 hg
                                    have NB403_425 := NL BK403 hg
                                    have NB425_403 := NG BK403 hg
                                    replace HO_5 := RB HO_5 hb
                                    replace HO_6 := RB HO_6 hb
                                    replace HO_14 := Aside0.mk (Kd.R_below (Kd.R_elderB (KR HO_14) gb425 (Nat.le_of_eq hg.symm)) hb)
                                    replace BK397 := BB BK397 hb
                                    replace BK398 := BB BK398 hb
                                    replace BK403 := BB BK403 hb
                                    replace HB := BS HB hb
                                    clear hb hbox hg
                                    refine HN hK ⟨CE BK397 0, CE BK397 1, CE BK397 2⟩ (fun hHeld => ?_)
                                    clear hK K
                                    refine OG 4 117 HT_ Try.func22 (spec_CountCells.calls t389 t390 t406 _ A81.out) (fun K hK => ?_)
                                    rintro e w115 ⟨rfl, hb⟩
                                    refine ⟨_, rfl, ?_⟩
                                    replace HO_5 := RB HO_5 hb
                                    replace HO_6 := RB HO_6 hb
                                    replace HO_14 := RB HO_14 hb
                                    replace BK397 := BB BK397 hb
                                    replace BK398 := BB BK398 hb
                                    replace BK403 := BB BK403 hb
                                    replace BK425 := BB BK425 hb
                                    replace HB := BS HB hb
                                    clear hb
                                    refine HN hK ⟨CE BK397 0, CE BK397 1, CE BK397 2⟩ (fun hHeld => ?_)
                                    clear hK K
                                    refine PU 5 118 HT_ ?_
                                    refine OG 7 120 HT_ Try.func23 (laws_at.calls _ _ l0 1 t424 _ ?side1 ?side2 A83.out) (fun K hK => ?_)
                                    (case side1 => repeat (first | exact (Kd.C_below HR0.out HB.out) | (with_reducible refine Kd.C_alloc ?_ _) | (with_reducible refine Kd.C_drewN ?_ _) | (with_reducible refine Kd.C_drew ?_)))
                                    (case side2 => exact HC0.out)
                                    rintro e w' ⟨rfl, ⟨nd, rfl⟩⟩
                                    refine ⟨_, rfl, ?_⟩
                                    refine HN hK ⟨CE BK397 0, CE BK397 1, CE BK397 2⟩ (fun hHeld => ?_)
                                    clear hK K
                                    refine PU 8 121 HT_ ?_
                                    refine PU 9 122 HT_ ?_
                                    exact norm_ (by simp only [putAll, Act.put, List.setIfInBounds_toArray, List.set_cons_zero, List.set_cons_succ]) (hCont (gb425) _ ⟨hHeld, (RT (Kd.R_mono HO_14.out (fun _ hk => ⟨hk.1.1, ⟨hk.1.2, hk.2⟩⟩))), (KR HO_5), (KR HO_6), BKZ, BKZ, BKZ, BKZ, GW425.out, GE425.out, NB397_425.out, NB425_397.out, NB398_425.out, NB425_398.out, NB403_425.out, NB425_403.out, BZ⟩)
                                 ·skip
                                  refine box_step ?hg (N := 17) ?hd (cs := #[.int .i64 0, .int .i64 0]) (t := 43) ?hr ?_; (case hd => rfl); (case hg => rfl); (case hr => first | (go_simp; done) | (go_simp; rfl))
                                  intro gb425 hg w114 hbox hb
                                  have BK425 := Aside0.mk (hbox)
                                  have GW425 := (GS hg : Aside0 (w.heap.size ≤ gb425))
                                  have GE425 := GW425
                                  have NB397_425 := NL BK397 hg
                                  have NB425_397 := NG BK397 hg
                                  have NB398_425 := NL BK398 hg
                                  have NB425_398 := NG BK398 hg
                                  have NB403_425 := NL BK403 hg
                                  have NB425_403 := NG BK403 hg
                                  replace HO_5 := RB HO_5 hb
                                  replace HO_6 := RB HO_6 hb
                                  replace HO_14 := Aside0.mk (Kd.R_below (Kd.R_elderB (KR HO_14) gb425 (Nat.le_of_eq hg.symm)) hb)
                                  replace BK397 := BB BK397 hb
                                  replace BK398 := BB BK398 hb
                                  replace BK403 := BB BK403 hb
                                  replace HB := BS HB hb
                                  clear hb hbox hg
                                  refine HN hK ⟨CE BK397 0, CE BK397 1, CE BK397 2⟩ (fun hHeld => ?_)
                                  clear hK K
                                  refine OG 1 114 HT_ Try.func23 (laws_at.calls _ _ l0 0 t422 _ ?side1 ?side2 A80.out) (fun K hK => ?_)
                                  (case side1 => repeat (first | exact (Kd.C_below HR0.out HB.out) | (with_reducible refine Kd.C_alloc ?_ _) | (with_reducible refine Kd.C_drewN ?_ _) | (with_reducible refine Kd.C_drew ?_)))
                                  (case side2 => exact HC0.out)
                                  rintro e w' ⟨rfl, ⟨nd, rfl⟩⟩
                                  refine ⟨_, rfl, ?_⟩
                                  refine HN hK ⟨CE BK397 0, CE BK397 1, CE BK397 2⟩ (fun hHeld => ?_)
                                  clear hK K
                                  refine OG 4 117 HT_ Try.func22 (spec_CountCells.calls t389 t390 t406 _ A81.out) (fun K hK => ?_)
                                  rintro e w115 ⟨rfl, hb⟩
                                  refine ⟨_, rfl, ?_⟩
                                  replace HO_5 := RB HO_5 hb
                                  replace HO_6 := RB HO_6 hb
                                  replace HO_14 := RB HO_14 hb
                                  replace BK397 := BB BK397 hb
                                  replace BK398 := BB BK398 hb
                                  replace BK403 := BB BK403 hb
                                  replace BK425 := BB BK425 hb
                                  replace HB := BS HB hb
                                  clear hb
                                  refine HN hK ⟨CE BK397 0, CE BK397 1, CE BK397 2⟩ (fun hHeld => ?_)
                                  clear hK K
                                  refine PU 5 118 HT_ ?_
                                  refine OG 7 120 HT_ Try.func23 (laws_at.calls _ _ l0 1 t424 _ ?side1 ?side2 A83.out) (fun K hK => ?_)
                                  (case side1 => repeat (first | exact (Kd.C_below HR0.out HB.out) | (with_reducible refine Kd.C_alloc ?_ _) | (with_reducible refine Kd.C_drewN ?_ _) | (with_reducible refine Kd.C_drew ?_)))
                                  (case side2 => exact HC0.out)
                                  rintro e w' ⟨rfl, ⟨nd, rfl⟩⟩
                                  refine ⟨_, rfl, ?_⟩
                                  refine HN hK ⟨CE BK397 0, CE BK397 1, CE BK397 2⟩ (fun hHeld => ?_)
                                  clear hK K
                                  refine PU 8 121 HT_ ?_
                                  refine PU 9 122 HT_ ?_
                                  exact norm_ (by simp only [putAll, Act.put, List.setIfInBounds_toArray, List.set_cons_zero, List.set_cons_succ]) (hCont (gb425) _ ⟨hHeld, (RT (Kd.R_mono HO_14.out (fun _ hk => ⟨hk.1.1, ⟨hk.1.2, hk.2⟩⟩))), (KR HO_5), (KR HO_6), BKZ, BKZ, BKZ, BKZ, GW425.out, GE425.out, NB397_425.out, NB425_397.out, NB398_425.out, NB425_398.out, NB403_425.out, NB425_403.out, BZ⟩)
                               rintro gb425 w116 ⟨hS_, h0_, h1_, h2_, h3_, h4_, h5_, h6_, h7_, h8_, h9_, h10_, h11_, h12_, h13_, h14_, h15_⟩
                               have n0_ : Aside0 (Kd.R k43 43 w116 w.heap.size (fun k_ => k_ ≠ gb398 ∧ k_ ≠ gb403 ∧ k_ ≠ gb425) (.slice Ao112 t418.length co112) t418) := ⟨h0_⟩
                               have n1_ : Aside0 (Kd.R (Kd.int .i64) 3 w116 w.heap.size (fun k_ => some k_ ≠ (.slice Ao71 t399.length co71 : Value).ownBlock) (.slice Ao13 t394.length co13) t394) := ⟨h1_⟩
                               have n2_ : Aside0 (Kd.R (Kd.int .i64) 3 w116 w.heap.size (fun k_ => some k_ ≠ (.slice Ao13 t394.length co13 : Value).ownBlock) (.slice Ao71 t399.length co71) t399) := ⟨h2_⟩
                               have n3_ : Aside0 (w116.heap[gb397]? = some (.cells #[.int .i64 t389, .int .i64 t390, .int .i64 t391] 30 (0, 0))) := ⟨h3_⟩
                               have n4_ : Aside0 (w116.heap[gb398]? = some (.cells #[.int .i64 t392, .int .i64 t393] 43 (0, 0))) := ⟨h4_⟩
                               have n5_ : Aside0 (w116.heap[gb403]? = some (.cells #[.int .i64 x404000_2, .int .i64 x404001_2] 43 (0, 0))) := ⟨h5_⟩
                               have n6_ : Aside0 (w116.heap[gb425]? = some (.cells #[.int .i64 0, .int .i64 0] 43 (0, 0))) := ⟨h6_⟩
                               have n7_ : Aside0 (w.heap.size ≤ gb425) := ⟨h7_⟩
                               have n8_ : Aside0 (w.heap.size ≤ gb425) := ⟨h8_⟩
                               have n9_ : Aside0 (gb397 ≠ gb425) := ⟨h9_⟩
                               have n10_ : Aside0 (gb425 ≠ gb397) := ⟨h10_⟩
                               have n11_ : Aside0 (gb398 ≠ gb425) := ⟨h11_⟩
                               have n12_ : Aside0 (gb425 ≠ gb398) := ⟨h12_⟩
                               have n13_ : Aside0 (gb403 ≠ gb425) := ⟨h13_⟩
                               have n14_ : Aside0 (gb425 ≠ gb403) := ⟨h14_⟩
                               have n15_ : Aside0 (Below w.heap.size w w116) := ⟨h15_⟩
                               clear HO_5
                               clear HO_6
                               clear HO_14
                               clear BK397
                               clear BK398
                               clear BK403
                               clear HB
                               clear h0_ h1_ h2_ h3_ h4_ h5_ h6_ h7_ h8_ h9_ h10_ h11_ h12_ h13_ h14_ h15_
                               have HO_14 := n0_
                               have HO_5 := n1_
                               have HO_6 := n2_
                               have BK397 := n3_
                               have BK398 := n4_
                               have BK403 := n5_
                               have BK425 := n6_
                               have GW425 := n7_
                               have GE425 := n8_
                               have NB397_425 := n9_
                               have NB425_397 := n10_
                               have NB398_425 := n11_
                               have NB425_398 := n12_
                               have NB403_425 := n13_
                               have NB425_403 := n14_
                               have HB := n15_
                               clear n0_ n1_ n2_ n3_ n4_ n5_ n6_ n7_ n8_ n9_ n10_ n11_ n12_ n13_ n14_ n15_
                               have hHeld : w116.cell? ⟨gb397, 0, none⟩ = some (.int .i64 t389) ∧ w116.cell? ⟨gb397, 1, none⟩ = some (.int .i64 t390) ∧ w116.cell? ⟨gb397, 2, none⟩ = some (.int .i64 t391) := hS_
                               refine norm_ (a' := ?_) ?_ ?_
                               rotate_left
                               ·simp only [putAll, Act.put, List.setIfInBounds_toArray, List.set_cons_zero, List.set_cons_succ]
                                rfl
                               refine one_ (i := 11) (N := none) #[true, true, true, true, true, true, true, true, true, true, true, true] rfl rfl (one_of HT_.out (by kernel_rfl)) (by decide) (fun K hK => ?_)
                               have hs117 : w116.cell? ⟨gb425, 0, none⟩ = some (.int .i64 0) := CE BK425 0
                               have hfs117 := blk_frozen BK425.out 0
                               have hns117_0 := NB397_425.out
                               have hns117_1 := NB398_425.out
                               have hns117_2 := NB403_425.out
                               have hms117_0 := NB425_397.out
                               have hms117_1 := NB425_398.out
                               have hms117_2 := NB425_403.out
                               have hs118 : w116.cell? ⟨gb425, 1, none⟩ = some (.int .i64 0) := CE BK425 1
                               have hfs118 := blk_frozen BK425.out 1
                               have hns118_0 := NB397_425.out
                               have hns118_1 := NB398_425.out
                               have hns118_2 := NB403_425.out
                               have hms118_0 := NB425_397.out
                               have hms118_1 := NB425_398.out
                               have hms118_2 := NB425_403.out
                               refine skip_ (w1 := ?_) (by rfl) rfl ?_ ?_
                               rotate_left
                               ·go_simp
                                rfl
                               refine hK.out _ _ ⟨(CF2 NB397_425.out (hHeld.1)), (CF2 NB397_425.out (hHeld.2.1)), (CF2 NB397_425.out (hHeld.2.2))⟩ (fun hHeld => ?_)
                               clear hK K
                               refine done_ (done_of HT_.out (by kernel_rfl)) ?_
                               try go_wp2
                               have n0_ : Aside0 (Kd.R (Kd.int .i64) 3 (S2W w116 gb425 (.int .i64 (Int.tmod t422 t406)) (.int .i64 (Int.tmod t424 4))) w.heap.size (fun k_ => some k_ ≠ (.slice Ao71 t399.length co71 : Value).ownBlock) (.slice Ao13 t394.length co13) t394) := ⟨RT (RF2 (Kd.R_types HO_5.out BK425.out (by decide)))⟩
                               have n1_ : Aside0 (Kd.R (Kd.int .i64) 3 (S2W w116 gb425 (.int .i64 (Int.tmod t422 t406)) (.int .i64 (Int.tmod t424 4))) w.heap.size (fun k_ => some k_ ≠ (.slice Ao13 t394.length co13 : Value).ownBlock) (.slice Ao71 t399.length co71) t399) := ⟨RT (RF2 (Kd.R_types HO_6.out BK425.out (by decide)))⟩
                               have n2_ : Aside0 (Kd.R k43 43 (S2W w116 gb425 (.int .i64 (Int.tmod t422 t406)) (.int .i64 (Int.tmod t424 4))) w.heap.size (fun k_ => k_ ≠ gb398 ∧ k_ ≠ gb403 ∧ k_ ≠ gb425) (.slice Ao112 t418.length co112) t418) := ⟨RT (Kd.R_mono (Kd.R_far (p := ⟨gb425, 1, none⟩) (Kd.R_far (p := ⟨gb425, 0, none⟩) (Kd.R_mono HO_14.out (fun k_ hk => (⟨hk, hk.2.2⟩ : _ ∧ k_ ≠ gb425))) (fun _ hk => hk.2) (.int .i64 (Int.tmod t422 t406))) (fun _ hk => hk.2) (.int .i64 (Int.tmod t424 4))) (fun _ hk => ⟨hk.1.1, ⟨hk.1.2.1, hk.1.2.2⟩⟩))⟩
                               have n3_ : Aside0 ((S2W w116 gb425 (.int .i64 (Int.tmod t422 t406)) (.int .i64 (Int.tmod t424 4))).heap[gb397]? = some (.cells #[.int .i64 t389, .int .i64 t390, .int .i64 t391] 30 (0, 0))) := ⟨BF2 NB397_425 BK397⟩
                               have n4_ : Aside0 ((S2W w116 gb425 (.int .i64 (Int.tmod t422 t406)) (.int .i64 (Int.tmod t424 4))).heap[gb398]? = some (.cells #[.int .i64 t392, .int .i64 t393] 43 (0, 0))) := ⟨BF2 NB398_425 BK398⟩
                               have n5_ : Aside0 ((S2W w116 gb425 (.int .i64 (Int.tmod t422 t406)) (.int .i64 (Int.tmod t424 4))).heap[gb403]? = some (.cells #[.int .i64 x404000_2, .int .i64 x404001_2] 43 (0, 0))) := ⟨BF2 NB403_425 BK403⟩
                               have n6_ : Aside0 ((S2W w116 gb425 (.int .i64 (Int.tmod t422 t406)) (.int .i64 (Int.tmod t424 4))).heap[gb425]? = some (.cells #[.int .i64 (Int.tmod t422 t406), .int .i64 (Int.tmod t424 4)] 43 (0, 0))) := ⟨PQ2 BK425⟩
                               have n7_ : Aside0 (Below w.heap.size w (S2W w116 gb425 (.int .i64 (Int.tmod t422 t406)) (.int .i64 (Int.tmod t424 4)))) := ⟨BZ⟩
                               (try clear HO_5)
                               (try clear HO_6)
                               (try clear HO_14)
                               (try clear BK397)
                               (try clear BK398)
                               (try clear BK403)
                               (try clear BK425)
                               (try clear HB)
                               (try dsimp only [S2W] at n0_ n1_ n2_ n3_ n4_ n5_ n6_ n7_); generalize ((w116.setCell ⟨gb425, 0, none⟩ (.int .i64 (Int.tmod t422 t406))).setCell ⟨gb425, 1, none⟩ (.int .i64 (Int.tmod t424 4))) = w119 at n0_ n1_ n2_ n3_ n4_ n5_ n6_ n7_ ⊢
                               have HO_5 := n0_
                               have HO_6 := n1_
                               have HO_14 := n2_
                               have BK397 := n3_
                               have BK398 := n4_
                               have BK403 := n5_
                               have BK425 := n6_
                               have HB := n7_
                               clear n0_ n1_ n2_ n3_ n4_ n5_ n6_ n7_
                               replace HO_5 := Aside0.mk (Kd.R_drew HO_5.out)
                               replace HO_6 := Aside0.mk (Kd.R_drew HO_6.out)
                               replace HO_14 := Aside0.mk (Kd.R_drew HO_14.out)
                               replace BK397 := Aside0.mk (blk_drew BK397.out)
                               replace BK398 := Aside0.mk (blk_drew BK398.out)
                               replace BK403 := Aside0.mk (blk_drew BK403.out)
                               replace BK425 := Aside0.mk (blk_drew BK425.out)
                               replace HB := Aside0.mk (below_drew1 HB.out)
                               refine ST 45 (fun w' => w'.cell? ⟨gb397, 0, none⟩ = some (.int .i64 t389) ∧ w'.cell? ⟨gb397, 1, none⟩ = some (.int .i64 t390) ∧ w'.cell? ⟨gb397, 2, none⟩ = some (.int .i64 t391) ∧ w'.cell? ⟨gb398, 0, none⟩ = some (.int .i64 t392) ∧ w'.cell? ⟨gb398, 1, none⟩ = some (.int .i64 t393) ∧ w'.cell? ⟨gb425, 0, none⟩ = some (.int .i64 (Int.tmod t422 t406)) ∧ w'.cell? ⟨gb425, 1, none⟩ = some (.int .i64 (Int.tmod t424 4))) [] laws_FnLocated.tab28 laws_FnLocated.bits28 ⟨CE BK397 0, CE BK397 1, CE BK397 2, CE BK398 0, CE BK398 1, CE BK425 0, CE BK425 1⟩ (fun hHeld HT_ HW_ => ?_)
                               generalize w119.drew = w120 at HO_5 HO_6 HO_14 BK397 BK398 BK403 BK425 HB hHeld ⊢
                               refine PU 0 123 HT_ ?_
                               refine PU 1 124 HT_ ?_
                               refine PU 3 126 HT_ ?_
                               refine PU 4 127 HT_ ?_
                               refine PU 6 129 HT_ ?_
                               refine PU 7 130 HT_ ?_
                               refine PU 8 131 HT_ ?_
                               refine TA 2 125 HT_ HW_ hHeld ?_
                               refine OG 5 128 HT_ Try.func10 (impl_IsLocated.calls k4 t389 t390 t391 _ _ t399 _ _ t394 t426 _ ?side1 ?side2 ?side3 ?side4 A85.out) (fun K hK => ?_)
                               (case side1 => repeat (first | exact (Kd.R_reads' HO_6.out).2.2 | (with_reducible refine Kd.C_alloc ?_ _) | (with_reducible refine Kd.C_drewN ?_ _) | (with_reducible refine Kd.C_drew ?_)))
                               (case side2 => exact (Kd.R_reads' HO_6.out).2.1)
                               (case side3 => repeat (first | exact (Kd.R_reads' HO_5.out).2.2 | (with_reducible refine Kd.C_alloc ?_ _) | (with_reducible refine Kd.C_drewN ?_ _) | (with_reducible refine Kd.C_drew ?_)))
                               (case side4 => exact (Kd.R_reads' HO_5.out).2.1)
                               rintro e w121 ⟨rfl, hb⟩
                               refine ⟨_, rfl, ?_⟩
                               replace HO_5 := RB HO_5 hb
                               replace HO_6 := RB HO_6 hb
                               replace HO_14 := RB HO_14 hb
                               replace BK397 := BB BK397 hb
                               replace BK398 := BB BK398 hb
                               replace BK403 := BB BK403 hb
                               replace BK425 := BB BK425 hb
                               replace HB := BS HB hb
                               clear hb
                               refine HN hK ⟨CE BK397 0, CE BK397 1, CE BK397 2, CE BK398 0, CE BK398 1, CE BK425 0, CE BK425 1⟩ (fun hHeld => ?_)
                               clear hK K
                               refine PU 9 132 HT_ ?_
                               refine PU 10 133 HT_ ?_
                               refine PU 11 134 HT_ ?_
                               refine TA 12 135 HT_ HW_ hHeld ?_
                               refine TA 13 136 HT_ HW_ hHeld ?_
                               refine TA 14 137 HT_ HW_ hHeld ?_
                               refine OG 15 138 HT_ Try.func24 (impl_LikeWalkers.calls k4 t389 t390 t391 t392 t393 t392 t393 3 true _ A87.out) (fun K hK => ?_)
                               rintro e w122 ⟨rfl, hb⟩
                               refine ⟨_, rfl, ?_⟩
                               replace HO_5 := RB HO_5 hb
                               replace HO_6 := RB HO_6 hb
                               replace HO_14 := RB HO_14 hb
                               replace BK397 := BB BK397 hb
                               replace BK398 := BB BK398 hb
                               replace BK403 := BB BK403 hb
                               replace BK425 := BB BK425 hb
                               replace HB := BS HB hb
                               clear hb
                               refine HN hK ⟨CE BK397 0, CE BK397 1, CE BK397 2, CE BK398 0, CE BK398 1, CE BK425 0, CE BK425 1⟩ (fun hHeld => ?_)
                               clear hK K
                               refine PU 16 139 HT_ ?_
                               refine PU 17 140 HT_ ?_
                               refine TA 18 141 HT_ HW_ hHeld ?_
                               refine TA 19 142 HT_ HW_ hHeld ?_
                               refine TA 20 143 HT_ HW_ hHeld ?_
                               refine TA 22 145 HT_ HW_ hHeld ?_
                               refine TA 23 146 HT_ HW_ hHeld ?_
                               refine TA 24 147 HT_ HW_ hHeld ?_
                               refine OG 21 144 HT_ Try.func24 (impl_LikeWalkers.calls k4 t389 t390 t391 t392 t393 (Int.tmod t422 t406) (Int.tmod t424 4) 2 t428 _ A89.out) (fun K hK => ?_)
                               rintro e w123 ⟨rfl, hb⟩
                               refine ⟨_, rfl, ?_⟩
                               replace HO_5 := RB HO_5 hb
                               replace HO_6 := RB HO_6 hb
                               replace HO_14 := RB HO_14 hb
                               replace BK397 := BB BK397 hb
                               replace BK398 := BB BK398 hb
                               replace BK403 := BB BK403 hb
                               replace BK425 := BB BK425 hb
                               replace HB := BS HB hb
                               clear hb
                               refine HN hK ⟨CE BK397 0, CE BK397 1, CE BK397 2, CE BK398 0, CE BK398 1, CE BK425 0, CE BK425 1⟩ (fun hHeld => ?_)
                               clear hK K
                               refine OG 25 148 HT_ Try.func24 (impl_LikeWalkers.calls k4 t389 t390 t391 (Int.tmod t422 t406) (Int.tmod t424 4) t392 t393 2 t429 _ A90.out) (fun K hK => ?_)
                               rintro e w124 ⟨rfl, hb⟩
                               refine ⟨_, rfl, ?_⟩
                               replace HO_5 := RB HO_5 hb
                               replace HO_6 := RB HO_6 hb
                               replace HO_14 := RB HO_14 hb
                               replace BK397 := BB BK397 hb
                               replace BK398 := BB BK398 hb
                               replace BK403 := BB BK403 hb
                               replace BK425 := BB BK425 hb
                               replace HB := BS HB hb
                               clear hb
                               refine HN hK ⟨CE BK397 0, CE BK397 1, CE BK397 2, CE BK398 0, CE BK398 1, CE BK425 0, CE BK425 1⟩ (fun hHeld => ?_)
                               clear hK K
                               refine PU 26 149 HT_ ?_
                               refine PU 27 150 HT_ ?_
                               refine PU 28 151 HT_ ?_
                               refine TA 29 152 HT_ HW_ hHeld ?_
                               refine TA 30 153 HT_ HW_ hHeld ?_
                               refine TA 31 154 HT_ HW_ hHeld ?_
                               refine OG 32 155 HT_ Try.func24 (impl_LikeWalkers.calls k4 t389 t390 t391 t392 t393 (Int.tmod t422 t406) (Int.tmod t424 4) 1 false _ A92.out) (fun K hK => ?_)
                               rintro e w125 ⟨rfl, hb⟩
                               refine ⟨_, rfl, ?_⟩
                               replace HO_5 := RB HO_5 hb
                               replace HO_6 := RB HO_6 hb
                               replace HO_14 := RB HO_14 hb
                               replace BK397 := BB BK397 hb
                               replace BK398 := BB BK398 hb
                               replace BK403 := BB BK403 hb
                               replace BK425 := BB BK425 hb
                               replace HB := BS HB hb
                               clear hb
                               refine HN hK ⟨CE BK397 0, CE BK397 1, CE BK397 2, CE BK398 0, CE BK398 1, CE BK425 0, CE BK425 1⟩ (fun hHeld => ?_)
                               clear hK K
                               refine PU 33 156 HT_ ?_
                               refine PU 34 157 HT_ ?_
                               refine PX 35 158 HT_ ?_
                               refine PX 36 159 HT_ ?_
                               refine PX 37 160 HT_ ?_
                               refine PX 38 161 HT_ ?_
                               refine PX 39 162 HT_ ?_
                               refine PX 40 163 HT_ ?_
                               refine PX 41 164 HT_ ?_
                               refine PU 42 165 HT_ ?_
                               refine PU 43 166 HT_ ?_
                               refine PU 44 2 HT_ ?_
                               refine done_ (done_of HT_.out (by kernel_rfl)) ?_
                               try go_wp2
                               go_ret
                               exact ⟨RZ, BZ⟩
                           ·as_aux_lemma =>
                             rw [if_neg c91] at H
                             have c91b0 : (t428 == t429) = false := by simpa using c91
                             (try (have c91b1 : decide (t428 = t429) = false := by simpa using c91))
                             (try (have c91b2 : (t428 == t429) = false := by simpa using c91))
                             (try (have c91b3 : ¬ (t428 = t429) := by simpa using c91))
                             clear c91
                             obtain rfl := Option.some.inj H
                             obtain ⟨Ao126, co126, eo126⟩ := Kd.R_slice HO_14.out
                             subst eo126
                             try go_wp2
                             replace HO_5 := Aside0.mk (Kd.R_drew HO_5.out)
                             replace HO_6 := Aside0.mk (Kd.R_drew HO_6.out)
                             replace HO_14 := Aside0.mk (Kd.R_drew HO_14.out)
                             replace BK397 := Aside0.mk (blk_drew BK397.out)
                             replace BK398 := Aside0.mk (blk_drew BK398.out)
                             replace BK403 := Aside0.mk (blk_drew BK403.out)
                             replace HB := Aside0.mk (below_drew1 HB.out)
                             refine ST 12 (fun w' => w'.cell? ⟨gb397, 0, none⟩ = some (.int .i64 t389) ∧ w'.cell? ⟨gb397, 1, none⟩ = some (.int .i64 t390) ∧ w'.cell? ⟨gb397, 2, none⟩ = some (.int .i64 t391)) [] laws_FnLocated.tab27 laws_FnLocated.bits27 ⟨CE BK397 0, CE BK397 1, CE BK397 2⟩ (fun hHeld HT_ HW_ => ?_)
                             generalize wr.drew = w127 at HO_5 HO_6 HO_14 BK397 BK398 BK403 HB hHeld ⊢
                             refine PU 0 113 HT_ ?_
                             refine PU 2 115 HT_ ?_
                             refine PU 6 119 HT_ ?_
                             refine TA 3 116 HT_ HW_ hHeld ?_
                             refine join_ (σ := Nat) 1 #[true, true, true, true, true, true, true, true, true, true, true, false] (fun s_ => [(114, .int .i64 t422), (117, .int .i64 t406), (120, .int .i64 t424), (17, .pointer (some ⟨s_, 0, none⟩)), (118, .int .i64 (Int.tmod t422 t406)), (121, .int .i64 (Int.tmod t424 4)), (122, .agg #[.int .i64 (Int.tmod t422 t406), .int .i64 (Int.tmod t424 4)])]) (fun s_ w' => (w'.cell? ⟨gb397, 0, none⟩ = some (.int .i64 t389) ∧ w'.cell? ⟨gb397, 1, none⟩ = some (.int .i64 t390) ∧ w'.cell? ⟨gb397, 2, none⟩ = some (.int .i64 t391)) ∧ (Kd.R k43 43 w' w.heap.size (fun k_ => k_ ≠ gb398 ∧ k_ ≠ gb403 ∧ k_ ≠ s_) (.slice Ao126 t418.length co126) t418) ∧ (Kd.R (Kd.int .i64) 3 w' w.heap.size (fun k_ => some k_ ≠ (.slice Ao71 t399.length co71 : Value).ownBlock) (.slice Ao13 t394.length co13) t394) ∧ (Kd.R (Kd.int .i64) 3 w' w.heap.size (fun k_ => some k_ ≠ (.slice Ao13 t394.length co13 : Value).ownBlock) (.slice Ao71 t399.length co71) t399) ∧ (w'.heap[gb397]? = some (.cells #[.int .i64 t389, .int .i64 t390, .int .i64 t391] 30 (0, 0))) ∧ (w'.heap[gb398]? = some (.cells #[.int .i64 t392, .int .i64 t393] 43 (0, 0))) ∧ (w'.heap[gb403]? = some (.cells #[.int .i64 x404000_2, .int .i64 x404001_2] 43 (0, 0))) ∧ (w'.heap[s_]? = some (.cells #[.int .i64 0, .int .i64 0] 43 (0, 0))) ∧ (w.heap.size ≤ s_) ∧ (w.heap.size ≤ s_) ∧ (gb397 ≠ s_) ∧ (s_ ≠ gb397) ∧ (gb398 ≠ s_) ∧ (s_ ≠ gb398) ∧ (gb403 ≠ s_) ∧ (s_ ≠ gb403) ∧ (Below w.heap.size w w')) ?_ ?_
                             rotate_left
                             ·as_aux_lemma =>
                               intro hCont
                               refine two_ (i := 1) (j := 10) (Ni := some 114) (Nj := some 17) #[true, true, true, true, false, false, true, false, false, false, false, false] #[true, false, true, true, false, false, true, false, false, false, true, false] rfl rfl rfl rfl (two_of HT_.out (by kernel_rfl)) (by decide) (by decide) (fun K hK => ?_) (fun K hK => ?_)
                               ·as_aux_lemma =>
                                 skip
                                 refine goes_ Try.func23 (by kernel_rfl) rfl #[.slice A0 l0.length c0, .int .i64 0] (by rfl) rfl rfl (by (try simp only [List.map_toArray, List.map_cons, List.map_nil]); first | done | rfl | (simp only [List.length_drop, List.length_take]; rfl)) ?_
                                 with_reducible refine (laws_at.calls _ _ l0 0 t422 _ ?side1 ?side2 A80.out).mono ?_
                                 (case side1 => repeat (first | exact (Kd.C_below HR0.out HB.out) | (with_reducible refine Kd.C_alloc ?_ _) | (with_reducible refine Kd.C_drewN ?_ _) | (with_reducible refine Kd.C_drew ?_)))
                                 (case side2 => exact HC0.out)
                                 rintro e w' ⟨rfl, ⟨nd, rfl⟩⟩
                                 refine ⟨_, rfl, ?_⟩
                                 refine HN hK ⟨CE BK397 0, CE BK397 1, CE BK397 2⟩ (fun hHeld => ?_)
                                 clear hK K
                                 refine two_ (i := 4) (j := 10) (Ni := some 117) (Nj := some 17) #[true, true, true, true, true, false, true, false, false, false, false, false] #[true, true, true, true, false, false, true, false, false, false, true, false] rfl rfl rfl rfl (two_of HT_.out (by kernel_rfl)) (by decide) (by decide) (fun K hK => ?_) (fun K hK => ?_)
                                 ·as_aux_lemma =>
                                   skip
                                   refine goes_ Try.func22 (by kernel_rfl) rfl #[.agg #[.int .i64 t389, .int .i64 t390]] (by rfl) rfl rfl (by (try simp only [List.map_toArray, List.map_cons, List.map_nil]); first | done | rfl | (simp only [List.length_drop, List.length_take]; rfl)) ?_
                                   with_reducible refine (spec_CountCells.calls t389 t390 t406 _ A81.out).mono ?_
                                   rintro e w128 ⟨rfl, hb⟩
                                   refine ⟨_, rfl, ?_⟩
                                   replace HO_5 := RB HO_5 hb
                                   replace HO_6 := RB HO_6 hb
                                   replace HO_14 := RB HO_14 hb
                                   replace BK397 := BB BK397 hb
                                   replace BK398 := BB BK398 hb
                                   replace BK403 := BB BK403 hb
                                   replace HB := BS HB hb
                                   clear hb
                                   refine HN hK ⟨CE BK397 0, CE BK397 1, CE BK397 2⟩ (fun hHeld => ?_)
                                   clear hK K
                                   refine PU 5 118 HT_ ?_
                                   refine two_ (i := 7) (j := 10) (Ni := some 120) (Nj := some 17) #[true, true, true, true, true, true, true, true, false, false, false, false] #[true, true, true, true, true, true, true, false, false, false, true, false] rfl rfl rfl rfl (two_of HT_.out (by kernel_rfl)) (by decide) (by decide) (fun K hK => ?_) (fun K hK => ?_)
                                   ·skip
                                    refine goes_ Try.func23 (by kernel_rfl) rfl #[.slice A0 l0.length c0, .int .i64 1] (by rfl) rfl rfl (by (try simp only [List.map_toArray, List.map_cons, List.map_nil]); first | done | rfl | (simp only [List.length_drop, List.length_take]; rfl)) ?_
                                    with_reducible refine (laws_at.calls _ _ l0 1 t424 _ ?side1 ?side2 A83.out).mono ?_
                                    (case side1 => repeat (first | exact (Kd.C_below HR0.out HB.out) | (with_reducible refine Kd.C_alloc ?_ _) | (with_reducible refine Kd.C_drewN ?_ _) | (with_reducible refine Kd.C_drew ?_)))
                                    (case side2 => exact HC0.out)
                                    rintro e w' ⟨rfl, ⟨nd, rfl⟩⟩
                                    refine ⟨_, rfl, ?_⟩
                                    refine HN hK ⟨CE BK397 0, CE BK397 1, CE BK397 2⟩ (fun hHeld => ?_)
                                    clear hK K
                                    refine PU 8 121 HT_ ?_
                                    refine PU 9 122 HT_ ?_
                                    refine one_ (i := 10) (N := some 17) #[true, true, true, true, true, true, true, true, true, true, true, false] rfl rfl (one_of HT_.out (by kernel_rfl)) (by decide) (fun K hK => ?_)
                                    refine box_step ?hg (N := 17) ?hd (cs := #[.int .i64 0, .int .i64 0]) (t := 43) ?hr ?_; (case hd => rfl); (case hg => rfl); (case hr => first | (go_simp; done) | (go_simp; rfl))
                                    intro gb425 hg w129 hbox hb
                                    have BK425 := Aside0.mk (hbox)
                                    have GW425 := (GS hg : Aside0 (w.heap.size ≤ gb425))
                                    have GE425 := GW425
                                    have NB397_425 := NL BK397 hg
                                    have NB425_397 := NG BK397 hg
                                    have NB398_425 := NL BK398 hg
                                    have NB425_398 := NG BK398 hg
                                    have NB403_425 := NL BK403 hg
                                    have NB425_403 := NG BK403 hg
                                    replace HO_5 := RB HO_5 hb
                                    replace HO_6 := RB HO_6 hb
                                    replace HO_14 := Aside0.mk (Kd.R_below (Kd.R_elderB (KR HO_14) gb425 (Nat.le_of_eq hg.symm)) hb)
                                    replace BK397 := BB BK397 hb
                                    replace BK398 := BB BK398 hb
                                    replace BK403 := BB BK403 hb
                                    replace HB := BS HB hb
                                    clear hb hbox hg
                                    refine HN hK ⟨CE BK397 0, CE BK397 1, CE BK397 2⟩ (fun hHeld => ?_)
                                    clear hK K
                                    exact norm_ (by simp only [putAll, Act.put, List.setIfInBounds_toArray, List.set_cons_zero, List.set_cons_succ]) (hCont (gb425) _ ⟨hHeld, (RT (Kd.R_mono HO_14.out (fun _ hk => ⟨hk.1.1, ⟨hk.1.2, hk.2⟩⟩))), (KR HO_5), (KR HO_6), BKZ, BKZ, BKZ, BKZ, GW425.out, GE425.out, NB397_425.out, NB425_397.out, NB398_425.out, NB425_398.out, NB403_425.out, NB425_403.out, BZ⟩)
                                   ·skip
                                    refine box_step ?hg (N := 17) ?hd (cs := #[.int .i64 0, .int .i64 0]) (t := 43) ?hr ?_; (case hd => rfl); (case hg => rfl); (case hr => first | (go_simp; done) | (go_simp; rfl))
                                    intro gb425 hg w129 hbox hb
                                    have BK425 := Aside0.mk (hbox)
                                    have GW425 := (GS hg : Aside0 (w.heap.size ≤ gb425))
                                    have GE425 := GW425
                                    have NB397_425 := NL BK397 hg
                                    have NB425_397 := NG BK397 hg
                                    have NB398_425 := NL BK398 hg
                                    have NB425_398 := NG BK398 hg
                                    have NB403_425 := NL BK403 hg
                                    have NB425_403 := NG BK403 hg
                                    replace HO_5 := RB HO_5 hb
                                    replace HO_6 := RB HO_6 hb
                                    replace HO_14 := Aside0.mk (Kd.R_below (Kd.R_elderB (KR HO_14) gb425 (Nat.le_of_eq hg.symm)) hb)
                                    replace BK397 := BB BK397 hb
                                    replace BK398 := BB BK398 hb
                                    replace BK403 := BB BK403 hb
                                    replace HB := BS HB hb
                                    clear hb hbox hg
                                    refine HN hK ⟨CE BK397 0, CE BK397 1, CE BK397 2⟩ (fun hHeld => ?_)
                                    clear hK K
                                    refine OG 7 120 HT_ Try.func23 (laws_at.calls _ _ l0 1 t424 _ ?side1 ?side2 A83.out) (fun K hK => ?_)
                                    (case side1 => repeat (first | exact (Kd.C_below HR0.out HB.out) | (with_reducible refine Kd.C_alloc ?_ _) | (with_reducible refine Kd.C_drewN ?_ _) | (with_reducible refine Kd.C_drew ?_)))
                                    (case side2 => exact HC0.out)
                                    rintro e w' ⟨rfl, ⟨nd, rfl⟩⟩
                                    refine ⟨_, rfl, ?_⟩
                                    refine HN hK ⟨CE BK397 0, CE BK397 1, CE BK397 2⟩ (fun hHeld => ?_)
                                    clear hK K
                                    refine PU 8 121 HT_ ?_
                                    refine PU 9 122 HT_ ?_
                                    exact norm_ (by simp only [putAll, Act.put, List.setIfInBounds_toArray, List.set_cons_zero, List.set_cons_succ]) (hCont (gb425) _ ⟨hHeld, (RT (Kd.R_mono HO_14.out (fun _ hk => ⟨hk.1.1, ⟨hk.1.2, hk.2⟩⟩))), (KR HO_5), (KR HO_6), BKZ, BKZ, BKZ, BKZ, GW425.out, GE425.out, NB397_425.out, NB425_397.out, NB398_425.out, NB425_398.out, NB403_425.out, NB425_403.out, BZ⟩)
                                 ·skip
                                  refine box_step ?hg (N := 17) ?hd (cs := #[.int .i64 0, .int .i64 0]) (t := 43) ?hr ?_; (case hd => rfl); (case hg => rfl); (case hr => first | (go_simp; done) | (go_simp; rfl))
                                  intro gb425 hg w128 hbox hb
                                  have BK425 := Aside0.mk (hbox)
                                  have GW425 := (GS hg : Aside0 (w.heap.size ≤ gb425))
                                  have GE425 := GW425
                                  have NB397_425 := NL BK397 hg
                                  have NB425_397 := NG BK397 hg
                                  have NB398_425 := NL BK398 hg
                                  have NB425_398 := NG BK398 hg
                                  have NB403_425 := NL BK403 hg
                                  have NB425_403 := NG BK403 hg
                                  replace HO_5 := RB HO_5 hb
                                  replace HO_6 := RB HO_6 hb
                                  replace HO_14 := Aside0.mk (Kd.R_below (Kd.R_elderB (KR HO_14) gb425 (Nat.le_of_eq hg.symm)) hb)
                                  replace BK397 := BB BK397 hb
                                  replace BK398 := BB BK398 hb
                                  replace BK403 := BB BK403 hb
                                  replace HB := BS HB hb
                                  clear hb hbox hg
                                  refine HN hK ⟨CE BK397 0, CE BK397 1, CE BK397 2⟩ (fun hHeld => ?_)
                                  clear hK K
                                  refine OG 4 117 HT_ Try.func22 (spec_CountCells.calls t389 t390 t406 _ A81.out) (fun K hK => ?_)
                                  rintro e w129 ⟨rfl, hb⟩
                                  refine ⟨_, rfl, ?_⟩
                                  replace HO_5 := RB HO_5 hb
                                  replace HO_6 := RB HO_6 hb
                                  replace HO_14 := RB HO_14 hb
                                  replace BK397 := BB BK397 hb
                                  replace BK398 := BB BK398 hb
                                  replace BK403 := BB BK403 hb
                                  replace BK425 := BB BK425 hb
                                  replace HB := BS HB hb
                                  clear hb
                                  refine HN hK ⟨CE BK397 0, CE BK397 1, CE BK397 2⟩ (fun hHeld => ?_)
                                  clear hK K
                                  refine PU 5 118 HT_ ?_
                                  refine OG 7 120 HT_ Try.func23 (laws_at.calls _ _ l0 1 t424 _ ?side1 ?side2 A83.out) (fun K hK => ?_)
                                  (case side1 => repeat (first | exact (Kd.C_below HR0.out HB.out) | (with_reducible refine Kd.C_alloc ?_ _) | (with_reducible refine Kd.C_drewN ?_ _) | (with_reducible refine Kd.C_drew ?_)))
                                  (case side2 => exact HC0.out)
                                  rintro e w' ⟨rfl, ⟨nd, rfl⟩⟩
                                  refine ⟨_, rfl, ?_⟩
                                  refine HN hK ⟨CE BK397 0, CE BK397 1, CE BK397 2⟩ (fun hHeld => ?_)
                                  clear hK K
                                  refine PU 8 121 HT_ ?_
                                  refine PU 9 122 HT_ ?_
                                  exact norm_ (by simp only [putAll, Act.put, List.setIfInBounds_toArray, List.set_cons_zero, List.set_cons_succ]) (hCont (gb425) _ ⟨hHeld, (RT (Kd.R_mono HO_14.out (fun _ hk => ⟨hk.1.1, ⟨hk.1.2, hk.2⟩⟩))), (KR HO_5), (KR HO_6), BKZ, BKZ, BKZ, BKZ, GW425.out, GE425.out, NB397_425.out, NB425_397.out, NB398_425.out, NB425_398.out, NB403_425.out, NB425_403.out, BZ⟩)
                               ·skip
                                refine box_step ?hg (N := 17) ?hd (cs := #[.int .i64 0, .int .i64 0]) (t := 43) ?hr ?_; (case hd => rfl); (case hg => rfl); (case hr => first | (go_simp; done) | (go_simp; rfl))
                                intro gb425 hg w128 hbox hb
                                have BK425 := Aside0.mk (hbox)
                                have GW425 := (GS hg : Aside0 (w.heap.size ≤ gb425))
                                have GE425 := GW425
                                have NB397_425 := NL BK397 hg
                                have NB425_397 := NG BK397 hg
                                have NB398_425 := NL BK398 hg
                                have NB425_398 := NG BK398 hg
                                have NB403_425 := NL BK403 hg
                                have NB425_403 := NG BK403 hg
                                replace HO_5 := RB HO_5 hb
                                replace HO_6 := RB HO_6 hb
                                replace HO_14 := Aside0.mk (Kd.R_below (Kd.R_elderB (KR HO_14) gb425 (Nat.le_of_eq hg.symm)) hb)
                                replace BK397 := BB BK397 hb
                                replace BK398 := BB BK398 hb
                                replace BK403 := BB BK403 hb
                                replace HB := BS HB hb
                                clear hb hbox hg
                                refine HN hK ⟨CE BK397 0, CE BK397 1, CE BK397 2⟩ (fun hHeld => ?_)
                                clear hK K
                                refine OG 1 114 HT_ Try.func23 (laws_at.calls _ _ l0 0 t422 _ ?side1 ?side2 A80.out) (fun K hK => ?_)
                                (case side1 => repeat (first | exact (Kd.C_below HR0.out HB.out) | (with_reducible refine Kd.C_alloc ?_ _) | (with_reducible refine Kd.C_drewN ?_ _) | (with_reducible refine Kd.C_drew ?_)))
                                (case side2 => exact HC0.out)
                                rintro e w' ⟨rfl, ⟨nd, rfl⟩⟩
                                refine ⟨_, rfl, ?_⟩
                                refine HN hK ⟨CE BK397 0, CE BK397 1, CE BK397 2⟩ (fun hHeld => ?_)
                                clear hK K
                                refine OG 4 117 HT_ Try.func22 (spec_CountCells.calls t389 t390 t406 _ A81.out) (fun K hK => ?_)
                                rintro e w129 ⟨rfl, hb⟩
                                refine ⟨_, rfl, ?_⟩
                                replace HO_5 := RB HO_5 hb
                                replace HO_6 := RB HO_6 hb
                                replace HO_14 := RB HO_14 hb
                                replace BK397 := BB BK397 hb
                                replace BK398 := BB BK398 hb
                                replace BK403 := BB BK403 hb
                                replace BK425 := BB BK425 hb
                                replace HB := BS HB hb
                                clear hb
                                refine HN hK ⟨CE BK397 0, CE BK397 1, CE BK397 2⟩ (fun hHeld => ?_)
                                clear hK K
                                refine PU 5 118 HT_ ?_
                                refine OG 7 120 HT_ Try.func23 (laws_at.calls _ _ l0 1 t424 _ ?side1 ?side2 A83.out) (fun K hK => ?_)
                                (case side1 => repeat (first | exact (Kd.C_below HR0.out HB.out) | (with_reducible refine Kd.C_alloc ?_ _) | (with_reducible refine Kd.C_drewN ?_ _) | (with_reducible refine Kd.C_drew ?_)))
                                (case side2 => exact HC0.out)
                                rintro e w' ⟨rfl, ⟨nd, rfl⟩⟩
                                refine ⟨_, rfl, ?_⟩
                                refine HN hK ⟨CE BK397 0, CE BK397 1, CE BK397 2⟩ (fun hHeld => ?_)
                                clear hK K
                                refine PU 8 121 HT_ ?_
                                refine PU 9 122 HT_ ?_
                                exact norm_ (by simp only [putAll, Act.put, List.setIfInBounds_toArray, List.set_cons_zero, List.set_cons_succ]) (hCont (gb425) _ ⟨hHeld, (RT (Kd.R_mono HO_14.out (fun _ hk => ⟨hk.1.1, ⟨hk.1.2, hk.2⟩⟩))), (KR HO_5), (KR HO_6), BKZ, BKZ, BKZ, BKZ, GW425.out, GE425.out, NB397_425.out, NB425_397.out, NB398_425.out, NB425_398.out, NB403_425.out, NB425_403.out, BZ⟩)
                             rintro gb425 w130 ⟨hS_, h0_, h1_, h2_, h3_, h4_, h5_, h6_, h7_, h8_, h9_, h10_, h11_, h12_, h13_, h14_, h15_⟩
                             have n0_ : Aside0 (Kd.R k43 43 w130 w.heap.size (fun k_ => k_ ≠ gb398 ∧ k_ ≠ gb403 ∧ k_ ≠ gb425) (.slice Ao126 t418.length co126) t418) := ⟨h0_⟩
                             have n1_ : Aside0 (Kd.R (Kd.int .i64) 3 w130 w.heap.size (fun k_ => some k_ ≠ (.slice Ao71 t399.length co71 : Value).ownBlock) (.slice Ao13 t394.length co13) t394) := ⟨h1_⟩
                             have n2_ : Aside0 (Kd.R (Kd.int .i64) 3 w130 w.heap.size (fun k_ => some k_ ≠ (.slice Ao13 t394.length co13 : Value).ownBlock) (.slice Ao71 t399.length co71) t399) := ⟨h2_⟩
                             have n3_ : Aside0 (w130.heap[gb397]? = some (.cells #[.int .i64 t389, .int .i64 t390, .int .i64 t391] 30 (0, 0))) := ⟨h3_⟩
                             have n4_ : Aside0 (w130.heap[gb398]? = some (.cells #[.int .i64 t392, .int .i64 t393] 43 (0, 0))) := ⟨h4_⟩
                             have n5_ : Aside0 (w130.heap[gb403]? = some (.cells #[.int .i64 x404000_2, .int .i64 x404001_2] 43 (0, 0))) := ⟨h5_⟩
                             have n6_ : Aside0 (w130.heap[gb425]? = some (.cells #[.int .i64 0, .int .i64 0] 43 (0, 0))) := ⟨h6_⟩
                             have n7_ : Aside0 (w.heap.size ≤ gb425) := ⟨h7_⟩
                             have n8_ : Aside0 (w.heap.size ≤ gb425) := ⟨h8_⟩
                             have n9_ : Aside0 (gb397 ≠ gb425) := ⟨h9_⟩
                             have n10_ : Aside0 (gb425 ≠ gb397) := ⟨h10_⟩
                             have n11_ : Aside0 (gb398 ≠ gb425) := ⟨h11_⟩
                             have n12_ : Aside0 (gb425 ≠ gb398) := ⟨h12_⟩
                             have n13_ : Aside0 (gb403 ≠ gb425) := ⟨h13_⟩
                             have n14_ : Aside0 (gb425 ≠ gb403) := ⟨h14_⟩
                             have n15_ : Aside0 (Below w.heap.size w w130) := ⟨h15_⟩
                             clear HO_5
                             clear HO_6
                             clear HO_14
                             clear BK397
                             clear BK398
                             clear BK403
                             clear HB
                             clear h0_ h1_ h2_ h3_ h4_ h5_ h6_ h7_ h8_ h9_ h10_ h11_ h12_ h13_ h14_ h15_
                             have HO_14 := n0_
                             have HO_5 := n1_
                             have HO_6 := n2_
                             have BK397 := n3_
                             have BK398 := n4_
                             have BK403 := n5_
                             have BK425 := n6_
                             have GW425 := n7_
                             have GE425 := n8_
                             have NB397_425 := n9_
                             have NB425_397 := n10_
                             have NB398_425 := n11_
                             have NB425_398 := n12_
                             have NB403_425 := n13_
                             have NB425_403 := n14_
                             have HB := n15_
                             clear n0_ n1_ n2_ n3_ n4_ n5_ n6_ n7_ n8_ n9_ n10_ n11_ n12_ n13_ n14_ n15_
                             have hHeld : w130.cell? ⟨gb397, 0, none⟩ = some (.int .i64 t389) ∧ w130.cell? ⟨gb397, 1, none⟩ = some (.int .i64 t390) ∧ w130.cell? ⟨gb397, 2, none⟩ = some (.int .i64 t391) := hS_
                             refine norm_ (a' := ?_) ?_ ?_
                             rotate_left
                             ·simp only [putAll, Act.put, List.setIfInBounds_toArray, List.set_cons_zero, List.set_cons_succ]
                              rfl
                             refine one_ (i := 11) (N := none) #[true, true, true, true, true, true, true, true, true, true, true, true] rfl rfl (one_of HT_.out (by kernel_rfl)) (by decide) (fun K hK => ?_)
                             have hs131 : w130.cell? ⟨gb425, 0, none⟩ = some (.int .i64 0) := CE BK425 0
                             have hfs131 := blk_frozen BK425.out 0
                             have hns131_0 := NB397_425.out
                             have hns131_1 := NB398_425.out
                             have hns131_2 := NB403_425.out
                             have hms131_0 := NB425_397.out
                             have hms131_1 := NB425_398.out
                             have hms131_2 := NB425_403.out
                             have hs132 : w130.cell? ⟨gb425, 1, none⟩ = some (.int .i64 0) := CE BK425 1
                             have hfs132 := blk_frozen BK425.out 1
                             have hns132_0 := NB397_425.out
                             have hns132_1 := NB398_425.out
                             have hns132_2 := NB403_425.out
                             have hms132_0 := NB425_397.out
                             have hms132_1 := NB425_398.out
                             have hms132_2 := NB425_403.out
                             refine skip_ (w1 := ?_) (by rfl) rfl ?_ ?_
                             rotate_left
                             ·go_simp
                              rfl
                             refine hK.out _ _ ⟨(CF2 NB397_425.out (hHeld.1)), (CF2 NB397_425.out (hHeld.2.1)), (CF2 NB397_425.out (hHeld.2.2))⟩ (fun hHeld => ?_)
                             clear hK K
                             refine done_ (done_of HT_.out (by kernel_rfl)) ?_
                             try go_wp2
                             have n0_ : Aside0 (Kd.R (Kd.int .i64) 3 (S2W w130 gb425 (.int .i64 (Int.tmod t422 t406)) (.int .i64 (Int.tmod t424 4))) w.heap.size (fun k_ => some k_ ≠ (.slice Ao71 t399.length co71 : Value).ownBlock) (.slice Ao13 t394.length co13) t394) := ⟨RT (RF2 (Kd.R_types HO_5.out BK425.out (by decide)))⟩
                             have n1_ : Aside0 (Kd.R (Kd.int .i64) 3 (S2W w130 gb425 (.int .i64 (Int.tmod t422 t406)) (.int .i64 (Int.tmod t424 4))) w.heap.size (fun k_ => some k_ ≠ (.slice Ao13 t394.length co13 : Value).ownBlock) (.slice Ao71 t399.length co71) t399) := ⟨RT (RF2 (Kd.R_types HO_6.out BK425.out (by decide)))⟩
                             have n2_ : Aside0 (Kd.R k43 43 (S2W w130 gb425 (.int .i64 (Int.tmod t422 t406)) (.int .i64 (Int.tmod t424 4))) w.heap.size (fun k_ => k_ ≠ gb398 ∧ k_ ≠ gb403 ∧ k_ ≠ gb425) (.slice Ao126 t418.length co126) t418) := ⟨RT (Kd.R_mono (Kd.R_far (p := ⟨gb425, 1, none⟩) (Kd.R_far (p := ⟨gb425, 0, none⟩) (Kd.R_mono HO_14.out (fun k_ hk => (⟨hk, hk.2.2⟩ : _ ∧ k_ ≠ gb425))) (fun _ hk => hk.2) (.int .i64 (Int.tmod t422 t406))) (fun _ hk => hk.2) (.int .i64 (Int.tmod t424 4))) (fun _ hk => ⟨hk.1.1, ⟨hk.1.2.1, hk.1.2.2⟩⟩))⟩
                             have n3_ : Aside0 ((S2W w130 gb425 (.int .i64 (Int.tmod t422 t406)) (.int .i64 (Int.tmod t424 4))).heap[gb397]? = some (.cells #[.int .i64 t389, .int .i64 t390, .int .i64 t391] 30 (0, 0))) := ⟨BF2 NB397_425 BK397⟩
                             have n4_ : Aside0 ((S2W w130 gb425 (.int .i64 (Int.tmod t422 t406)) (.int .i64 (Int.tmod t424 4))).heap[gb398]? = some (.cells #[.int .i64 t392, .int .i64 t393] 43 (0, 0))) := ⟨BF2 NB398_425 BK398⟩
                             have n5_ : Aside0 ((S2W w130 gb425 (.int .i64 (Int.tmod t422 t406)) (.int .i64 (Int.tmod t424 4))).heap[gb403]? = some (.cells #[.int .i64 x404000_2, .int .i64 x404001_2] 43 (0, 0))) := ⟨BF2 NB403_425 BK403⟩
                             have n6_ : Aside0 ((S2W w130 gb425 (.int .i64 (Int.tmod t422 t406)) (.int .i64 (Int.tmod t424 4))).heap[gb425]? = some (.cells #[.int .i64 (Int.tmod t422 t406), .int .i64 (Int.tmod t424 4)] 43 (0, 0))) := ⟨PQ2 BK425⟩
                             have n7_ : Aside0 (Below w.heap.size w (S2W w130 gb425 (.int .i64 (Int.tmod t422 t406)) (.int .i64 (Int.tmod t424 4)))) := ⟨BZ⟩
                             (try clear HO_5)
                             (try clear HO_6)
                             (try clear HO_14)
                             (try clear BK397)
                             (try clear BK398)
                             (try clear BK403)
                             (try clear BK425)
                             (try clear HB)
                             (try dsimp only [S2W] at n0_ n1_ n2_ n3_ n4_ n5_ n6_ n7_); generalize ((w130.setCell ⟨gb425, 0, none⟩ (.int .i64 (Int.tmod t422 t406))).setCell ⟨gb425, 1, none⟩ (.int .i64 (Int.tmod t424 4))) = w133 at n0_ n1_ n2_ n3_ n4_ n5_ n6_ n7_ ⊢
                             have HO_5 := n0_
                             have HO_6 := n1_
                             have HO_14 := n2_
                             have BK397 := n3_
                             have BK398 := n4_
                             have BK403 := n5_
                             have BK425 := n6_
                             have HB := n7_
                             clear n0_ n1_ n2_ n3_ n4_ n5_ n6_ n7_
                             replace HO_5 := Aside0.mk (Kd.R_drew HO_5.out)
                             replace HO_6 := Aside0.mk (Kd.R_drew HO_6.out)
                             replace HO_14 := Aside0.mk (Kd.R_drew HO_14.out)
                             replace BK397 := Aside0.mk (blk_drew BK397.out)
                             replace BK398 := Aside0.mk (blk_drew BK398.out)
                             replace BK403 := Aside0.mk (blk_drew BK403.out)
                             replace BK425 := Aside0.mk (blk_drew BK425.out)
                             replace HB := Aside0.mk (below_drew1 HB.out)
                             refine ST 45 (fun w' => w'.cell? ⟨gb397, 0, none⟩ = some (.int .i64 t389) ∧ w'.cell? ⟨gb397, 1, none⟩ = some (.int .i64 t390) ∧ w'.cell? ⟨gb397, 2, none⟩ = some (.int .i64 t391) ∧ w'.cell? ⟨gb398, 0, none⟩ = some (.int .i64 t392) ∧ w'.cell? ⟨gb398, 1, none⟩ = some (.int .i64 t393) ∧ w'.cell? ⟨gb425, 0, none⟩ = some (.int .i64 (Int.tmod t422 t406)) ∧ w'.cell? ⟨gb425, 1, none⟩ = some (.int .i64 (Int.tmod t424 4))) [] laws_FnLocated.tab28 laws_FnLocated.bits28 ⟨CE BK397 0, CE BK397 1, CE BK397 2, CE BK398 0, CE BK398 1, CE BK425 0, CE BK425 1⟩ (fun hHeld HT_ HW_ => ?_)
                             generalize w133.drew = w134 at HO_5 HO_6 HO_14 BK397 BK398 BK403 BK425 HB hHeld ⊢
                             refine PU 0 123 HT_ ?_
                             refine PU 1 124 HT_ ?_
                             refine PU 3 126 HT_ ?_
                             refine PU 4 127 HT_ ?_
                             refine PU 6 129 HT_ ?_
                             refine PU 7 130 HT_ ?_
                             refine PU 8 131 HT_ ?_
                             refine TA 2 125 HT_ HW_ hHeld ?_
                             refine OG 5 128 HT_ Try.func10 (impl_IsLocated.calls k4 t389 t390 t391 _ _ t399 _ _ t394 t426 _ ?side1 ?side2 ?side3 ?side4 A85.out) (fun K hK => ?_)
                             (case side1 => repeat (first | exact (Kd.R_reads' HO_6.out).2.2 | (with_reducible refine Kd.C_alloc ?_ _) | (with_reducible refine Kd.C_drewN ?_ _) | (with_reducible refine Kd.C_drew ?_)))
                             (case side2 => exact (Kd.R_reads' HO_6.out).2.1)
                             (case side3 => repeat (first | exact (Kd.R_reads' HO_5.out).2.2 | (with_reducible refine Kd.C_alloc ?_ _) | (with_reducible refine Kd.C_drewN ?_ _) | (with_reducible refine Kd.C_drew ?_)))
                             (case side4 => exact (Kd.R_reads' HO_5.out).2.1)
                             rintro e w135 ⟨rfl, hb⟩
                             refine ⟨_, rfl, ?_⟩
                             replace HO_5 := RB HO_5 hb
                             replace HO_6 := RB HO_6 hb
                             replace HO_14 := RB HO_14 hb
                             replace BK397 := BB BK397 hb
                             replace BK398 := BB BK398 hb
                             replace BK403 := BB BK403 hb
                             replace BK425 := BB BK425 hb
                             replace HB := BS HB hb
                             clear hb
                             refine HN hK ⟨CE BK397 0, CE BK397 1, CE BK397 2, CE BK398 0, CE BK398 1, CE BK425 0, CE BK425 1⟩ (fun hHeld => ?_)
                             clear hK K
                             refine PU 9 132 HT_ ?_
                             refine PU 10 133 HT_ ?_
                             refine PU 11 134 HT_ ?_
                             refine TA 12 135 HT_ HW_ hHeld ?_
                             refine TA 13 136 HT_ HW_ hHeld ?_
                             refine TA 14 137 HT_ HW_ hHeld ?_
                             refine OG 15 138 HT_ Try.func24 (impl_LikeWalkers.calls k4 t389 t390 t391 t392 t393 t392 t393 3 true _ A87.out) (fun K hK => ?_)
                             rintro e w136 ⟨rfl, hb⟩
                             refine ⟨_, rfl, ?_⟩
                             replace HO_5 := RB HO_5 hb
                             replace HO_6 := RB HO_6 hb
                             replace HO_14 := RB HO_14 hb
                             replace BK397 := BB BK397 hb
                             replace BK398 := BB BK398 hb
                             replace BK403 := BB BK403 hb
                             replace BK425 := BB BK425 hb
                             replace HB := BS HB hb
                             clear hb
                             refine HN hK ⟨CE BK397 0, CE BK397 1, CE BK397 2, CE BK398 0, CE BK398 1, CE BK425 0, CE BK425 1⟩ (fun hHeld => ?_)
                             clear hK K
                             refine PU 16 139 HT_ ?_
                             refine PU 17 140 HT_ ?_
                             refine TA 18 141 HT_ HW_ hHeld ?_
                             refine TA 19 142 HT_ HW_ hHeld ?_
                             refine TA 20 143 HT_ HW_ hHeld ?_
                             refine TA 22 145 HT_ HW_ hHeld ?_
                             refine TA 23 146 HT_ HW_ hHeld ?_
                             refine TA 24 147 HT_ HW_ hHeld ?_
                             refine OG 21 144 HT_ Try.func24 (impl_LikeWalkers.calls k4 t389 t390 t391 t392 t393 (Int.tmod t422 t406) (Int.tmod t424 4) 2 t428 _ A89.out) (fun K hK => ?_)
                             rintro e w137 ⟨rfl, hb⟩
                             refine ⟨_, rfl, ?_⟩
                             replace HO_5 := RB HO_5 hb
                             replace HO_6 := RB HO_6 hb
                             replace HO_14 := RB HO_14 hb
                             replace BK397 := BB BK397 hb
                             replace BK398 := BB BK398 hb
                             replace BK403 := BB BK403 hb
                             replace BK425 := BB BK425 hb
                             replace HB := BS HB hb
                             clear hb
                             refine HN hK ⟨CE BK397 0, CE BK397 1, CE BK397 2, CE BK398 0, CE BK398 1, CE BK425 0, CE BK425 1⟩ (fun hHeld => ?_)
                             clear hK K
                             refine OG 25 148 HT_ Try.func24 (impl_LikeWalkers.calls k4 t389 t390 t391 (Int.tmod t422 t406) (Int.tmod t424 4) t392 t393 2 t429 _ A90.out) (fun K hK => ?_)
                             rintro e w138 ⟨rfl, hb⟩
                             refine ⟨_, rfl, ?_⟩
                             replace HO_5 := RB HO_5 hb
                             replace HO_6 := RB HO_6 hb
                             replace HO_14 := RB HO_14 hb
                             replace BK397 := BB BK397 hb
                             replace BK398 := BB BK398 hb
                             replace BK403 := BB BK403 hb
                             replace BK425 := BB BK425 hb
                             replace HB := BS HB hb
                             clear hb
                             refine HN hK ⟨CE BK397 0, CE BK397 1, CE BK397 2, CE BK398 0, CE BK398 1, CE BK425 0, CE BK425 1⟩ (fun hHeld => ?_)
                             clear hK K
                             refine PU 26 149 HT_ ?_
                             refine PU 27 150 HT_ ?_
                             refine PU 28 151 HT_ ?_
                             refine PX 29 152 HT_ ?_
                             refine PX 30 153 HT_ ?_
                             refine PX 31 154 HT_ ?_
                             refine PX 32 155 HT_ ?_
                             refine PX 33 156 HT_ ?_
                             refine PX 34 157 HT_ ?_
                             refine PX 35 158 HT_ ?_
                             refine PX 36 159 HT_ ?_
                             refine PX 37 160 HT_ ?_
                             refine PX 38 161 HT_ ?_
                             refine PX 39 162 HT_ ?_
                             refine PX 40 163 HT_ ?_
                             refine PX 41 164 HT_ ?_
                             refine PX 42 165 HT_ ?_
                             refine PU 43 166 HT_ ?_
                             refine PU 44 2 HT_ ?_
                             refine done_ (done_of HT_.out (by kernel_rfl)) ?_
                             try go_wp2
                             go_ret
                             exact ⟨RZ, BZ⟩
                         ·as_aux_lemma =>
                           replace c88 := Bool.eq_false_iff.mpr c88
                           subst c88
                           replace H := IE H
                           obtain rfl := Option.some.inj H
                           obtain ⟨Ao139, co139, eo139⟩ := Kd.R_slice HO_14.out
                           subst eo139
                           try go_wp2
                           replace HO_5 := Aside0.mk (Kd.R_drew HO_5.out)
                           replace HO_6 := Aside0.mk (Kd.R_drew HO_6.out)
                           replace HO_14 := Aside0.mk (Kd.R_drew HO_14.out)
                           replace BK397 := Aside0.mk (blk_drew BK397.out)
                           replace BK398 := Aside0.mk (blk_drew BK398.out)
                           replace BK403 := Aside0.mk (blk_drew BK403.out)
                           replace HB := Aside0.mk (below_drew1 HB.out)
                           refine ST 12 (fun w' => w'.cell? ⟨gb397, 0, none⟩ = some (.int .i64 t389) ∧ w'.cell? ⟨gb397, 1, none⟩ = some (.int .i64 t390) ∧ w'.cell? ⟨gb397, 2, none⟩ = some (.int .i64 t391)) [] laws_FnLocated.tab27 laws_FnLocated.bits27 ⟨CE BK397 0, CE BK397 1, CE BK397 2⟩ (fun hHeld HT_ HW_ => ?_)
                           generalize wr.drew = w140 at HO_5 HO_6 HO_14 BK397 BK398 BK403 HB hHeld ⊢
                           refine PU 0 113 HT_ ?_
                           refine PU 2 115 HT_ ?_
                           refine PU 6 119 HT_ ?_
                           refine TA 3 116 HT_ HW_ hHeld ?_
                           refine join_ (σ := Nat) 1 #[true, true, true, true, true, true, true, true, true, true, true, false] (fun s_ => [(114, .int .i64 t422), (117, .int .i64 t406), (120, .int .i64 t424), (17, .pointer (some ⟨s_, 0, none⟩)), (118, .int .i64 (Int.tmod t422 t406)), (121, .int .i64 (Int.tmod t424 4)), (122, .agg #[.int .i64 (Int.tmod t422 t406), .int .i64 (Int.tmod t424 4)])]) (fun s_ w' => (w'.cell? ⟨gb397, 0, none⟩ = some (.int .i64 t389) ∧ w'.cell? ⟨gb397, 1, none⟩ = some (.int .i64 t390) ∧ w'.cell? ⟨gb397, 2, none⟩ = some (.int .i64 t391)) ∧ (Kd.R k43 43 w' w.heap.size (fun k_ => k_ ≠ gb398 ∧ k_ ≠ gb403 ∧ k_ ≠ s_) (.slice Ao139 t418.length co139) t418) ∧ (Kd.R (Kd.int .i64) 3 w' w.heap.size (fun k_ => some k_ ≠ (.slice Ao71 t399.length co71 : Value).ownBlock) (.slice Ao13 t394.length co13) t394) ∧ (Kd.R (Kd.int .i64) 3 w' w.heap.size (fun k_ => some k_ ≠ (.slice Ao13 t394.length co13 : Value).ownBlock) (.slice Ao71 t399.length co71) t399) ∧ (w'.heap[gb397]? = some (.cells #[.int .i64 t389, .int .i64 t390, .int .i64 t391] 30 (0, 0))) ∧ (w'.heap[gb398]? = some (.cells #[.int .i64 t392, .int .i64 t393] 43 (0, 0))) ∧ (w'.heap[gb403]? = some (.cells #[.int .i64 x404000_2, .int .i64 x404001_2] 43 (0, 0))) ∧ (w'.heap[s_]? = some (.cells #[.int .i64 0, .int .i64 0] 43 (0, 0))) ∧ (w.heap.size ≤ s_) ∧ (w.heap.size ≤ s_) ∧ (gb397 ≠ s_) ∧ (s_ ≠ gb397) ∧ (gb398 ≠ s_) ∧ (s_ ≠ gb398) ∧ (gb403 ≠ s_) ∧ (s_ ≠ gb403) ∧ (Below w.heap.size w w')) ?_ ?_
                           rotate_left
                           ·as_aux_lemma =>
                             intro hCont
                             refine two_ (i := 1) (j := 10) (Ni := some 114) (Nj := some 17) #[true, true, true, true, false, false, true, false, false, false, false, false] #[true, false, true, true, false, false, true, false, false, false, true, false] rfl rfl rfl rfl (two_of HT_.out (by kernel_rfl)) (by decide) (by decide) (fun K hK => ?_) (fun K hK => ?_)
                             ·as_aux_lemma =>
                               skip
                               refine goes_ Try.func23 (by kernel_rfl) rfl #[.slice A0 l0.length c0, .int .i64 0] (by rfl) rfl rfl (by (try simp only [List.map_toArray, List.map_cons, List.map_nil]); first | done | rfl | (simp only [List.length_drop, List.length_take]; rfl)) ?_
                               with_reducible refine (laws_at.calls _ _ l0 0 t422 _ ?side1 ?side2 A80.out).mono ?_
                               (case side1 => repeat (first | exact (Kd.C_below HR0.out HB.out) | (with_reducible refine Kd.C_alloc ?_ _) | (with_reducible refine Kd.C_drewN ?_ _) | (with_reducible refine Kd.C_drew ?_)))
                               (case side2 => exact HC0.out)
                               rintro e w' ⟨rfl, ⟨nd, rfl⟩⟩
                               refine ⟨_, rfl, ?_⟩
                               refine HN hK ⟨CE BK397 0, CE BK397 1, CE BK397 2⟩ (fun hHeld => ?_)
                               clear hK K
                               refine two_ (i := 4) (j := 10) (Ni := some 117) (Nj := some 17) #[true, true, true, true, true, false, true, false, false, false, false, false] #[true, true, true, true, false, false, true, false, false, false, true, false] rfl rfl rfl rfl (two_of HT_.out (by kernel_rfl)) (by decide) (by decide) (fun K hK => ?_) (fun K hK => ?_)
                               ·as_aux_lemma =>
                                 skip
                                 refine goes_ Try.func22 (by kernel_rfl) rfl #[.agg #[.int .i64 t389, .int .i64 t390]] (by rfl) rfl rfl (by (try simp only [List.map_toArray, List.map_cons, List.map_nil]); first | done | rfl | (simp only [List.length_drop, List.length_take]; rfl)) ?_
                                 with_reducible refine (spec_CountCells.calls t389 t390 t406 _ A81.out).mono ?_
                                 rintro e w141 ⟨rfl, hb⟩
                                 refine ⟨_, rfl, ?_⟩
                                 replace HO_5 := RB HO_5 hb
                                 replace HO_6 := RB HO_6 hb
                                 replace HO_14 := RB HO_14 hb
                                 replace BK397 := BB BK397 hb
                                 replace BK398 := BB BK398 hb
                                 replace BK403 := BB BK403 hb
                                 replace HB := BS HB hb
                                 clear hb
                                 refine HN hK ⟨CE BK397 0, CE BK397 1, CE BK397 2⟩ (fun hHeld => ?_)
                                 clear hK K
                                 refine PU 5 118 HT_ ?_
                                 refine two_ (i := 7) (j := 10) (Ni := some 120) (Nj := some 17) #[true, true, true, true, true, true, true, true, false, false, false, false] #[true, true, true, true, true, true, true, false, false, false, true, false] rfl rfl rfl rfl (two_of HT_.out (by kernel_rfl)) (by decide) (by decide) (fun K hK => ?_) (fun K hK => ?_)
                                 ·skip
                                  refine goes_ Try.func23 (by kernel_rfl) rfl #[.slice A0 l0.length c0, .int .i64 1] (by rfl) rfl rfl (by (try simp only [List.map_toArray, List.map_cons, List.map_nil]); first | done | rfl | (simp only [List.length_drop, List.length_take]; rfl)) ?_
                                  with_reducible refine (laws_at.calls _ _ l0 1 t424 _ ?side1 ?side2 A83.out).mono ?_
                                  (case side1 => repeat (first | exact (Kd.C_below HR0.out HB.out) | (with_reducible refine Kd.C_alloc ?_ _) | (with_reducible refine Kd.C_drewN ?_ _) | (with_reducible refine Kd.C_drew ?_)))
                                  (case side2 => exact HC0.out)
                                  rintro e w' ⟨rfl, ⟨nd, rfl⟩⟩
                                  refine ⟨_, rfl, ?_⟩
                                  refine HN hK ⟨CE BK397 0, CE BK397 1, CE BK397 2⟩ (fun hHeld => ?_)
                                  clear hK K
                                  refine PU 8 121 HT_ ?_
                                  refine PU 9 122 HT_ ?_
                                  refine one_ (i := 10) (N := some 17) #[true, true, true, true, true, true, true, true, true, true, true, false] rfl rfl (one_of HT_.out (by kernel_rfl)) (by decide) (fun K hK => ?_)
                                  refine box_step ?hg (N := 17) ?hd (cs := #[.int .i64 0, .int .i64 0]) (t := 43) ?hr ?_; (case hd => rfl); (case hg => rfl); (case hr => first | (go_simp; done) | (go_simp; rfl))
                                  intro gb425 hg w142 hbox hb
                                  have BK425 := Aside0.mk (hbox)
                                  have GW425 := (GS hg : Aside0 (w.heap.size ≤ gb425))
                                  have GE425 := GW425
                                  have NB397_425 := NL BK397 hg
                                  have NB425_397 := NG BK397 hg
                                  have NB398_425 := NL BK398 hg
                                  have NB425_398 := NG BK398 hg
                                  have NB403_425 := NL BK403 hg
                                  have NB425_403 := NG BK403 hg
                                  replace HO_5 := RB HO_5 hb
                                  replace HO_6 := RB HO_6 hb
                                  replace HO_14 := Aside0.mk (Kd.R_below (Kd.R_elderB (KR HO_14) gb425 (Nat.le_of_eq hg.symm)) hb)
                                  replace BK397 := BB BK397 hb
                                  replace BK398 := BB BK398 hb
                                  replace BK403 := BB BK403 hb
                                  replace HB := BS HB hb
                                  clear hb hbox hg
                                  refine HN hK ⟨CE BK397 0, CE BK397 1, CE BK397 2⟩ (fun hHeld => ?_)
                                  clear hK K
                                  exact norm_ (by simp only [putAll, Act.put, List.setIfInBounds_toArray, List.set_cons_zero, List.set_cons_succ]) (hCont (gb425) _ ⟨hHeld, (RT (Kd.R_mono HO_14.out (fun _ hk => ⟨hk.1.1, ⟨hk.1.2, hk.2⟩⟩))), (KR HO_5), (KR HO_6), BKZ, BKZ, BKZ, BKZ, GW425.out, GE425.out, NB397_425.out, NB425_397.out, NB398_425.out, NB425_398.out, NB403_425.out, NB425_403.out, BZ⟩)
                                 ·skip
                                  refine box_step ?hg (N := 17) ?hd (cs := #[.int .i64 0, .int .i64 0]) (t := 43) ?hr ?_; (case hd => rfl); (case hg => rfl); (case hr => first | (go_simp; done) | (go_simp; rfl))
                                  intro gb425 hg w142 hbox hb
                                  have BK425 := Aside0.mk (hbox)
                                  have GW425 := (GS hg : Aside0 (w.heap.size ≤ gb425))
                                  have GE425 := GW425
                                  have NB397_425 := NL BK397 hg
                                  have NB425_397 := NG BK397 hg
                                  have NB398_425 := NL BK398 hg
                                  have NB425_398 := NG BK398 hg
                                  have NB403_425 := NL BK403 hg
                                  have NB425_403 := NG BK403 hg
                                  replace HO_5 := RB HO_5 hb
                                  replace HO_6 := RB HO_6 hb
                                  replace HO_14 := Aside0.mk (Kd.R_below (Kd.R_elderB (KR HO_14) gb425 (Nat.le_of_eq hg.symm)) hb)
                                  replace BK397 := BB BK397 hb
                                  replace BK398 := BB BK398 hb
                                  replace BK403 := BB BK403 hb
                                  replace HB := BS HB hb
                                  clear hb hbox hg
                                  refine HN hK ⟨CE BK397 0, CE BK397 1, CE BK397 2⟩ (fun hHeld => ?_)
                                  clear hK K
                                  refine OG 7 120 HT_ Try.func23 (laws_at.calls _ _ l0 1 t424 _ ?side1 ?side2 A83.out) (fun K hK => ?_)
                                  (case side1 => repeat (first | exact (Kd.C_below HR0.out HB.out) | (with_reducible refine Kd.C_alloc ?_ _) | (with_reducible refine Kd.C_drewN ?_ _) | (with_reducible refine Kd.C_drew ?_)))
                                  (case side2 => exact HC0.out)
                                  rintro e w' ⟨rfl, ⟨nd, rfl⟩⟩
                                  refine ⟨_, rfl, ?_⟩
                                  refine HN hK ⟨CE BK397 0, CE BK397 1, CE BK397 2⟩ (fun hHeld => ?_)
                                  clear hK K
                                  refine PU 8 121 HT_ ?_
                                  refine PU 9 122 HT_ ?_
                                  exact norm_ (by simp only [putAll, Act.put, List.setIfInBounds_toArray, List.set_cons_zero, List.set_cons_succ]) (hCont (gb425) _ ⟨hHeld, (RT (Kd.R_mono HO_14.out (fun _ hk => ⟨hk.1.1, ⟨hk.1.2, hk.2⟩⟩))), (KR HO_5), (KR HO_6), BKZ, BKZ, BKZ, BKZ, GW425.out, GE425.out, NB397_425.out, NB425_397.out, NB398_425.out, NB425_398.out, NB403_425.out, NB425_403.out, BZ⟩)
                               ·skip
                                refine box_step ?hg (N := 17) ?hd (cs := #[.int .i64 0, .int .i64 0]) (t := 43) ?hr ?_; (case hd => rfl); (case hg => rfl); (case hr => first | (go_simp; done) | (go_simp; rfl))
                                intro gb425 hg w141 hbox hb
                                have BK425 := Aside0.mk (hbox)
                                have GW425 := (GS hg : Aside0 (w.heap.size ≤ gb425))
                                have GE425 := GW425
                                have NB397_425 := NL BK397 hg
                                have NB425_397 := NG BK397 hg
                                have NB398_425 := NL BK398 hg
                                have NB425_398 := NG BK398 hg
                                have NB403_425 := NL BK403 hg
                                have NB425_403 := NG BK403 hg
                                replace HO_5 := RB HO_5 hb
                                replace HO_6 := RB HO_6 hb
                                replace HO_14 := Aside0.mk (Kd.R_below (Kd.R_elderB (KR HO_14) gb425 (Nat.le_of_eq hg.symm)) hb)
                                replace BK397 := BB BK397 hb
                                replace BK398 := BB BK398 hb
                                replace BK403 := BB BK403 hb
                                replace HB := BS HB hb
                                clear hb hbox hg
                                refine HN hK ⟨CE BK397 0, CE BK397 1, CE BK397 2⟩ (fun hHeld => ?_)
                                clear hK K
                                refine OG 4 117 HT_ Try.func22 (spec_CountCells.calls t389 t390 t406 _ A81.out) (fun K hK => ?_)
                                rintro e w142 ⟨rfl, hb⟩
                                refine ⟨_, rfl, ?_⟩
                                replace HO_5 := RB HO_5 hb
                                replace HO_6 := RB HO_6 hb
                                replace HO_14 := RB HO_14 hb
                                replace BK397 := BB BK397 hb
                                replace BK398 := BB BK398 hb
                                replace BK403 := BB BK403 hb
                                replace BK425 := BB BK425 hb
                                replace HB := BS HB hb
                                clear hb
                                refine HN hK ⟨CE BK397 0, CE BK397 1, CE BK397 2⟩ (fun hHeld => ?_)
                                clear hK K
                                refine PU 5 118 HT_ ?_
                                refine OG 7 120 HT_ Try.func23 (laws_at.calls _ _ l0 1 t424 _ ?side1 ?side2 A83.out) (fun K hK => ?_)
                                (case side1 => repeat (first | exact (Kd.C_below HR0.out HB.out) | (with_reducible refine Kd.C_alloc ?_ _) | (with_reducible refine Kd.C_drewN ?_ _) | (with_reducible refine Kd.C_drew ?_)))
                                (case side2 => exact HC0.out)
                                rintro e w' ⟨rfl, ⟨nd, rfl⟩⟩
                                refine ⟨_, rfl, ?_⟩
                                refine HN hK ⟨CE BK397 0, CE BK397 1, CE BK397 2⟩ (fun hHeld => ?_)
                                clear hK K
                                refine PU 8 121 HT_ ?_
                                refine PU 9 122 HT_ ?_
                                exact norm_ (by simp only [putAll, Act.put, List.setIfInBounds_toArray, List.set_cons_zero, List.set_cons_succ]) (hCont (gb425) _ ⟨hHeld, (RT (Kd.R_mono HO_14.out (fun _ hk => ⟨hk.1.1, ⟨hk.1.2, hk.2⟩⟩))), (KR HO_5), (KR HO_6), BKZ, BKZ, BKZ, BKZ, GW425.out, GE425.out, NB397_425.out, NB425_397.out, NB398_425.out, NB425_398.out, NB403_425.out, NB425_403.out, BZ⟩)
                             ·skip
                              refine box_step ?hg (N := 17) ?hd (cs := #[.int .i64 0, .int .i64 0]) (t := 43) ?hr ?_; (case hd => rfl); (case hg => rfl); (case hr => first | (go_simp; done) | (go_simp; rfl))
                              intro gb425 hg w141 hbox hb
                              have BK425 := Aside0.mk (hbox)
                              have GW425 := (GS hg : Aside0 (w.heap.size ≤ gb425))
                              have GE425 := GW425
                              have NB397_425 := NL BK397 hg
                              have NB425_397 := NG BK397 hg
                              have NB398_425 := NL BK398 hg
                              have NB425_398 := NG BK398 hg
                              have NB403_425 := NL BK403 hg
                              have NB425_403 := NG BK403 hg
                              replace HO_5 := RB HO_5 hb
                              replace HO_6 := RB HO_6 hb
                              replace HO_14 := Aside0.mk (Kd.R_below (Kd.R_elderB (KR HO_14) gb425 (Nat.le_of_eq hg.symm)) hb)
                              replace BK397 := BB BK397 hb
                              replace BK398 := BB BK398 hb
                              replace BK403 := BB BK403 hb
                              replace HB := BS HB hb
                              clear hb hbox hg
                              refine HN hK ⟨CE BK397 0, CE BK397 1, CE BK397 2⟩ (fun hHeld => ?_)
                              clear hK K
                              refine OG 1 114 HT_ Try.func23 (laws_at.calls _ _ l0 0 t422 _ ?side1 ?side2 A80.out) (fun K hK => ?_)
                              (case side1 => repeat (first | exact (Kd.C_below HR0.out HB.out) | (with_reducible refine Kd.C_alloc ?_ _) | (with_reducible refine Kd.C_drewN ?_ _) | (with_reducible refine Kd.C_drew ?_)))
                              (case side2 => exact HC0.out)
                              rintro e w' ⟨rfl, ⟨nd, rfl⟩⟩
                              refine ⟨_, rfl, ?_⟩
                              refine HN hK ⟨CE BK397 0, CE BK397 1, CE BK397 2⟩ (fun hHeld => ?_)
                              clear hK K
                              refine OG 4 117 HT_ Try.func22 (spec_CountCells.calls t389 t390 t406 _ A81.out) (fun K hK => ?_)
                              rintro e w142 ⟨rfl, hb⟩
                              refine ⟨_, rfl, ?_⟩
                              replace HO_5 := RB HO_5 hb
                              replace HO_6 := RB HO_6 hb
                              replace HO_14 := RB HO_14 hb
                              replace BK397 := BB BK397 hb
                              replace BK398 := BB BK398 hb
                              replace BK403 := BB BK403 hb
                              replace BK425 := BB BK425 hb
                              replace HB := BS HB hb
                              clear hb
                              refine HN hK ⟨CE BK397 0, CE BK397 1, CE BK397 2⟩ (fun hHeld => ?_)
                              clear hK K
                              refine PU 5 118 HT_ ?_
                              refine OG 7 120 HT_ Try.func23 (laws_at.calls _ _ l0 1 t424 _ ?side1 ?side2 A83.out) (fun K hK => ?_)
                              (case side1 => repeat (first | exact (Kd.C_below HR0.out HB.out) | (with_reducible refine Kd.C_alloc ?_ _) | (with_reducible refine Kd.C_drewN ?_ _) | (with_reducible refine Kd.C_drew ?_)))
                              (case side2 => exact HC0.out)
                              rintro e w' ⟨rfl, ⟨nd, rfl⟩⟩
                              refine ⟨_, rfl, ?_⟩
                              refine HN hK ⟨CE BK397 0, CE BK397 1, CE BK397 2⟩ (fun hHeld => ?_)
                              clear hK K
                              refine PU 8 121 HT_ ?_
                              refine PU 9 122 HT_ ?_
                              exact norm_ (by simp only [putAll, Act.put, List.setIfInBounds_toArray, List.set_cons_zero, List.set_cons_succ]) (hCont (gb425) _ ⟨hHeld, (RT (Kd.R_mono HO_14.out (fun _ hk => ⟨hk.1.1, ⟨hk.1.2, hk.2⟩⟩))), (KR HO_5), (KR HO_6), BKZ, BKZ, BKZ, BKZ, GW425.out, GE425.out, NB397_425.out, NB425_397.out, NB398_425.out, NB425_398.out, NB403_425.out, NB425_403.out, BZ⟩)
                           rintro gb425 w143 ⟨hS_, h0_, h1_, h2_, h3_, h4_, h5_, h6_, h7_, h8_, h9_, h10_, h11_, h12_, h13_, h14_, h15_⟩
                           have n0_ : Aside0 (Kd.R k43 43 w143 w.heap.size (fun k_ => k_ ≠ gb398 ∧ k_ ≠ gb403 ∧ k_ ≠ gb425) (.slice Ao139 t418.length co139) t418) := ⟨h0_⟩
                           have n1_ : Aside0 (Kd.R (Kd.int .i64) 3 w143 w.heap.size (fun k_ => some k_ ≠ (.slice Ao71 t399.length co71 : Value).ownBlock) (.slice Ao13 t394.length co13) t394) := ⟨h1_⟩
                           have n2_ : Aside0 (Kd.R (Kd.int .i64) 3 w143 w.heap.size (fun k_ => some k_ ≠ (.slice Ao13 t394.length co13 : Value).ownBlock) (.slice Ao71 t399.length co71) t399) := ⟨h2_⟩
                           have n3_ : Aside0 (w143.heap[gb397]? = some (.cells #[.int .i64 t389, .int .i64 t390, .int .i64 t391] 30 (0, 0))) := ⟨h3_⟩
                           have n4_ : Aside0 (w143.heap[gb398]? = some (.cells #[.int .i64 t392, .int .i64 t393] 43 (0, 0))) := ⟨h4_⟩
                           have n5_ : Aside0 (w143.heap[gb403]? = some (.cells #[.int .i64 x404000_2, .int .i64 x404001_2] 43 (0, 0))) := ⟨h5_⟩
                           have n6_ : Aside0 (w143.heap[gb425]? = some (.cells #[.int .i64 0, .int .i64 0] 43 (0, 0))) := ⟨h6_⟩
                           have n7_ : Aside0 (w.heap.size ≤ gb425) := ⟨h7_⟩
                           have n8_ : Aside0 (w.heap.size ≤ gb425) := ⟨h8_⟩
                           have n9_ : Aside0 (gb397 ≠ gb425) := ⟨h9_⟩
                           have n10_ : Aside0 (gb425 ≠ gb397) := ⟨h10_⟩
                           have n11_ : Aside0 (gb398 ≠ gb425) := ⟨h11_⟩
                           have n12_ : Aside0 (gb425 ≠ gb398) := ⟨h12_⟩
                           have n13_ : Aside0 (gb403 ≠ gb425) := ⟨h13_⟩
                           have n14_ : Aside0 (gb425 ≠ gb403) := ⟨h14_⟩
                           have n15_ : Aside0 (Below w.heap.size w w143) := ⟨h15_⟩
                           clear HO_5
                           clear HO_6
                           clear HO_14
                           clear BK397
                           clear BK398
                           clear BK403
                           clear HB
                           clear h0_ h1_ h2_ h3_ h4_ h5_ h6_ h7_ h8_ h9_ h10_ h11_ h12_ h13_ h14_ h15_
                           have HO_14 := n0_
                           have HO_5 := n1_
                           have HO_6 := n2_
                           have BK397 := n3_
                           have BK398 := n4_
                           have BK403 := n5_
                           have BK425 := n6_
                           have GW425 := n7_
                           have GE425 := n8_
                           have NB397_425 := n9_
                           have NB425_397 := n10_
                           have NB398_425 := n11_
                           have NB425_398 := n12_
                           have NB403_425 := n13_
                           have NB425_403 := n14_
                           have HB := n15_
                           clear n0_ n1_ n2_ n3_ n4_ n5_ n6_ n7_ n8_ n9_ n10_ n11_ n12_ n13_ n14_ n15_
                           have hHeld : w143.cell? ⟨gb397, 0, none⟩ = some (.int .i64 t389) ∧ w143.cell? ⟨gb397, 1, none⟩ = some (.int .i64 t390) ∧ w143.cell? ⟨gb397, 2, none⟩ = some (.int .i64 t391) := hS_
                           refine norm_ (a' := ?_) ?_ ?_
                           rotate_left
                           ·simp only [putAll, Act.put, List.setIfInBounds_toArray, List.set_cons_zero, List.set_cons_succ]
                            rfl
                           refine one_ (i := 11) (N := none) #[true, true, true, true, true, true, true, true, true, true, true, true] rfl rfl (one_of HT_.out (by kernel_rfl)) (by decide) (fun K hK => ?_)
                           have hs144 : w143.cell? ⟨gb425, 0, none⟩ = some (.int .i64 0) := CE BK425 0
                           have hfs144 := blk_frozen BK425.out 0
                           have hns144_0 := NB397_425.out
                           have hns144_1 := NB398_425.out
                           have hns144_2 := NB403_425.out
                           have hms144_0 := NB425_397.out
                           have hms144_1 := NB425_398.out
                           have hms144_2 := NB425_403.out
                           have hs145 : w143.cell? ⟨gb425, 1, none⟩ = some (.int .i64 0) := CE BK425 1
                           have hfs145 := blk_frozen BK425.out 1
                           have hns145_0 := NB397_425.out
                           have hns145_1 := NB398_425.out
                           have hns145_2 := NB403_425.out
                           have hms145_0 := NB425_397.out
                           have hms145_1 := NB425_398.out
                           have hms145_2 := NB425_403.out
                           refine skip_ (w1 := ?_) (by rfl) rfl ?_ ?_
                           rotate_left
                           ·go_simp
                            rfl
                           refine hK.out _ _ ⟨(CF2 NB397_425.out (hHeld.1)), (CF2 NB397_425.out (hHeld.2.1)), (CF2 NB397_425.out (hHeld.2.2))⟩ (fun hHeld => ?_)
                           clear hK K
                           refine done_ (done_of HT_.out (by kernel_rfl)) ?_
                           try go_wp2
                           have n0_ : Aside0 (Kd.R (Kd.int .i64) 3 (S2W w143 gb425 (.int .i64 (Int.tmod t422 t406)) (.int .i64 (Int.tmod t424 4))) w.heap.size (fun k_ => some k_ ≠ (.slice Ao71 t399.length co71 : Value).ownBlock) (.slice Ao13 t394.length co13) t394) := ⟨RT (RF2 (Kd.R_types HO_5.out BK425.out (by decide)))⟩
                           have n1_ : Aside0 (Kd.R (Kd.int .i64) 3 (S2W w143 gb425 (.int .i64 (Int.tmod t422 t406)) (.int .i64 (Int.tmod t424 4))) w.heap.size (fun k_ => some k_ ≠ (.slice Ao13 t394.length co13 : Value).ownBlock) (.slice Ao71 t399.length co71) t399) := ⟨RT (RF2 (Kd.R_types HO_6.out BK425.out (by decide)))⟩
                           have n2_ : Aside0 (Kd.R k43 43 (S2W w143 gb425 (.int .i64 (Int.tmod t422 t406)) (.int .i64 (Int.tmod t424 4))) w.heap.size (fun k_ => k_ ≠ gb398 ∧ k_ ≠ gb403 ∧ k_ ≠ gb425) (.slice Ao139 t418.length co139) t418) := ⟨RT (Kd.R_mono (Kd.R_far (p := ⟨gb425, 1, none⟩) (Kd.R_far (p := ⟨gb425, 0, none⟩) (Kd.R_mono HO_14.out (fun k_ hk => (⟨hk, hk.2.2⟩ : _ ∧ k_ ≠ gb425))) (fun _ hk => hk.2) (.int .i64 (Int.tmod t422 t406))) (fun _ hk => hk.2) (.int .i64 (Int.tmod t424 4))) (fun _ hk => ⟨hk.1.1, ⟨hk.1.2.1, hk.1.2.2⟩⟩))⟩
                           have n3_ : Aside0 ((S2W w143 gb425 (.int .i64 (Int.tmod t422 t406)) (.int .i64 (Int.tmod t424 4))).heap[gb397]? = some (.cells #[.int .i64 t389, .int .i64 t390, .int .i64 t391] 30 (0, 0))) := ⟨BF2 NB397_425 BK397⟩
                           have n4_ : Aside0 ((S2W w143 gb425 (.int .i64 (Int.tmod t422 t406)) (.int .i64 (Int.tmod t424 4))).heap[gb398]? = some (.cells #[.int .i64 t392, .int .i64 t393] 43 (0, 0))) := ⟨BF2 NB398_425 BK398⟩
                           have n5_ : Aside0 ((S2W w143 gb425 (.int .i64 (Int.tmod t422 t406)) (.int .i64 (Int.tmod t424 4))).heap[gb403]? = some (.cells #[.int .i64 x404000_2, .int .i64 x404001_2] 43 (0, 0))) := ⟨BF2 NB403_425 BK403⟩
                           have n6_ : Aside0 ((S2W w143 gb425 (.int .i64 (Int.tmod t422 t406)) (.int .i64 (Int.tmod t424 4))).heap[gb425]? = some (.cells #[.int .i64 (Int.tmod t422 t406), .int .i64 (Int.tmod t424 4)] 43 (0, 0))) := ⟨PQ2 BK425⟩
                           have n7_ : Aside0 (Below w.heap.size w (S2W w143 gb425 (.int .i64 (Int.tmod t422 t406)) (.int .i64 (Int.tmod t424 4)))) := ⟨BZ⟩
                           (try clear HO_5)
                           (try clear HO_6)
                           (try clear HO_14)
                           (try clear BK397)
                           (try clear BK398)
                           (try clear BK403)
                           (try clear BK425)
                           (try clear HB)
                           (try dsimp only [S2W] at n0_ n1_ n2_ n3_ n4_ n5_ n6_ n7_); generalize ((w143.setCell ⟨gb425, 0, none⟩ (.int .i64 (Int.tmod t422 t406))).setCell ⟨gb425, 1, none⟩ (.int .i64 (Int.tmod t424 4))) = w146 at n0_ n1_ n2_ n3_ n4_ n5_ n6_ n7_ ⊢
                           have HO_5 := n0_
                           have HO_6 := n1_
                           have HO_14 := n2_
                           have BK397 := n3_
                           have BK398 := n4_
                           have BK403 := n5_
                           have BK425 := n6_
                           have HB := n7_
                           clear n0_ n1_ n2_ n3_ n4_ n5_ n6_ n7_
                           replace HO_5 := Aside0.mk (Kd.R_drew HO_5.out)
                           replace HO_6 := Aside0.mk (Kd.R_drew HO_6.out)
                           replace HO_14 := Aside0.mk (Kd.R_drew HO_14.out)
                           replace BK397 := Aside0.mk (blk_drew BK397.out)
                           replace BK398 := Aside0.mk (blk_drew BK398.out)
                           replace BK403 := Aside0.mk (blk_drew BK403.out)
                           replace BK425 := Aside0.mk (blk_drew BK425.out)
                           replace HB := Aside0.mk (below_drew1 HB.out)
                           refine ST 45 (fun w' => w'.cell? ⟨gb397, 0, none⟩ = some (.int .i64 t389) ∧ w'.cell? ⟨gb397, 1, none⟩ = some (.int .i64 t390) ∧ w'.cell? ⟨gb397, 2, none⟩ = some (.int .i64 t391) ∧ w'.cell? ⟨gb398, 0, none⟩ = some (.int .i64 t392) ∧ w'.cell? ⟨gb398, 1, none⟩ = some (.int .i64 t393)) [] laws_FnLocated.tab28 laws_FnLocated.bits28 ⟨CE BK397 0, CE BK397 1, CE BK397 2, CE BK398 0, CE BK398 1⟩ (fun hHeld HT_ HW_ => ?_)
                           generalize w146.drew = w147 at HO_5 HO_6 HO_14 BK397 BK398 BK403 BK425 HB hHeld ⊢
                           refine PU 0 123 HT_ ?_
                           refine PU 1 124 HT_ ?_
                           refine PU 3 126 HT_ ?_
                           refine PU 4 127 HT_ ?_
                           refine PU 6 129 HT_ ?_
                           refine PU 7 130 HT_ ?_
                           refine PU 8 131 HT_ ?_
                           refine TA 2 125 HT_ HW_ hHeld ?_
                           refine OG 5 128 HT_ Try.func10 (impl_IsLocated.calls k4 t389 t390 t391 _ _ t399 _ _ t394 t426 _ ?side1 ?side2 ?side3 ?side4 A85.out) (fun K hK => ?_)
                           (case side1 => repeat (first | exact (Kd.R_reads' HO_6.out).2.2 | (with_reducible refine Kd.C_alloc ?_ _) | (with_reducible refine Kd.C_drewN ?_ _) | (with_reducible refine Kd.C_drew ?_)))
                           (case side2 => exact (Kd.R_reads' HO_6.out).2.1)
                           (case side3 => repeat (first | exact (Kd.R_reads' HO_5.out).2.2 | (with_reducible refine Kd.C_alloc ?_ _) | (with_reducible refine Kd.C_drewN ?_ _) | (with_reducible refine Kd.C_drew ?_)))
                           (case side4 => exact (Kd.R_reads' HO_5.out).2.1)
                           rintro e w148 ⟨rfl, hb⟩
                           refine ⟨_, rfl, ?_⟩
                           replace HO_5 := RB HO_5 hb
                           replace HO_6 := RB HO_6 hb
                           replace HO_14 := RB HO_14 hb
                           replace BK397 := BB BK397 hb
                           replace BK398 := BB BK398 hb
                           replace BK403 := BB BK403 hb
                           replace BK425 := BB BK425 hb
                           replace HB := BS HB hb
                           clear hb
                           refine HN hK ⟨CE BK397 0, CE BK397 1, CE BK397 2, CE BK398 0, CE BK398 1⟩ (fun hHeld => ?_)
                           clear hK K
                           refine PU 9 132 HT_ ?_
                           refine PU 10 133 HT_ ?_
                           refine PU 11 134 HT_ ?_
                           refine TA 12 135 HT_ HW_ hHeld ?_
                           refine TA 13 136 HT_ HW_ hHeld ?_
                           refine TA 14 137 HT_ HW_ hHeld ?_
                           refine OG 15 138 HT_ Try.func24 (impl_LikeWalkers.calls k4 t389 t390 t391 t392 t393 t392 t393 3 false _ A87.out) (fun K hK => ?_)
                           rintro e w149 ⟨rfl, hb⟩
                           refine ⟨_, rfl, ?_⟩
                           replace HO_5 := RB HO_5 hb
                           replace HO_6 := RB HO_6 hb
                           replace HO_14 := RB HO_14 hb
                           replace BK397 := BB BK397 hb
                           replace BK398 := BB BK398 hb
                           replace BK403 := BB BK403 hb
                           replace BK425 := BB BK425 hb
                           replace HB := BS HB hb
                           clear hb
                           refine HN hK ⟨CE BK397 0, CE BK397 1, CE BK397 2, CE BK398 0, CE BK398 1⟩ (fun hHeld => ?_)
                           clear hK K
                           refine PU 16 139 HT_ ?_
                           refine PU 17 140 HT_ ?_
                           refine PX 18 141 HT_ ?_
                           refine PX 19 142 HT_ ?_
                           refine PX 20 143 HT_ ?_
                           refine PX 21 144 HT_ ?_
                           refine PX 22 145 HT_ ?_
                           refine PX 23 146 HT_ ?_
                           refine PX 24 147 HT_ ?_
                           refine PX 25 148 HT_ ?_
                           refine PX 26 149 HT_ ?_
                           refine PU 27 150 HT_ ?_
                           refine PU 28 151 HT_ ?_
                           refine PX 29 152 HT_ ?_
                           refine PX 30 153 HT_ ?_
                           refine PX 31 154 HT_ ?_
                           refine PX 32 155 HT_ ?_
                           refine PX 33 156 HT_ ?_
                           refine PX 34 157 HT_ ?_
                           refine PX 35 158 HT_ ?_
                           refine PX 36 159 HT_ ?_
                           refine PX 37 160 HT_ ?_
                           refine PX 38 161 HT_ ?_
                           refine PX 39 162 HT_ ?_
                           refine PX 40 163 HT_ ?_
                           refine PX 41 164 HT_ ?_
                           refine PX 42 165 HT_ ?_
                           refine PU 43 166 HT_ ?_
                           refine PU 44 2 HT_ ?_
                           refine done_ (done_of HT_.out (by kernel_rfl)) ?_
                           try go_wp2
                           go_ret
                           exact ⟨RZ, BZ⟩
                       ·as_aux_lemma =>
                         rw [if_neg c86] at H
                         have c86b0 : (t426 == ((t418.length : Int) == 1)) = false := by simpa using c86
                         (try (have c86b1 : decide (t426 = ((t418.length : Int) == 1)) = false := by simpa using c86))
                         (try (have c86b2 : (t426 == ((t418.length : Int) == 1)) = false := by simpa using c86))
                         (try (have c86b3 : ¬ (t426 = ((t418.length : Int) == 1)) := by simpa using c86))
                         clear c86
                         obtain rfl := Option.some.inj H
                         obtain ⟨Ao150, co150, eo150⟩ := Kd.R_slice HO_14.out
                         subst eo150
                         try go_wp2
                         replace HO_5 := Aside0.mk (Kd.R_drew HO_5.out)
                         replace HO_6 := Aside0.mk (Kd.R_drew HO_6.out)
                         replace HO_14 := Aside0.mk (Kd.R_drew HO_14.out)
                         replace BK397 := Aside0.mk (blk_drew BK397.out)
                         replace BK398 := Aside0.mk (blk_drew BK398.out)
                         replace BK403 := Aside0.mk (blk_drew BK403.out)
                         replace HB := Aside0.mk (below_drew1 HB.out)
                         refine ST 12 (fun w' => w'.cell? ⟨gb397, 0, none⟩ = some (.int .i64 t389) ∧ w'.cell? ⟨gb397, 1, none⟩ = some (.int .i64 t390) ∧ w'.cell? ⟨gb397, 2, none⟩ = some (.int .i64 t391)) [] laws_FnLocated.tab27 laws_FnLocated.bits27 ⟨CE BK397 0, CE BK397 1, CE BK397 2⟩ (fun hHeld HT_ HW_ => ?_)
                         generalize wr.drew = w151 at HO_5 HO_6 HO_14 BK397 BK398 BK403 HB hHeld ⊢
                         refine PU 0 113 HT_ ?_
                         refine PU 2 115 HT_ ?_
                         refine PU 6 119 HT_ ?_
                         refine TA 3 116 HT_ HW_ hHeld ?_
                         refine join_ (σ := Nat) 1 #[true, true, true, true, true, true, true, true, true, true, true, false] (fun s_ => [(114, .int .i64 t422), (117, .int .i64 t406), (120, .int .i64 t424), (17, .pointer (some ⟨s_, 0, none⟩)), (118, .int .i64 (Int.tmod t422 t406)), (121, .int .i64 (Int.tmod t424 4)), (122, .agg #[.int .i64 (Int.tmod t422 t406), .int .i64 (Int.tmod t424 4)])]) (fun s_ w' => (w'.cell? ⟨gb397, 0, none⟩ = some (.int .i64 t389) ∧ w'.cell? ⟨gb397, 1, none⟩ = some (.int .i64 t390) ∧ w'.cell? ⟨gb397, 2, none⟩ = some (.int .i64 t391)) ∧ (Kd.R k43 43 w' w.heap.size (fun k_ => k_ ≠ gb398 ∧ k_ ≠ gb403 ∧ k_ ≠ s_) (.slice Ao150 t418.length co150) t418) ∧ (Kd.R (Kd.int .i64) 3 w' w.heap.size (fun k_ => some k_ ≠ (.slice Ao71 t399.length co71 : Value).ownBlock) (.slice Ao13 t394.length co13) t394) ∧ (Kd.R (Kd.int .i64) 3 w' w.heap.size (fun k_ => some k_ ≠ (.slice Ao13 t394.length co13 : Value).ownBlock) (.slice Ao71 t399.length co71) t399) ∧ (w'.heap[gb397]? = some (.cells #[.int .i64 t389, .int .i64 t390, .int .i64 t391] 30 (0, 0))) ∧ (w'.heap[gb398]? = some (.cells #[.int .i64 t392, .int .i64 t393] 43 (0, 0))) ∧ (w'.heap[gb403]? = some (.cells #[.int .i64 x404000_2, .int .i64 x404001_2] 43 (0, 0))) ∧ (w'.heap[s_]? = some (.cells #[.int .i64 0, .int .i64 0] 43 (0, 0))) ∧ (w.heap.size ≤ s_) ∧ (w.heap.size ≤ s_) ∧ (gb397 ≠ s_) ∧ (s_ ≠ gb397) ∧ (gb398 ≠ s_) ∧ (s_ ≠ gb398) ∧ (gb403 ≠ s_) ∧ (s_ ≠ gb403) ∧ (Below w.heap.size w w')) ?_ ?_
                         rotate_left
                         ·as_aux_lemma =>
                           intro hCont
                           refine two_ (i := 1) (j := 10) (Ni := some 114) (Nj := some 17) #[true, true, true, true, false, false, true, false, false, false, false, false] #[true, false, true, true, false, false, true, false, false, false, true, false] rfl rfl rfl rfl (two_of HT_.out (by kernel_rfl)) (by decide) (by decide) (fun K hK => ?_) (fun K hK => ?_)
                           ·as_aux_lemma =>
                             skip
                             refine goes_ Try.func23 (by kernel_rfl) rfl #[.slice A0 l0.length c0, .int .i64 0] (by rfl) rfl rfl (by (try simp only [List.map_toArray, List.map_cons, List.map_nil]); first | done | rfl | (simp only [List.length_drop, List.length_take]; rfl)) ?_
                             with_reducible refine (laws_at.calls _ _ l0 0 t422 _ ?side1 ?side2 A80.out).mono ?_
                             (case side1 => repeat (first | exact (Kd.C_below HR0.out HB.out) | (with_reducible refine Kd.C_alloc ?_ _) | (with_reducible refine Kd.C_drewN ?_ _) | (with_reducible refine Kd.C_drew ?_)))
                             (case side2 => exact HC0.out)
                             rintro e w' ⟨rfl, ⟨nd, rfl⟩⟩
                             refine ⟨_, rfl, ?_⟩
                             refine HN hK ⟨CE BK397 0, CE BK397 1, CE BK397 2⟩ (fun hHeld => ?_)
                             clear hK K
                             refine two_ (i := 4) (j := 10) (Ni := some 117) (Nj := some 17) #[true, true, true, true, true, false, true, false, false, false, false, false] #[true, true, true, true, false, false, true, false, false, false, true, false] rfl rfl rfl rfl (two_of HT_.out (by kernel_rfl)) (by decide) (by decide) (fun K hK => ?_) (fun K hK => ?_)
                             ·as_aux_lemma =>
                               skip
                               refine goes_ Try.func22 (by kernel_rfl) rfl #[.agg #[.int .i64 t389, .int .i64 t390]] (by rfl) rfl rfl (by (try simp only [List.map_toArray, List.map_cons, List.map_nil]); first | done | rfl | (simp only [List.length_drop, List.length_take]; rfl)) ?_
                               with_reducible refine (spec_CountCells.calls t389 t390 t406 _ A81.out).mono ?_
                               rintro e w152 ⟨rfl, hb⟩
                               refine ⟨_, rfl, ?_⟩
                               replace HO_5 := RB HO_5 hb
                               replace HO_6 := RB HO_6 hb
                               replace HO_14 := RB HO_14 hb
                               replace BK397 := BB BK397 hb
                               replace BK398 := BB BK398 hb
                               replace BK403 := BB BK403 hb
                               replace HB := BS HB hb
                               clear hb
                               refine HN hK ⟨CE BK397 0, CE BK397 1, CE BK397 2⟩ (fun hHeld => ?_)
                               clear hK K
                               refine PU 5 118 HT_ ?_
                               refine two_ (i := 7) (j := 10) (Ni := some 120) (Nj := some 17) #[true, true, true, true, true, true, true, true, false, false, false, false] #[true, true, true, true, true, true, true, false, false, false, true, false] rfl rfl rfl rfl (two_of HT_.out (by kernel_rfl)) (by decide) (by decide) (fun K hK => ?_) (fun K hK => ?_)
                               ·skip
                                refine goes_ Try.func23 (by kernel_rfl) rfl #[.slice A0 l0.length c0, .int .i64 1] (by rfl) rfl rfl (by (try simp only [List.map_toArray, List.map_cons, List.map_nil]); first | done | rfl | (simp only [List.length_drop, List.length_take]; rfl)) ?_
                                with_reducible refine (laws_at.calls _ _ l0 1 t424 _ ?side1 ?side2 A83.out).mono ?_
                                (case side1 => repeat (first | exact (Kd.C_below HR0.out HB.out) | (with_reducible refine Kd.C_alloc ?_ _) | (with_reducible refine Kd.C_drewN ?_ _) | (with_reducible refine Kd.C_drew ?_)))
                                (case side2 => exact HC0.out)
                                rintro e w' ⟨rfl, ⟨nd, rfl⟩⟩
                                refine ⟨_, rfl, ?_⟩
                                refine HN hK ⟨CE BK397 0, CE BK397 1, CE BK397 2⟩ (fun hHeld => ?_)
                                clear hK K
                                refine PU 8 121 HT_ ?_
                                refine PU 9 122 HT_ ?_
                                refine one_ (i := 10) (N := some 17) #[true, true, true, true, true, true, true, true, true, true, true, false] rfl rfl (one_of HT_.out (by kernel_rfl)) (by decide) (fun K hK => ?_)
                                refine box_step ?hg (N := 17) ?hd (cs := #[.int .i64 0, .int .i64 0]) (t := 43) ?hr ?_; (case hd => rfl); (case hg => rfl); (case hr => first | (go_simp; done) | (go_simp; rfl))
                                intro gb425 hg w153 hbox hb
                                have BK425 := Aside0.mk (hbox)
                                have GW425 := (GS hg : Aside0 (w.heap.size ≤ gb425))
                                have GE425 := GW425
                                have NB397_425 := NL BK397 hg
                                have NB425_397 := NG BK397 hg
                                have NB398_425 := NL BK398 hg
                                have NB425_398 := NG BK398 hg
                                have NB403_425 := NL BK403 hg
                                have NB425_403 := NG BK403 hg
                                replace HO_5 := RB HO_5 hb
                                replace HO_6 := RB HO_6 hb
                                replace HO_14 := Aside0.mk (Kd.R_below (Kd.R_elderB (KR HO_14) gb425 (Nat.le_of_eq hg.symm)) hb)
                                replace BK397 := BB BK397 hb
                                replace BK398 := BB BK398 hb
                                replace BK403 := BB BK403 hb
                                replace HB := BS HB hb
                                clear hb hbox hg
                                refine HN hK ⟨CE BK397 0, CE BK397 1, CE BK397 2⟩ (fun hHeld => ?_)
                                clear hK K
                                exact norm_ (by simp only [putAll, Act.put, List.setIfInBounds_toArray, List.set_cons_zero, List.set_cons_succ]) (hCont (gb425) _ ⟨hHeld, (RT (Kd.R_mono HO_14.out (fun _ hk => ⟨hk.1.1, ⟨hk.1.2, hk.2⟩⟩))), (KR HO_5), (KR HO_6), BKZ, BKZ, BKZ, BKZ, GW425.out, GE425.out, NB397_425.out, NB425_397.out, NB398_425.out, NB425_398.out, NB403_425.out, NB425_403.out, BZ⟩)
                               ·skip
                                refine box_step ?hg (N := 17) ?hd (cs := #[.int .i64 0, .int .i64 0]) (t := 43) ?hr ?_; (case hd => rfl); (case hg => rfl); (case hr => first | (go_simp; done) | (go_simp; rfl))
                                intro gb425 hg w153 hbox hb
                                have BK425 := Aside0.mk (hbox)
                                have GW425 := (GS hg : Aside0 (w.heap.size ≤ gb425))
                                have GE425 := GW425
                                have NB397_425 := NL BK397 hg
                                have NB425_397 := NG BK397 hg
                                have NB398_425 := NL BK398 hg
                                have NB425_398 := NG BK398 hg
                                have NB403_425 := NL BK403 hg
                                have NB425_403 := NG BK403 hg
                                replace HO_5 := RB HO_5 hb
                                replace HO_6 := RB HO_6 hb
                                replace HO_14 := Aside0.mk (Kd.R_below (Kd.R_elderB (KR HO_14) gb425 (Nat.le_of_eq hg.symm)) hb)
                                replace BK397 := BB BK397 hb
                                replace BK398 := BB BK398 hb
                                replace BK403 := BB BK403 hb
                                replace HB := BS HB hb
                                clear hb hbox hg
                                refine HN hK ⟨CE BK397 0, CE BK397 1, CE BK397 2⟩ (fun hHeld => ?_)
                                clear hK K
                                refine OG 7 120 HT_ Try.func23 (laws_at.calls _ _ l0 1 t424 _ ?side1 ?side2 A83.out) (fun K hK => ?_)
                                (case side1 => repeat (first | exact (Kd.C_below HR0.out HB.out) | (with_reducible refine Kd.C_alloc ?_ _) | (with_reducible refine Kd.C_drewN ?_ _) | (with_reducible refine Kd.C_drew ?_)))
                                (case side2 => exact HC0.out)
                                rintro e w' ⟨rfl, ⟨nd, rfl⟩⟩
                                refine ⟨_, rfl, ?_⟩
                                refine HN hK ⟨CE BK397 0, CE BK397 1, CE BK397 2⟩ (fun hHeld => ?_)
                                clear hK K
                                refine PU 8 121 HT_ ?_
                                refine PU 9 122 HT_ ?_
                                exact norm_ (by simp only [putAll, Act.put, List.setIfInBounds_toArray, List.set_cons_zero, List.set_cons_succ]) (hCont (gb425) _ ⟨hHeld, (RT (Kd.R_mono HO_14.out (fun _ hk => ⟨hk.1.1, ⟨hk.1.2, hk.2⟩⟩))), (KR HO_5), (KR HO_6), BKZ, BKZ, BKZ, BKZ, GW425.out, GE425.out, NB397_425.out, NB425_397.out, NB398_425.out, NB425_398.out, NB403_425.out, NB425_403.out, BZ⟩)
                             ·skip
                              refine box_step ?hg (N := 17) ?hd (cs := #[.int .i64 0, .int .i64 0]) (t := 43) ?hr ?_; (case hd => rfl); (case hg => rfl); (case hr => first | (go_simp; done) | (go_simp; rfl))
                              intro gb425 hg w152 hbox hb
                              have BK425 := Aside0.mk (hbox)
                              have GW425 := (GS hg : Aside0 (w.heap.size ≤ gb425))
                              have GE425 := GW425
                              have NB397_425 := NL BK397 hg
                              have NB425_397 := NG BK397 hg
                              have NB398_425 := NL BK398 hg
                              have NB425_398 := NG BK398 hg
                              have NB403_425 := NL BK403 hg
                              have NB425_403 := NG BK403 hg
                              replace HO_5 := RB HO_5 hb
                              replace HO_6 := RB HO_6 hb
                              replace HO_14 := Aside0.mk (Kd.R_below (Kd.R_elderB (KR HO_14) gb425 (Nat.le_of_eq hg.symm)) hb)
                              replace BK397 := BB BK397 hb
                              replace BK398 := BB BK398 hb
                              replace BK403 := BB BK403 hb
                              replace HB := BS HB hb
                              clear hb hbox hg
                              refine HN hK ⟨CE BK397 0, CE BK397 1, CE BK397 2⟩ (fun hHeld => ?_)
                              clear hK K
                              refine OG 4 117 HT_ Try.func22 (spec_CountCells.calls t389 t390 t406 _ A81.out) (fun K hK => ?_)
                              rintro e w153 ⟨rfl, hb⟩
                              refine ⟨_, rfl, ?_⟩
                              replace HO_5 := RB HO_5 hb
                              replace HO_6 := RB HO_6 hb
                              replace HO_14 := RB HO_14 hb
                              replace BK397 := BB BK397 hb
                              replace BK398 := BB BK398 hb
                              replace BK403 := BB BK403 hb
                              replace BK425 := BB BK425 hb
                              replace HB := BS HB hb
                              clear hb
                              refine HN hK ⟨CE BK397 0, CE BK397 1, CE BK397 2⟩ (fun hHeld => ?_)
                              clear hK K
                              refine PU 5 118 HT_ ?_
                              refine OG 7 120 HT_ Try.func23 (laws_at.calls _ _ l0 1 t424 _ ?side1 ?side2 A83.out) (fun K hK => ?_)
                              (case side1 => repeat (first | exact (Kd.C_below HR0.out HB.out) | (with_reducible refine Kd.C_alloc ?_ _) | (with_reducible refine Kd.C_drewN ?_ _) | (with_reducible refine Kd.C_drew ?_)))
                              (case side2 => exact HC0.out)
                              rintro e w' ⟨rfl, ⟨nd, rfl⟩⟩
                              refine ⟨_, rfl, ?_⟩
                              refine HN hK ⟨CE BK397 0, CE BK397 1, CE BK397 2⟩ (fun hHeld => ?_)
                              clear hK K
                              refine PU 8 121 HT_ ?_
                              refine PU 9 122 HT_ ?_
                              exact norm_ (by simp only [putAll, Act.put, List.setIfInBounds_toArray, List.set_cons_zero, List.set_cons_succ]) (hCont (gb425) _ ⟨hHeld, (RT (Kd.R_mono HO_14.out (fun _ hk => ⟨hk.1.1, ⟨hk.1.2, hk.2⟩⟩))), (KR HO_5), (KR HO_6), BKZ, BKZ, BKZ, BKZ, GW425.out, GE425.out, NB397_425.out, NB425_397.out, NB398_425.out, NB425_398.out, NB403_425.out, NB425_403.out, BZ⟩)
                           ·skip
                            refine box_step ?hg (N := 17) ?hd (cs := #[.int .i64 0, .int .i64 0]) (t := 43) ?hr ?_; (case hd => rfl); (case hg => rfl); (case hr => first | (go_simp; done) | (go_simp; rfl))
                            intro gb425 hg w152 hbox hb
                            have BK425 := Aside0.mk (hbox)
                            have GW425 := (GS hg : Aside0 (w.heap.size ≤ gb425))
                            have GE425 := GW425
                            have NB397_425 := NL BK397 hg
                            have NB425_397 := NG BK397 hg
                            have NB398_425 := NL BK398 hg
                            have NB425_398 := NG BK398 hg
                            have NB403_425 := NL BK403 hg
                            have NB425_403 := NG BK403 hg
                            replace HO_5 := RB HO_5 hb
                            replace HO_6 := RB HO_6 hb
                            replace HO_14 := Aside0.mk (Kd.R_below (Kd.R_elderB (KR HO_14) gb425 (Nat.le_of_eq hg.symm)) hb)
                            replace BK397 := BB BK397 hb
                            replace BK398 := BB BK398 hb
                            replace BK403 := BB BK403 hb
                            replace HB := BS HB hb
                            clear hb hbox hg
                            refine HN hK ⟨CE BK397 0, CE BK397 1, CE BK397 2⟩ (fun hHeld => ?_)
                            clear hK K
                            refine OG 1 114 HT_ Try.func23 (laws_at.calls _ _ l0 0 t422 _ ?side1 ?side2 A80.out) (fun K hK => ?_)
                            (case side1 => repeat (first | exact (Kd.C_below HR0.out HB.out) | (with_reducible refine Kd.C_alloc ?_ _) | (with_reducible refine Kd.C_drewN ?_ _) | (with_reducible refine Kd.C_drew ?_)))
                            (case side2 => exact HC0.out)
                            rintro e w' ⟨rfl, ⟨nd, rfl⟩⟩
                            refine ⟨_, rfl, ?_⟩
                            refine HN hK ⟨CE BK397 0, CE BK397 1, CE BK397 2⟩ (fun hHeld => ?_)
                            clear hK K
                            refine OG 4 117 HT_ Try.func22 (spec_CountCells.calls t389 t390 t406 _ A81.out) (fun K hK => ?_)
                            rintro e w153 ⟨rfl, hb⟩
                            refine ⟨_, rfl, ?_⟩
                            replace HO_5 := RB HO_5 hb
                            replace HO_6 := RB HO_6 hb
                            replace HO_14 := RB HO_14 hb
                            replace BK397 := BB BK397 hb
                            replace BK398 := BB BK398 hb
                            replace BK403 := BB BK403 hb
                            replace BK425 := BB BK425 hb
                            replace HB := BS HB hb
                            clear hb
                            refine HN hK ⟨CE BK397 0, CE BK397 1, CE BK397 2⟩ (fun hHeld => ?_)
                            clear hK K
                            refine PU 5 118 HT_ ?_
                            refine OG 7 120 HT_ Try.func23 (laws_at.calls _ _ l0 1 t424 _ ?side1 ?side2 A83.out) (fun K hK => ?_)
                            (case side1 => repeat (first | exact (Kd.C_below HR0.out HB.out) | (with_reducible refine Kd.C_alloc ?_ _) | (with_reducible refine Kd.C_drewN ?_ _) | (with_reducible refine Kd.C_drew ?_)))
                            (case side2 => exact HC0.out)
                            rintro e w' ⟨rfl, ⟨nd, rfl⟩⟩
                            refine ⟨_, rfl, ?_⟩
                            refine HN hK ⟨CE BK397 0, CE BK397 1, CE BK397 2⟩ (fun hHeld => ?_)
                            clear hK K
                            refine PU 8 121 HT_ ?_
                            refine PU 9 122 HT_ ?_
                            exact norm_ (by simp only [putAll, Act.put, List.setIfInBounds_toArray, List.set_cons_zero, List.set_cons_succ]) (hCont (gb425) _ ⟨hHeld, (RT (Kd.R_mono HO_14.out (fun _ hk => ⟨hk.1.1, ⟨hk.1.2, hk.2⟩⟩))), (KR HO_5), (KR HO_6), BKZ, BKZ, BKZ, BKZ, GW425.out, GE425.out, NB397_425.out, NB425_397.out, NB398_425.out, NB425_398.out, NB403_425.out, NB425_403.out, BZ⟩)
                         rintro gb425 w154 ⟨hS_, h0_, h1_, h2_, h3_, h4_, h5_, h6_, h7_, h8_, h9_, h10_, h11_, h12_, h13_, h14_, h15_⟩
                         have n0_ : Aside0 (Kd.R k43 43 w154 w.heap.size (fun k_ => k_ ≠ gb398 ∧ k_ ≠ gb403 ∧ k_ ≠ gb425) (.slice Ao150 t418.length co150) t418) := ⟨h0_⟩
                         have n1_ : Aside0 (Kd.R (Kd.int .i64) 3 w154 w.heap.size (fun k_ => some k_ ≠ (.slice Ao71 t399.length co71 : Value).ownBlock) (.slice Ao13 t394.length co13) t394) := ⟨h1_⟩
                         have n2_ : Aside0 (Kd.R (Kd.int .i64) 3 w154 w.heap.size (fun k_ => some k_ ≠ (.slice Ao13 t394.length co13 : Value).ownBlock) (.slice Ao71 t399.length co71) t399) := ⟨h2_⟩
                         have n3_ : Aside0 (w154.heap[gb397]? = some (.cells #[.int .i64 t389, .int .i64 t390, .int .i64 t391] 30 (0, 0))) := ⟨h3_⟩
                         have n4_ : Aside0 (w154.heap[gb398]? = some (.cells #[.int .i64 t392, .int .i64 t393] 43 (0, 0))) := ⟨h4_⟩
                         have n5_ : Aside0 (w154.heap[gb403]? = some (.cells #[.int .i64 x404000_2, .int .i64 x404001_2] 43 (0, 0))) := ⟨h5_⟩
                         have n6_ : Aside0 (w154.heap[gb425]? = some (.cells #[.int .i64 0, .int .i64 0] 43 (0, 0))) := ⟨h6_⟩
                         have n7_ : Aside0 (w.heap.size ≤ gb425) := ⟨h7_⟩
                         have n8_ : Aside0 (w.heap.size ≤ gb425) := ⟨h8_⟩
                         have n9_ : Aside0 (gb397 ≠ gb425) := ⟨h9_⟩
                         have n10_ : Aside0 (gb425 ≠ gb397) := ⟨h10_⟩
                         have n11_ : Aside0 (gb398 ≠ gb425) := ⟨h11_⟩
                         have n12_ : Aside0 (gb425 ≠ gb398) := ⟨h12_⟩
                         have n13_ : Aside0 (gb403 ≠ gb425) := ⟨h13_⟩
                         have n14_ : Aside0 (gb425 ≠ gb403) := ⟨h14_⟩
                         have n15_ : Aside0 (Below w.heap.size w w154) := ⟨h15_⟩
                         clear HO_5
                         clear HO_6
                         clear HO_14
                         clear BK397
                         clear BK398
                         clear BK403
                         clear HB
                         clear h0_ h1_ h2_ h3_ h4_ h5_ h6_ h7_ h8_ h9_ h10_ h11_ h12_ h13_ h14_ h15_
                         have HO_14 := n0_
                         have HO_5 := n1_
                         have HO_6 := n2_
                         have BK397 := n3_
                         have BK398 := n4_
                         have BK403 := n5_
                         have BK425 := n6_
                         have GW425 := n7_
                         have GE425 := n8_
                         have NB397_425 := n9_
                         have NB425_397 := n10_
                         have NB398_425 := n11_
                         have NB425_398 := n12_
                         have NB403_425 := n13_
                         have NB425_403 := n14_
                         have HB := n15_
                         clear n0_ n1_ n2_ n3_ n4_ n5_ n6_ n7_ n8_ n9_ n10_ n11_ n12_ n13_ n14_ n15_
                         have hHeld : w154.cell? ⟨gb397, 0, none⟩ = some (.int .i64 t389) ∧ w154.cell? ⟨gb397, 1, none⟩ = some (.int .i64 t390) ∧ w154.cell? ⟨gb397, 2, none⟩ = some (.int .i64 t391) := hS_
                         refine norm_ (a' := ?_) ?_ ?_
                         rotate_left
                         ·simp only [putAll, Act.put, List.setIfInBounds_toArray, List.set_cons_zero, List.set_cons_succ]
                          rfl
                         refine one_ (i := 11) (N := none) #[true, true, true, true, true, true, true, true, true, true, true, true] rfl rfl (one_of HT_.out (by kernel_rfl)) (by decide) (fun K hK => ?_)
                         have hs155 : w154.cell? ⟨gb425, 0, none⟩ = some (.int .i64 0) := CE BK425 0
                         have hfs155 := blk_frozen BK425.out 0
                         have hns155_0 := NB397_425.out
                         have hns155_1 := NB398_425.out
                         have hns155_2 := NB403_425.out
                         have hms155_0 := NB425_397.out
                         have hms155_1 := NB425_398.out
                         have hms155_2 := NB425_403.out
                         have hs156 : w154.cell? ⟨gb425, 1, none⟩ = some (.int .i64 0) := CE BK425 1
                         have hfs156 := blk_frozen BK425.out 1
                         have hns156_0 := NB397_425.out
                         have hns156_1 := NB398_425.out
                         have hns156_2 := NB403_425.out
                         have hms156_0 := NB425_397.out
                         have hms156_1 := NB425_398.out
                         have hms156_2 := NB425_403.out
                         refine skip_ (w1 := ?_) (by rfl) rfl ?_ ?_
                         rotate_left
                         ·go_simp
                          rfl
                         refine hK.out _ _ ⟨(CF2 NB397_425.out (hHeld.1)), (CF2 NB397_425.out (hHeld.2.1)), (CF2 NB397_425.out (hHeld.2.2))⟩ (fun hHeld => ?_)
                         clear hK K
                         refine done_ (done_of HT_.out (by kernel_rfl)) ?_
                         try go_wp2
                         have n0_ : Aside0 (Kd.R (Kd.int .i64) 3 (S2W w154 gb425 (.int .i64 (Int.tmod t422 t406)) (.int .i64 (Int.tmod t424 4))) w.heap.size (fun k_ => some k_ ≠ (.slice Ao71 t399.length co71 : Value).ownBlock) (.slice Ao13 t394.length co13) t394) := ⟨RT (RF2 (Kd.R_types HO_5.out BK425.out (by decide)))⟩
                         have n1_ : Aside0 (Kd.R (Kd.int .i64) 3 (S2W w154 gb425 (.int .i64 (Int.tmod t422 t406)) (.int .i64 (Int.tmod t424 4))) w.heap.size (fun k_ => some k_ ≠ (.slice Ao13 t394.length co13 : Value).ownBlock) (.slice Ao71 t399.length co71) t399) := ⟨RT (RF2 (Kd.R_types HO_6.out BK425.out (by decide)))⟩
                         have n2_ : Aside0 (Kd.R k43 43 (S2W w154 gb425 (.int .i64 (Int.tmod t422 t406)) (.int .i64 (Int.tmod t424 4))) w.heap.size (fun k_ => k_ ≠ gb398 ∧ k_ ≠ gb403 ∧ k_ ≠ gb425) (.slice Ao150 t418.length co150) t418) := ⟨RT (Kd.R_mono (Kd.R_far (p := ⟨gb425, 1, none⟩) (Kd.R_far (p := ⟨gb425, 0, none⟩) (Kd.R_mono HO_14.out (fun k_ hk => (⟨hk, hk.2.2⟩ : _ ∧ k_ ≠ gb425))) (fun _ hk => hk.2) (.int .i64 (Int.tmod t422 t406))) (fun _ hk => hk.2) (.int .i64 (Int.tmod t424 4))) (fun _ hk => ⟨hk.1.1, ⟨hk.1.2.1, hk.1.2.2⟩⟩))⟩
                         have n3_ : Aside0 ((S2W w154 gb425 (.int .i64 (Int.tmod t422 t406)) (.int .i64 (Int.tmod t424 4))).heap[gb397]? = some (.cells #[.int .i64 t389, .int .i64 t390, .int .i64 t391] 30 (0, 0))) := ⟨BF2 NB397_425 BK397⟩
                         have n4_ : Aside0 ((S2W w154 gb425 (.int .i64 (Int.tmod t422 t406)) (.int .i64 (Int.tmod t424 4))).heap[gb398]? = some (.cells #[.int .i64 t392, .int .i64 t393] 43 (0, 0))) := ⟨BF2 NB398_425 BK398⟩
                         have n5_ : Aside0 ((S2W w154 gb425 (.int .i64 (Int.tmod t422 t406)) (.int .i64 (Int.tmod t424 4))).heap[gb403]? = some (.cells #[.int .i64 x404000_2, .int .i64 x404001_2] 43 (0, 0))) := ⟨BF2 NB403_425 BK403⟩
                         have n6_ : Aside0 ((S2W w154 gb425 (.int .i64 (Int.tmod t422 t406)) (.int .i64 (Int.tmod t424 4))).heap[gb425]? = some (.cells #[.int .i64 (Int.tmod t422 t406), .int .i64 (Int.tmod t424 4)] 43 (0, 0))) := ⟨PQ2 BK425⟩
                         have n7_ : Aside0 (Below w.heap.size w (S2W w154 gb425 (.int .i64 (Int.tmod t422 t406)) (.int .i64 (Int.tmod t424 4)))) := ⟨BZ⟩
                         (try clear HO_5)
                         (try clear HO_6)
                         (try clear HO_14)
                         (try clear BK397)
                         (try clear BK398)
                         (try clear BK403)
                         (try clear BK425)
                         (try clear HB)
                         (try dsimp only [S2W] at n0_ n1_ n2_ n3_ n4_ n5_ n6_ n7_); generalize ((w154.setCell ⟨gb425, 0, none⟩ (.int .i64 (Int.tmod t422 t406))).setCell ⟨gb425, 1, none⟩ (.int .i64 (Int.tmod t424 4))) = w157 at n0_ n1_ n2_ n3_ n4_ n5_ n6_ n7_ ⊢
                         have HO_5 := n0_
                         have HO_6 := n1_
                         have HO_14 := n2_
                         have BK397 := n3_
                         have BK398 := n4_
                         have BK403 := n5_
                         have BK425 := n6_
                         have HB := n7_
                         clear n0_ n1_ n2_ n3_ n4_ n5_ n6_ n7_
                         replace HO_5 := Aside0.mk (Kd.R_drew HO_5.out)
                         replace HO_6 := Aside0.mk (Kd.R_drew HO_6.out)
                         replace HO_14 := Aside0.mk (Kd.R_drew HO_14.out)
                         replace BK397 := Aside0.mk (blk_drew BK397.out)
                         replace BK398 := Aside0.mk (blk_drew BK398.out)
                         replace BK403 := Aside0.mk (blk_drew BK403.out)
                         replace BK425 := Aside0.mk (blk_drew BK425.out)
                         replace HB := Aside0.mk (below_drew1 HB.out)
                         refine ST 45 (fun w' => w'.cell? ⟨gb397, 0, none⟩ = some (.int .i64 t389) ∧ w'.cell? ⟨gb397, 1, none⟩ = some (.int .i64 t390) ∧ w'.cell? ⟨gb397, 2, none⟩ = some (.int .i64 t391)) [] laws_FnLocated.tab28 laws_FnLocated.bits28 ⟨CE BK397 0, CE BK397 1, CE BK397 2⟩ (fun hHeld HT_ HW_ => ?_)
                         generalize w157.drew = w158 at HO_5 HO_6 HO_14 BK397 BK398 BK403 BK425 HB hHeld ⊢
                         refine PU 0 123 HT_ ?_
                         refine PU 1 124 HT_ ?_
                         refine PU 3 126 HT_ ?_
                         refine PU 4 127 HT_ ?_
                         refine PU 6 129 HT_ ?_
                         refine PU 7 130 HT_ ?_
                         refine PU 8 131 HT_ ?_
                         refine TA 2 125 HT_ HW_ hHeld ?_
                         refine OG 5 128 HT_ Try.func10 (impl_IsLocated.calls k4 t389 t390 t391 _ _ t399 _ _ t394 t426 _ ?side1 ?side2 ?side3 ?side4 A85.out) (fun K hK => ?_)
                         (case side1 => repeat (first | exact (Kd.R_reads' HO_6.out).2.2 | (with_reducible refine Kd.C_alloc ?_ _) | (with_reducible refine Kd.C_drewN ?_ _) | (with_reducible refine Kd.C_drew ?_)))
                         (case side2 => exact (Kd.R_reads' HO_6.out).2.1)
                         (case side3 => repeat (first | exact (Kd.R_reads' HO_5.out).2.2 | (with_reducible refine Kd.C_alloc ?_ _) | (with_reducible refine Kd.C_drewN ?_ _) | (with_reducible refine Kd.C_drew ?_)))
                         (case side4 => exact (Kd.R_reads' HO_5.out).2.1)
                         rintro e w159 ⟨rfl, hb⟩
                         refine ⟨_, rfl, ?_⟩
                         replace HO_5 := RB HO_5 hb
                         replace HO_6 := RB HO_6 hb
                         replace HO_14 := RB HO_14 hb
                         replace BK397 := BB BK397 hb
                         replace BK398 := BB BK398 hb
                         replace BK403 := BB BK403 hb
                         replace BK425 := BB BK425 hb
                         replace HB := BS HB hb
                         clear hb
                         refine HN hK ⟨CE BK397 0, CE BK397 1, CE BK397 2⟩ (fun hHeld => ?_)
                         clear hK K
                         refine PU 9 132 HT_ ?_
                         refine PU 10 133 HT_ ?_
                         refine PU 11 134 HT_ ?_
                         refine PX 12 135 HT_ ?_
                         refine PX 13 136 HT_ ?_
                         refine PX 14 137 HT_ ?_
                         refine PX 15 138 HT_ ?_
                         refine PU 16 139 HT_ ?_
                         refine PU 17 140 HT_ ?_
                         refine PX 18 141 HT_ ?_
                         refine PX 19 142 HT_ ?_
                         refine PX 20 143 HT_ ?_
                         refine PX 21 144 HT_ ?_
                         refine PX 22 145 HT_ ?_
                         refine PX 23 146 HT_ ?_
                         refine PX 24 147 HT_ ?_
                         refine PX 25 148 HT_ ?_
                         refine PX 26 149 HT_ ?_
                         refine PU 27 150 HT_ ?_
                         refine PU 28 151 HT_ ?_
                         refine PX 29 152 HT_ ?_
                         refine PX 30 153 HT_ ?_
                         refine PX 31 154 HT_ ?_
                         refine PX 32 155 HT_ ?_
                         refine PX 33 156 HT_ ?_
                         refine PX 34 157 HT_ ?_
                         refine PX 35 158 HT_ ?_
                         refine PX 36 159 HT_ ?_
                         refine PX 37 160 HT_ ?_
                         refine PX 38 161 HT_ ?_
                         refine PX 39 162 HT_ ?_
                         refine PX 40 163 HT_ ?_
                         refine PX 41 164 HT_ ?_
                         refine PX 42 165 HT_ ?_
                         refine PU 43 166 HT_ ?_
                         refine PU 44 2 HT_ ?_
                         refine done_ (done_of HT_.out (by kernel_rfl)) ?_
                         try go_wp2
                         go_ret
                         exact ⟨RZ, BZ⟩
                     ·as_aux_lemma =>
                       replace c84 := Bool.eq_false_iff.mpr c84
                       subst c84
                       replace H := IE H
                       obtain rfl := Option.some.inj H
                       obtain ⟨Ao160, co160, eo160⟩ := Kd.R_slice HO_14.out
                       subst eo160
                       try go_wp2
                       replace HO_5 := Aside0.mk (Kd.R_drew HO_5.out)
                       replace HO_6 := Aside0.mk (Kd.R_drew HO_6.out)
                       replace HO_14 := Aside0.mk (Kd.R_drew HO_14.out)
                       replace BK397 := Aside0.mk (blk_drew BK397.out)
                       replace BK398 := Aside0.mk (blk_drew BK398.out)
                       replace BK403 := Aside0.mk (blk_drew BK403.out)
                       replace HB := Aside0.mk (below_drew1 HB.out)
                       refine ST 12 (fun w' => w'.cell? ⟨gb397, 0, none⟩ = some (.int .i64 t389) ∧ w'.cell? ⟨gb397, 1, none⟩ = some (.int .i64 t390) ∧ w'.cell? ⟨gb397, 2, none⟩ = some (.int .i64 t391)) [] laws_FnLocated.tab27 laws_FnLocated.bits27 ⟨CE BK397 0, CE BK397 1, CE BK397 2⟩ (fun hHeld HT_ HW_ => ?_)
                       generalize wr.drew = w161 at HO_5 HO_6 HO_14 BK397 BK398 BK403 HB hHeld ⊢
                       refine PU 0 113 HT_ ?_
                       refine PU 2 115 HT_ ?_
                       refine PU 6 119 HT_ ?_
                       refine TA 3 116 HT_ HW_ hHeld ?_
                       refine join_ (σ := Nat) 1 #[true, true, true, true, true, true, true, true, true, true, true, false] (fun s_ => [(114, .int .i64 t422), (117, .int .i64 t406), (120, .int .i64 t424), (17, .pointer (some ⟨s_, 0, none⟩)), (118, .int .i64 (Int.tmod t422 t406)), (121, .int .i64 (Int.tmod t424 4)), (122, .agg #[.int .i64 (Int.tmod t422 t406), .int .i64 (Int.tmod t424 4)])]) (fun s_ w' => (w'.cell? ⟨gb397, 0, none⟩ = some (.int .i64 t389) ∧ w'.cell? ⟨gb397, 1, none⟩ = some (.int .i64 t390) ∧ w'.cell? ⟨gb397, 2, none⟩ = some (.int .i64 t391)) ∧ (Kd.R k43 43 w' w.heap.size (fun k_ => k_ ≠ gb398 ∧ k_ ≠ gb403 ∧ k_ ≠ s_) (.slice Ao160 t418.length co160) t418) ∧ (Kd.R (Kd.int .i64) 3 w' w.heap.size (fun k_ => some k_ ≠ (.slice Ao71 t399.length co71 : Value).ownBlock) (.slice Ao13 t394.length co13) t394) ∧ (Kd.R (Kd.int .i64) 3 w' w.heap.size (fun k_ => some k_ ≠ (.slice Ao13 t394.length co13 : Value).ownBlock) (.slice Ao71 t399.length co71) t399) ∧ (w'.heap[gb397]? = some (.cells #[.int .i64 t389, .int .i64 t390, .int .i64 t391] 30 (0, 0))) ∧ (w'.heap[gb398]? = some (.cells #[.int .i64 t392, .int .i64 t393] 43 (0, 0))) ∧ (w'.heap[gb403]? = some (.cells #[.int .i64 x404000_2, .int .i64 x404001_2] 43 (0, 0))) ∧ (w'.heap[s_]? = some (.cells #[.int .i64 0, .int .i64 0] 43 (0, 0))) ∧ (w.heap.size ≤ s_) ∧ (w.heap.size ≤ s_) ∧ (gb397 ≠ s_) ∧ (s_ ≠ gb397) ∧ (gb398 ≠ s_) ∧ (s_ ≠ gb398) ∧ (gb403 ≠ s_) ∧ (s_ ≠ gb403) ∧ (Below w.heap.size w w')) ?_ ?_
                       rotate_left
                       ·as_aux_lemma =>
                         intro hCont
                         refine two_ (i := 1) (j := 10) (Ni := some 114) (Nj := some 17) #[true, true, true, true, false, false, true, false, false, false, false, false] #[true, false, true, true, false, false, true, false, false, false, true, false] rfl rfl rfl rfl (two_of HT_.out (by kernel_rfl)) (by decide) (by decide) (fun K hK => ?_) (fun K hK => ?_)
                         ·as_aux_lemma =>
                           skip
                           refine goes_ Try.func23 (by kernel_rfl) rfl #[.slice A0 l0.length c0, .int .i64 0] (by rfl) rfl rfl (by (try simp only [List.map_toArray, List.map_cons, List.map_nil]); first | done | rfl | (simp only [List.length_drop, List.length_take]; rfl)) ?_
                           with_reducible refine (laws_at.calls _ _ l0 0 t422 _ ?side1 ?side2 A80.out).mono ?_
                           (case side1 => repeat (first | exact (Kd.C_below HR0.out HB.out) | (with_reducible refine Kd.C_alloc ?_ _) | (with_reducible refine Kd.C_drewN ?_ _) | (with_reducible refine Kd.C_drew ?_)))
                           (case side2 => exact HC0.out)
                           rintro e w' ⟨rfl, ⟨nd, rfl⟩⟩
                           refine ⟨_, rfl, ?_⟩
                           refine HN hK ⟨CE BK397 0, CE BK397 1, CE BK397 2⟩ (fun hHeld => ?_)
                           clear hK K
                           refine two_ (i := 4) (j := 10) (Ni := some 117) (Nj := some 17) #[true, true, true, true, true, false, true, false, false, false, false, false] #[true, true, true, true, false, false, true, false, false, false, true, false] rfl rfl rfl rfl (two_of HT_.out (by kernel_rfl)) (by decide) (by decide) (fun K hK => ?_) (fun K hK => ?_)
                           ·as_aux_lemma =>
                             skip
                             refine goes_ Try.func22 (by kernel_rfl) rfl #[.agg #[.int .i64 t389, .int .i64 t390]] (by rfl) rfl rfl (by (try simp only [List.map_toArray, List.map_cons, List.map_nil]); first | done | rfl | (simp only [List.length_drop, List.length_take]; rfl)) ?_
                             with_reducible refine (spec_CountCells.calls t389 t390 t406 _ A81.out).mono ?_
                             rintro e w162 ⟨rfl, hb⟩
                             refine ⟨_, rfl, ?_⟩
                             replace HO_5 := RB HO_5 hb
                             replace HO_6 := RB HO_6 hb
                             replace HO_14 := RB HO_14 hb
                             replace BK397 := BB BK397 hb
                             replace BK398 := BB BK398 hb
                             replace BK403 := BB BK403 hb
                             replace HB := BS HB hb
                             clear hb
                             refine HN hK ⟨CE BK397 0, CE BK397 1, CE BK397 2⟩ (fun hHeld => ?_)
                             clear hK K
                             refine PU 5 118 HT_ ?_
                             refine two_ (i := 7) (j := 10) (Ni := some 120) (Nj := some 17) #[true, true, true, true, true, true, true, true, false, false, false, false] #[true, true, true, true, true, true, true, false, false, false, true, false] rfl rfl rfl rfl (two_of HT_.out (by kernel_rfl)) (by decide) (by decide) (fun K hK => ?_) (fun K hK => ?_)
                             ·skip
                              refine goes_ Try.func23 (by kernel_rfl) rfl #[.slice A0 l0.length c0, .int .i64 1] (by rfl) rfl rfl (by (try simp only [List.map_toArray, List.map_cons, List.map_nil]); first | done | rfl | (simp only [List.length_drop, List.length_take]; rfl)) ?_
                              with_reducible refine (laws_at.calls _ _ l0 1 t424 _ ?side1 ?side2 A83.out).mono ?_
                              (case side1 => repeat (first | exact (Kd.C_below HR0.out HB.out) | (with_reducible refine Kd.C_alloc ?_ _) | (with_reducible refine Kd.C_drewN ?_ _) | (with_reducible refine Kd.C_drew ?_)))
                              (case side2 => exact HC0.out)
                              rintro e w' ⟨rfl, ⟨nd, rfl⟩⟩
                              refine ⟨_, rfl, ?_⟩
                              refine HN hK ⟨CE BK397 0, CE BK397 1, CE BK397 2⟩ (fun hHeld => ?_)
                              clear hK K
                              refine PU 8 121 HT_ ?_
                              refine PU 9 122 HT_ ?_
                              refine one_ (i := 10) (N := some 17) #[true, true, true, true, true, true, true, true, true, true, true, false] rfl rfl (one_of HT_.out (by kernel_rfl)) (by decide) (fun K hK => ?_)
                              refine box_step ?hg (N := 17) ?hd (cs := #[.int .i64 0, .int .i64 0]) (t := 43) ?hr ?_; (case hd => rfl); (case hg => rfl); (case hr => first | (go_simp; done) | (go_simp; rfl))
                              intro gb425 hg w163 hbox hb
                              have BK425 := Aside0.mk (hbox)
                              have GW425 := (GS hg : Aside0 (w.heap.size ≤ gb425))
                              have GE425 := GW425
                              have NB397_425 := NL BK397 hg
                              have NB425_397 := NG BK397 hg
                              have NB398_425 := NL BK398 hg
                              have NB425_398 := NG BK398 hg
                              have NB403_425 := NL BK403 hg
                              have NB425_403 := NG BK403 hg
                              replace HO_5 := RB HO_5 hb
                              replace HO_6 := RB HO_6 hb
                              replace HO_14 := Aside0.mk (Kd.R_below (Kd.R_elderB (KR HO_14) gb425 (Nat.le_of_eq hg.symm)) hb)
                              replace BK397 := BB BK397 hb
                              replace BK398 := BB BK398 hb
                              replace BK403 := BB BK403 hb
                              replace HB := BS HB hb
                              clear hb hbox hg
                              refine HN hK ⟨CE BK397 0, CE BK397 1, CE BK397 2⟩ (fun hHeld => ?_)
                              clear hK K
                              exact norm_ (by simp only [putAll, Act.put, List.setIfInBounds_toArray, List.set_cons_zero, List.set_cons_succ]) (hCont (gb425) _ ⟨hHeld, (RT (Kd.R_mono HO_14.out (fun _ hk => ⟨hk.1.1, ⟨hk.1.2, hk.2⟩⟩))), (KR HO_5), (KR HO_6), BKZ, BKZ, BKZ, BKZ, GW425.out, GE425.out, NB397_425.out, NB425_397.out, NB398_425.out, NB425_398.out, NB403_425.out, NB425_403.out, BZ⟩)
                             ·skip
                              refine box_step ?hg (N := 17) ?hd (cs := #[.int .i64 0, .int .i64 0]) (t := 43) ?hr ?_; (case hd => rfl); (case hg => rfl); (case hr => first | (go_simp; done) | (go_simp; rfl))
                              intro gb425 hg w163 hbox hb
                              have BK425 := Aside0.mk (hbox)
                              have GW425 := (GS hg : Aside0 (w.heap.size ≤ gb425))
                              have GE425 := GW425
                              have NB397_425 := NL BK397 hg
                              have NB425_397 := NG BK397 hg
                              have NB398_425 := NL BK398 hg
                              have NB425_398 := NG BK398 hg
                              have NB403_425 := NL BK403 hg
                              have NB425_403 := NG BK403 hg
                              replace HO_5 := RB HO_5 hb
                              replace HO_6 := RB HO_6 hb
                              replace HO_14 := Aside0.mk (Kd.R_below (Kd.R_elderB (KR HO_14) gb425 (Nat.le_of_eq hg.symm)) hb)
                              replace BK397 := BB BK397 hb
                              replace BK398 := BB BK398 hb
                              replace BK403 := BB BK403 hb
                              replace HB := BS HB hb
                              clear hb hbox hg
                              refine HN hK ⟨CE BK397 0, CE BK397 1, CE BK397 2⟩ (fun hHeld => ?_)
                              clear hK K
                              refine OG 7 120 HT_ Try.func23 (laws_at.calls _ _ l0 1 t424 _ ?side1 ?side2 A83.out) (fun K hK => ?_)
                              (case side1 => repeat (first | exact (Kd.C_below HR0.out HB.out) | (with_reducible refine Kd.C_alloc ?_ _) | (with_reducible refine Kd.C_drewN ?_ _) | (with_reducible refine Kd.C_drew ?_)))
                              (case side2 => exact HC0.out)
                              rintro e w' ⟨rfl, ⟨nd, rfl⟩⟩
                              refine ⟨_, rfl, ?_⟩
                              refine HN hK ⟨CE BK397 0, CE BK397 1, CE BK397 2⟩ (fun hHeld => ?_)
                              clear hK K
                              refine PU 8 121 HT_ ?_
                              refine PU 9 122 HT_ ?_
                              exact norm_ (by simp only [putAll, Act.put, List.setIfInBounds_toArray, List.set_cons_zero, List.set_cons_succ]) (hCont (gb425) _ ⟨hHeld, (RT (Kd.R_mono HO_14.out (fun _ hk => ⟨hk.1.1, ⟨hk.1.2, hk.2⟩⟩))), (KR HO_5), (KR HO_6), BKZ, BKZ, BKZ, BKZ, GW425.out, GE425.out, NB397_425.out, NB425_397.out, NB398_425.out, NB425_398.out, NB403_425.out, NB425_403.out, BZ⟩)
                           ·skip
                            refine box_step ?hg (N := 17) ?hd (cs := #[.int .i64 0, .int .i64 0]) (t := 43) ?hr ?_; (case hd => rfl); (case hg => rfl); (case hr => first | (go_simp; done) | (go_simp; rfl))
                            intro gb425 hg w162 hbox hb
                            have BK425 := Aside0.mk (hbox)
                            have GW425 := (GS hg : Aside0 (w.heap.size ≤ gb425))
                            have GE425 := GW425
                            have NB397_425 := NL BK397 hg
                            have NB425_397 := NG BK397 hg
                            have NB398_425 := NL BK398 hg
                            have NB425_398 := NG BK398 hg
                            have NB403_425 := NL BK403 hg
                            have NB425_403 := NG BK403 hg
                            replace HO_5 := RB HO_5 hb
                            replace HO_6 := RB HO_6 hb
                            replace HO_14 := Aside0.mk (Kd.R_below (Kd.R_elderB (KR HO_14) gb425 (Nat.le_of_eq hg.symm)) hb)
                            replace BK397 := BB BK397 hb
                            replace BK398 := BB BK398 hb
                            replace BK403 := BB BK403 hb
                            replace HB := BS HB hb
                            clear hb hbox hg
                            refine HN hK ⟨CE BK397 0, CE BK397 1, CE BK397 2⟩ (fun hHeld => ?_)
                            clear hK K
                            refine OG 4 117 HT_ Try.func22 (spec_CountCells.calls t389 t390 t406 _ A81.out) (fun K hK => ?_)
                            rintro e w163 ⟨rfl, hb⟩
                            refine ⟨_, rfl, ?_⟩
                            replace HO_5 := RB HO_5 hb
                            replace HO_6 := RB HO_6 hb
                            replace HO_14 := RB HO_14 hb
                            replace BK397 := BB BK397 hb
                            replace BK398 := BB BK398 hb
                            replace BK403 := BB BK403 hb
                            replace BK425 := BB BK425 hb
                            replace HB := BS HB hb
                            clear hb
                            refine HN hK ⟨CE BK397 0, CE BK397 1, CE BK397 2⟩ (fun hHeld => ?_)
                            clear hK K
                            refine PU 5 118 HT_ ?_
                            refine OG 7 120 HT_ Try.func23 (laws_at.calls _ _ l0 1 t424 _ ?side1 ?side2 A83.out) (fun K hK => ?_)
                            (case side1 => repeat (first | exact (Kd.C_below HR0.out HB.out) | (with_reducible refine Kd.C_alloc ?_ _) | (with_reducible refine Kd.C_drewN ?_ _) | (with_reducible refine Kd.C_drew ?_)))
                            (case side2 => exact HC0.out)
                            rintro e w' ⟨rfl, ⟨nd, rfl⟩⟩
                            refine ⟨_, rfl, ?_⟩
                            refine HN hK ⟨CE BK397 0, CE BK397 1, CE BK397 2⟩ (fun hHeld => ?_)
                            clear hK K
                            refine PU 8 121 HT_ ?_
                            refine PU 9 122 HT_ ?_
                            exact norm_ (by simp only [putAll, Act.put, List.setIfInBounds_toArray, List.set_cons_zero, List.set_cons_succ]) (hCont (gb425) _ ⟨hHeld, (RT (Kd.R_mono HO_14.out (fun _ hk => ⟨hk.1.1, ⟨hk.1.2, hk.2⟩⟩))), (KR HO_5), (KR HO_6), BKZ, BKZ, BKZ, BKZ, GW425.out, GE425.out, NB397_425.out, NB425_397.out, NB398_425.out, NB425_398.out, NB403_425.out, NB425_403.out, BZ⟩)
                         ·skip
                          refine box_step ?hg (N := 17) ?hd (cs := #[.int .i64 0, .int .i64 0]) (t := 43) ?hr ?_; (case hd => rfl); (case hg => rfl); (case hr => first | (go_simp; done) | (go_simp; rfl))
                          intro gb425 hg w162 hbox hb
                          have BK425 := Aside0.mk (hbox)
                          have GW425 := (GS hg : Aside0 (w.heap.size ≤ gb425))
                          have GE425 := GW425
                          have NB397_425 := NL BK397 hg
                          have NB425_397 := NG BK397 hg
                          have NB398_425 := NL BK398 hg
                          have NB425_398 := NG BK398 hg
                          have NB403_425 := NL BK403 hg
                          have NB425_403 := NG BK403 hg
                          replace HO_5 := RB HO_5 hb
                          replace HO_6 := RB HO_6 hb
                          replace HO_14 := Aside0.mk (Kd.R_below (Kd.R_elderB (KR HO_14) gb425 (Nat.le_of_eq hg.symm)) hb)
                          replace BK397 := BB BK397 hb
                          replace BK398 := BB BK398 hb
                          replace BK403 := BB BK403 hb
                          replace HB := BS HB hb
                          clear hb hbox hg
                          refine HN hK ⟨CE BK397 0, CE BK397 1, CE BK397 2⟩ (fun hHeld => ?_)
                          clear hK K
                          refine OG 1 114 HT_ Try.func23 (laws_at.calls _ _ l0 0 t422 _ ?side1 ?side2 A80.out) (fun K hK => ?_)
                          (case side1 => repeat (first | exact (Kd.C_below HR0.out HB.out) | (with_reducible refine Kd.C_alloc ?_ _) | (with_reducible refine Kd.C_drewN ?_ _) | (with_reducible refine Kd.C_drew ?_)))
                          (case side2 => exact HC0.out)
                          rintro e w' ⟨rfl, ⟨nd, rfl⟩⟩
                          refine ⟨_, rfl, ?_⟩
                          refine HN hK ⟨CE BK397 0, CE BK397 1, CE BK397 2⟩ (fun hHeld => ?_)
                          clear hK K
                          refine OG 4 117 HT_ Try.func22 (spec_CountCells.calls t389 t390 t406 _ A81.out) (fun K hK => ?_)
                          rintro e w163 ⟨rfl, hb⟩
                          refine ⟨_, rfl, ?_⟩
                          replace HO_5 := RB HO_5 hb
                          replace HO_6 := RB HO_6 hb
                          replace HO_14 := RB HO_14 hb
                          replace BK397 := BB BK397 hb
                          replace BK398 := BB BK398 hb
                          replace BK403 := BB BK403 hb
                          replace BK425 := BB BK425 hb
                          replace HB := BS HB hb
                          clear hb
                          refine HN hK ⟨CE BK397 0, CE BK397 1, CE BK397 2⟩ (fun hHeld => ?_)
                          clear hK K
                          refine PU 5 118 HT_ ?_
                          refine OG 7 120 HT_ Try.func23 (laws_at.calls _ _ l0 1 t424 _ ?side1 ?side2 A83.out) (fun K hK => ?_)
                          (case side1 => repeat (first | exact (Kd.C_below HR0.out HB.out) | (with_reducible refine Kd.C_alloc ?_ _) | (with_reducible refine Kd.C_drewN ?_ _) | (with_reducible refine Kd.C_drew ?_)))
                          (case side2 => exact HC0.out)
                          rintro e w' ⟨rfl, ⟨nd, rfl⟩⟩
                          refine ⟨_, rfl, ?_⟩
                          refine HN hK ⟨CE BK397 0, CE BK397 1, CE BK397 2⟩ (fun hHeld => ?_)
                          clear hK K
                          refine PU 8 121 HT_ ?_
                          refine PU 9 122 HT_ ?_
                          exact norm_ (by simp only [putAll, Act.put, List.setIfInBounds_toArray, List.set_cons_zero, List.set_cons_succ]) (hCont (gb425) _ ⟨hHeld, (RT (Kd.R_mono HO_14.out (fun _ hk => ⟨hk.1.1, ⟨hk.1.2, hk.2⟩⟩))), (KR HO_5), (KR HO_6), BKZ, BKZ, BKZ, BKZ, GW425.out, GE425.out, NB397_425.out, NB425_397.out, NB398_425.out, NB425_398.out, NB403_425.out, NB425_403.out, BZ⟩)
                       rintro gb425 w164 ⟨hS_, h0_, h1_, h2_, h3_, h4_, h5_, h6_, h7_, h8_, h9_, h10_, h11_, h12_, h13_, h14_, h15_⟩
                       have n0_ : Aside0 (Kd.R k43 43 w164 w.heap.size (fun k_ => k_ ≠ gb398 ∧ k_ ≠ gb403 ∧ k_ ≠ gb425) (.slice Ao160 t418.length co160) t418) := ⟨h0_⟩
                       have n1_ : Aside0 (Kd.R (Kd.int .i64) 3 w164 w.heap.size (fun k_ => some k_ ≠ (.slice Ao71 t399.length co71 : Value).ownBlock) (.slice Ao13 t394.length co13) t394) := ⟨h1_⟩
                       have n2_ : Aside0 (Kd.R (Kd.int .i64) 3 w164 w.heap.size (fun k_ => some k_ ≠ (.slice Ao13 t394.length co13 : Value).ownBlock) (.slice Ao71 t399.length co71) t399) := ⟨h2_⟩
                       have n3_ : Aside0 (w164.heap[gb397]? = some (.cells #[.int .i64 t389, .int .i64 t390, .int .i64 t391] 30 (0, 0))) := ⟨h3_⟩
                       have n4_ : Aside0 (w164.heap[gb398]? = some (.cells #[.int .i64 t392, .int .i64 t393] 43 (0, 0))) := ⟨h4_⟩
                       have n5_ : Aside0 (w164.heap[gb403]? = some (.cells #[.int .i64 x404000_2, .int .i64 x404001_2] 43 (0, 0))) := ⟨h5_⟩
                       have n6_ : Aside0 (w164.heap[gb425]? = some (.cells #[.int .i64 0, .int .i64 0] 43 (0, 0))) := ⟨h6_⟩
                       have n7_ : Aside0 (w.heap.size ≤ gb425) := ⟨h7_⟩
                       have n8_ : Aside0 (w.heap.size ≤ gb425) := ⟨h8_⟩
                       have n9_ : Aside0 (gb397 ≠ gb425) := ⟨h9_⟩
                       have n10_ : Aside0 (gb425 ≠ gb397) := ⟨h10_⟩
                       have n11_ : Aside0 (gb398 ≠ gb425) := ⟨h11_⟩
                       have n12_ : Aside0 (gb425 ≠ gb398) := ⟨h12_⟩
                       have n13_ : Aside0 (gb403 ≠ gb425) := ⟨h13_⟩
                       have n14_ : Aside0 (gb425 ≠ gb403) := ⟨h14_⟩
                       have n15_ : Aside0 (Below w.heap.size w w164) := ⟨h15_⟩
                       clear HO_5
                       clear HO_6
                       clear HO_14
                       clear BK397
                       clear BK398
                       clear BK403
                       clear HB
                       clear h0_ h1_ h2_ h3_ h4_ h5_ h6_ h7_ h8_ h9_ h10_ h11_ h12_ h13_ h14_ h15_
                       have HO_14 := n0_
                       have HO_5 := n1_
                       have HO_6 := n2_
                       have BK397 := n3_
                       have BK398 := n4_
                       have BK403 := n5_
                       have BK425 := n6_
                       have GW425 := n7_
                       have GE425 := n8_
                       have NB397_425 := n9_
                       have NB425_397 := n10_
                       have NB398_425 := n11_
                       have NB425_398 := n12_
                       have NB403_425 := n13_
                       have NB425_403 := n14_
                       have HB := n15_
                       clear n0_ n1_ n2_ n3_ n4_ n5_ n6_ n7_ n8_ n9_ n10_ n11_ n12_ n13_ n14_ n15_
                       have hHeld : w164.cell? ⟨gb397, 0, none⟩ = some (.int .i64 t389) ∧ w164.cell? ⟨gb397, 1, none⟩ = some (.int .i64 t390) ∧ w164.cell? ⟨gb397, 2, none⟩ = some (.int .i64 t391) := hS_
                       refine norm_ (a' := ?_) ?_ ?_
                       rotate_left
                       ·simp only [putAll, Act.put, List.setIfInBounds_toArray, List.set_cons_zero, List.set_cons_succ]
                        rfl
                       refine one_ (i := 11) (N := none) #[true, true, true, true, true, true, true, true, true, true, true, true] rfl rfl (one_of HT_.out (by kernel_rfl)) (by decide) (fun K hK => ?_)
                       have hs165 : w164.cell? ⟨gb425, 0, none⟩ = some (.int .i64 0) := CE BK425 0
                       have hfs165 := blk_frozen BK425.out 0
                       have hns165_0 := NB397_425.out
                       have hns165_1 := NB398_425.out
                       have hns165_2 := NB403_425.out
                       have hms165_0 := NB425_397.out
                       have hms165_1 := NB425_398.out
                       have hms165_2 := NB425_403.out
                       have hs166 : w164.cell? ⟨gb425, 1, none⟩ = some (.int .i64 0) := CE BK425 1
                       have hfs166 := blk_frozen BK425.out 1
                       have hns166_0 := NB397_425.out
                       have hns166_1 := NB398_425.out
                       have hns166_2 := NB403_425.out
                       have hms166_0 := NB425_397.out
                       have hms166_1 := NB425_398.out
                       have hms166_2 := NB425_403.out
                       refine skip_ (w1 := ?_) (by rfl) rfl ?_ ?_
                       rotate_left
                       ·go_simp
                        rfl
                       refine hK.out _ _ ⟨(CF2 NB397_425.out (hHeld.1)), (CF2 NB397_425.out (hHeld.2.1)), (CF2 NB397_425.out (hHeld.2.2))⟩ (fun hHeld => ?_)
                       clear hK K
                       refine done_ (done_of HT_.out (by kernel_rfl)) ?_
                       try go_wp2
                       have n0_ : Aside0 (Kd.R (Kd.int .i64) 3 (S2W w164 gb425 (.int .i64 (Int.tmod t422 t406)) (.int .i64 (Int.tmod t424 4))) w.heap.size (fun k_ => some k_ ≠ (.slice Ao71 t399.length co71 : Value).ownBlock) (.slice Ao13 t394.length co13) t394) := ⟨RT (RF2 (Kd.R_types HO_5.out BK425.out (by decide)))⟩
                       have n1_ : Aside0 (Kd.R (Kd.int .i64) 3 (S2W w164 gb425 (.int .i64 (Int.tmod t422 t406)) (.int .i64 (Int.tmod t424 4))) w.heap.size (fun k_ => some k_ ≠ (.slice Ao13 t394.length co13 : Value).ownBlock) (.slice Ao71 t399.length co71) t399) := ⟨RT (RF2 (Kd.R_types HO_6.out BK425.out (by decide)))⟩
                       have n2_ : Aside0 (Kd.R k43 43 (S2W w164 gb425 (.int .i64 (Int.tmod t422 t406)) (.int .i64 (Int.tmod t424 4))) w.heap.size (fun k_ => k_ ≠ gb398 ∧ k_ ≠ gb403 ∧ k_ ≠ gb425) (.slice Ao160 t418.length co160) t418) := ⟨RT (Kd.R_mono (Kd.R_far (p := ⟨gb425, 1, none⟩) (Kd.R_far (p := ⟨gb425, 0, none⟩) (Kd.R_mono HO_14.out (fun k_ hk => (⟨hk, hk.2.2⟩ : _ ∧ k_ ≠ gb425))) (fun _ hk => hk.2) (.int .i64 (Int.tmod t422 t406))) (fun _ hk => hk.2) (.int .i64 (Int.tmod t424 4))) (fun _ hk => ⟨hk.1.1, ⟨hk.1.2.1, hk.1.2.2⟩⟩))⟩
                       have n3_ : Aside0 ((S2W w164 gb425 (.int .i64 (Int.tmod t422 t406)) (.int .i64 (Int.tmod t424 4))).heap[gb397]? = some (.cells #[.int .i64 t389, .int .i64 t390, .int .i64 t391] 30 (0, 0))) := ⟨BF2 NB397_425 BK397⟩
                       have n4_ : Aside0 ((S2W w164 gb425 (.int .i64 (Int.tmod t422 t406)) (.int .i64 (Int.tmod t424 4))).heap[gb398]? = some (.cells #[.int .i64 t392, .int .i64 t393] 43 (0, 0))) := ⟨BF2 NB398_425 BK398⟩
                       have n5_ : Aside0 ((S2W w164 gb425 (.int .i64 (Int.tmod t422 t406)) (.int .i64 (Int.tmod t424 4))).heap[gb403]? = some (.cells #[.int .i64 x404000_2, .int .i64 x404001_2] 43 (0, 0))) := ⟨BF2 NB403_425 BK403⟩
                       have n6_ : Aside0 ((S2W w164 gb425 (.int .i64 (Int.tmod t422 t406)) (.int .i64 (Int.tmod t424 4))).heap[gb425]? = some (.cells #[.int .i64 (Int.tmod t422 t406), .int .i64 (Int.tmod t424 4)] 43 (0, 0))) := ⟨PQ2 BK425⟩
                       have n7_ : Aside0 (Below w.heap.size w (S2W w164 gb425 (.int .i64 (Int.tmod t422 t406)) (.int .i64 (Int.tmod t424 4)))) := ⟨BZ⟩
                       (try clear HO_5)
                       (try clear HO_6)
                       (try clear HO_14)
                       (try clear BK397)
                       (try clear BK398)
                       (try clear BK403)
                       (try clear BK425)
                       (try clear HB)
                       (try dsimp only [S2W] at n0_ n1_ n2_ n3_ n4_ n5_ n6_ n7_); generalize ((w164.setCell ⟨gb425, 0, none⟩ (.int .i64 (Int.tmod t422 t406))).setCell ⟨gb425, 1, none⟩ (.int .i64 (Int.tmod t424 4))) = w167 at n0_ n1_ n2_ n3_ n4_ n5_ n6_ n7_ ⊢
                       have HO_5 := n0_
                       have HO_6 := n1_
                       have HO_14 := n2_
                       have BK397 := n3_
                       have BK398 := n4_
                       have BK403 := n5_
                       have BK425 := n6_
                       have HB := n7_
                       clear n0_ n1_ n2_ n3_ n4_ n5_ n6_ n7_
                       replace HO_5 := Aside0.mk (Kd.R_drew HO_5.out)
                       replace HO_6 := Aside0.mk (Kd.R_drew HO_6.out)
                       replace HO_14 := Aside0.mk (Kd.R_drew HO_14.out)
                       replace BK397 := Aside0.mk (blk_drew BK397.out)
                       replace BK398 := Aside0.mk (blk_drew BK398.out)
                       replace BK403 := Aside0.mk (blk_drew BK403.out)
                       replace BK425 := Aside0.mk (blk_drew BK425.out)
                       replace HB := Aside0.mk (below_drew1 HB.out)
                       refine ST 45 (fun w' => True) [] laws_FnLocated.tab28 laws_FnLocated.bits28 trivial (fun hHeld HT_ HW_ => ?_)
                       generalize w167.drew = w168 at HO_5 HO_6 HO_14 BK397 BK398 BK403 BK425 HB hHeld ⊢
                       refine PU 0 123 HT_ ?_
                       refine PU 1 124 HT_ ?_
                       refine PX 2 125 HT_ ?_
                       refine PX 3 126 HT_ ?_
                       refine PX 4 127 HT_ ?_
                       refine PX 5 128 HT_ ?_
                       refine PX 6 129 HT_ ?_
                       refine PX 7 130 HT_ ?_
                       refine PX 8 131 HT_ ?_
                       refine PX 9 132 HT_ ?_
                       refine PU 10 133 HT_ ?_
                       refine PU 11 134 HT_ ?_
                       refine PX 12 135 HT_ ?_
                       refine PX 13 136 HT_ ?_
                       refine PX 14 137 HT_ ?_
                       refine PX 15 138 HT_ ?_
                       refine PU 16 139 HT_ ?_
                       refine PU 17 140 HT_ ?_
                       refine PX 18 141 HT_ ?_
                       refine PX 19 142 HT_ ?_
                       refine PX 20 143 HT_ ?_
                       refine PX 21 144 HT_ ?_
                       refine PX 22 145 HT_ ?_
                       refine PX 23 146 HT_ ?_
                       refine PX 24 147 HT_ ?_
                       refine PX 25 148 HT_ ?_
                       refine PX 26 149 HT_ ?_
                       refine PU 27 150 HT_ ?_
                       refine PU 28 151 HT_ ?_
                       refine PX 29 152 HT_ ?_
                       refine PX 30 153 HT_ ?_
                       refine PX 31 154 HT_ ?_
                       refine PX 32 155 HT_ ?_
                       refine PX 33 156 HT_ ?_
                       refine PX 34 157 HT_ ?_
                       refine PX 35 158 HT_ ?_
                       refine PX 36 159 HT_ ?_
                       refine PX 37 160 HT_ ?_
                       refine PX 38 161 HT_ ?_
                       refine PX 39 162 HT_ ?_
                       refine PX 40 163 HT_ ?_
                       refine PX 41 164 HT_ ?_
                       refine PX 42 165 HT_ ?_
                       refine PU 43 166 HT_ ?_
                       refine PU 44 2 HT_ ?_
                       refine done_ (done_of HT_.out (by kernel_rfl)) ?_
                       try go_wp2
                       go_ret
                       exact ⟨RZ, BZ⟩

/-- THE ONE PURE STATEMENT of laws_FnLocated: yours. -/
def laws_FnLocated.Pure : Prop := ∀ (l0 : List Int), l0.length ≤ maxLen → l0.length * 1 ≤ 140737488351232 → (∀ x ∈ l0, (Lit.int .u8 x).wf = true) → ∃ k, laws_FnLocated.f k l0 = some true
theorem laws_FnLocated.walk (P : laws_FnLocated.Pure) (a0 : Option Addr) (len0 cap0 : Nat) (z0 : List Int) (w : World) (w0 : (a0 = none ∧ len0 = 0 ∧ cap0 = 0 ∧ z0 = []) ∨ ∃ x, a0 = some x ∧ len0 ≤ cap0 ∧ cap0 ≤ maxLen ∧ z0.length = cap0 ∧ (∀ i, i < z0.length → w.cell? (x.add i) = some (.int .u8 (z0.getD i 0))) ∧ ∀ n ∈ z0, (Lit.int .u8 n).wf = true) (y0 : len0 * 1 ≤ 140737488351232) :
  Calls Try.prog 5 #[.slice a0 len0 cap0] w fun e w' => e = .returned (.bool true) ∧ Below w.heap.size w w' := by
 obtain ⟨l0, rfl, hr0, hm0, hw0, hc0⟩ := ReadsInt.ofRowC w0
 obtain ⟨k, h⟩ := P l0 hm0 y0 hw0
 refine (laws_FnLocated.calls k _ _ l0 true w (Kd.C_of_reads (d := (0 : Int)) (h1 := fun _ => rfl) hr0) hc0 h).mono ?_
 rintro e w' ⟨rfl, hd⟩
 exact ⟨rfl, hd⟩

end Go.Proofs.Ytfpomjnhgcmgoaa.P

