/- slices.IndexFunc and slices.ContainsFunc at []int, whatever predicate is handed in, if it leaves what was there as it was; after the shelf's worked texts. -/
import Derived.Test.YtfpomjnhgcmgoaaProg
import Derived.Test.YtfpomjnhgcmgoaaQcWWords
import Derived.Lib.Walk
import Derived.WalkKit
import Derived.Deep.LoopGhost
import Derived.Shelf.Abstract
namespace Go.Proofs.Ytfpomjnhgcmgoaa.Funcs
set_option linter.unusedVariables false
set_option linter.unusedSimpArgs false
open Go.RowKit Go.Lib Go.Proofs.YtfpomjnhgcmgoaaW.PrintWords
/-- What is asked of a predicate: in every world in which all that lay in w lies unturned, it answers p x and leaves such a world again. -/
def PredB (g : Nat) (lb : Array Value) (p : Int → Bool) (w : World) : Prop :=
  ∀ (W : World) (x : Int), Below w.heap.size w W → Calls Try.prog g (#[.int .i64 x] ++ lb) W fun e w' => e = .returned (.bool (p x)) ∧ Below w.heap.size w w'
/-- The place of the first that p takes, or -1. -/
def idxP (p : Int → Bool) : List Int → Int → Int
  | [], _ => -1
  | x :: r, i => if p x = true then i else idxP p r (i + 1)
theorem idxP_any (p : Int → Bool) : ∀ (l : List Int) (i : Int), 0 ≤ i → decide (0 ≤ idxP p l i) = l.any p
  | [], _, _ => by simp [idxP]
  | x :: r, i, h => by
    unfold idxP
    cases hx : p x with
    | true => simp [hx, h]
    | false => simpa [hx] using idxP_any p r (i + 1) (by omega)
set_option maxHeartbeats 2000000 in
theorem IndexFunc_any (p : Int → Bool) (g : Nat) (lb : Array Value) (eg : ∀ args w, (callFunc g args).run Try.prog w = .ok (.enter g args) w) (A : Option Addr) (c : Nat) (zs : List Int) (w : World)
    (hp : PredB g lb p w) (hr : Kd.C (Kd.int .i64) w A zs.length zs) :
    Calls Try.prog 101 #[.slice A zs.length c, .func (.func g) #[] lb] w fun e w' => e = .returned (.int .i64 (idxP p zs 0)) ∧ Below w.heap.size w w' := by
  have hbig : zs.length ≤ 9223372036854775807 := hr.2.1
  have HR := Aside0.mk hr
  clear hr
  go_enter Try.func101, Try.ntmps101
  go_wp2
  go_loopg [5, 8] zs.length (fun gg _ s8 wr => ∃ kk : Nat, kk ≤ zs.length ∧ zs.length - kk ≤ gg ∧ s8 = .int .i64 kk ∧ Aside0 (Below w.heap.size w wr) ∧ Aside0 (idxP p zs 0 = idxP p (zs.drop kk) kk))
  case atStart => exact ⟨0, Nat.zero_le _, by omega, rfl, ⟨Below.refl _ w⟩, ⟨rfl⟩⟩
  case round =>
    obtain ⟨kk, hkk, hg, rfl, BW, B⟩ := hrel
    by_cases hlt : kk < zs.length
    · have hltz : (kk : Int) < (zs.length : Int) := by omega
      have p0 : (0 : Int) ≤ (kk : Int) := by omega
      obtain ⟨ad, rfl, hx⟩ := Kd.at_int HR.out (kk : Int) p0 hltz
      have hx' := (BW.out.cell (World.block_lt_of_cell? w _ hx)).trans hx
      rw [Int.toNat_natCast] at hx'
      have hcall := hp wr (rd zs kk) BW.out
      have hd : zs.drop kk = rd zs kk :: zs.drop (kk + 1) := by
        rw [List.drop_eq_getElem_cons hlt]
        congr 1
        simp [rd, List.getD, List.getElem?_eq_getElem hlt]
      rw [hd] at B
      clear hd hx hp
      generalize rd zs (kk : Int) = y at *
      cases hq : p y with
      | true =>
        rw [hq] at hcall
        have B' : Aside0 (idxP p zs 0 = (kk : Int)) := ⟨by rw [B.out]; unfold idxP; rw [if_pos hq]⟩
        clear B hq
        go_wp2_with (go_at_fn g; refine hcall.mono ?_; rintro e w' ⟨rfl, hb'⟩)
        go_ret
        exact ⟨by rw [B'.out]; rfl, hb'⟩
      | false =>
        rw [hq] at hcall
        have B' : Aside0 (idxP p zs 0 = idxP p (zs.drop (kk + 1)) ((kk : Int) + 1)) := ⟨by rw [B.out, idxP, if_neg (by rw [hq]; decide)]⟩
        clear B hq
        go_wp2_with (go_at_fn g; refine hcall.mono ?_; rintro e w' ⟨rfl, hb'⟩)
        go_roundg (zs.length - (kk + 1))
        case measure => omega
        case rel => exact ⟨kk + 1, by omega, by omega, by go_num, ⟨hb'⟩, B'⟩
    · have hltz : ¬ (kk : Int) < (zs.length : Int) := by omega
      have B' : Aside0 (idxP p zs 0 = -1) := ⟨by rw [B.out, List.drop_of_length_le (by omega)]; rfl⟩
      clear B hp
      go_wp2
      go_ret
      exact ⟨by rw [B'.out]; rfl, BW.out⟩
set_option maxHeartbeats 1000000 in
theorem ContainsFunc_any (p : Int → Bool) (g : Nat) (lb : Array Value) (eg : ∀ args w, (callFunc g args).run Try.prog w = .ok (.enter g args) w) (A : Option Addr) (c : Nat) (zs : List Int) (w : World)
    (hp : PredB g lb p w) (hr : Kd.C (Kd.int .i64) w A zs.length zs) :
    Calls Try.prog 73 #[.slice A zs.length c, .func (.func g) #[] lb] w fun e w' => e = .returned (.bool (zs.any p)) ∧ Below w.heap.size w w' := by
  have hcon := IndexFunc_any p g lb eg A c zs w hp hr
  rw [← idxP_any p zs 0 (by omega)]
  generalize idxP p zs 0 = r at hcon ⊢
  clear hp hr
  go_enter Try.func73, Try.ntmps73
  go_wp2_with (go_at_call 101; refine hcon.mono ?_; rintro e w' ⟨rfl, hb'⟩)
  go_ret
  exact ⟨rfl, hb'⟩
end Go.Proofs.Ytfpomjnhgcmgoaa.Funcs

