/- The program's own search for the walkers that fit a report comes to the same list. -/
import Derived.Test.YtfpomjnhgcmgoaaQcLoc
namespace Go.Proofs.Ytfpomjnhgcmgoaa.Pure
set_option linter.unusedVariables false
set_option linter.unusedSimpArgs false
open Go.RowKit Go.Proofs.YtfpomjnhgcmgoaaW.PrintWords Go.Proofs.Ytfpomjnhgcmgoaa.P Go.Proofs.Ytfpomjnhgcmgoaa.Kit
theorem rd_wk (ys : List Nat) (i : Nat) (hi : i < ys.length) : rd_T43 (ys.map wk) (i : Int) = wk ys[i] := by
  show (ys.map wk).getD (i : Int).toNat _ = _
  rw [getD_cast _ _ _ (by simpa using hi)]
  simp
theorem contains_ev (ys : List Nat) (y : Nat) (hl : ys.length ≤ 1000000) : Ev (fun k => slices_Contains_impl_Walker_impl_Walker.f k (ys.map wk) ((y / 4 : Nat) : Int) ((y % 4 : Nat) : Int)) (decide (y ∈ ys)) := by
  have key : ∀ m i, i + m = ys.length → ∃ v : Int, Ev (fun k => slices_Index_impl_Walker_impl_Walker.l0 k (ys.map wk) (ys.length : Int) (i : Int) ((y / 4 : Nat) : Int) ((y % 4 : Nat) : Int)) v ∧ decide (v ≥ 0) = decide (y ∈ ys.drop i) := by
    intro m
    induction m with
    | zero =>
      intro i hi
      refine ⟨-1, Ev.succ (fun k => slices_Index_impl_Walker_impl_Walker.l0.eq_2 ..) (Ev.neg (by omega) (Ev.now _)), ?_⟩
      rw [List.drop_of_length_le (by omega)]
      simp
    | succ m ih =>
      intro i hi
      have hlt : i < ys.length := by omega
      by_cases e : y = ys[i]
      · refine ⟨i, Ev.succ (fun k => slices_Index_impl_Walker_impl_Walker.l0.eq_2 ..) (Ev.pos (by omega) (Ev.pos (by omega) (Ev.pos (by simpa using hlt) (Ev.pos ?_ (Ev.now _))))), ?_⟩
        · rw [rd_wk ys i hlt, ← e]; simp [wk]
        · rw [drop_cons ys i hlt, ← e]; simp
      · obtain ⟨v, h1, h2⟩ := ih (i + 1) (by omega)
        refine ⟨v, Ev.succ (fun k => slices_Index_impl_Walker_impl_Walker.l0.eq_2 ..) (Ev.pos (by omega) (Ev.pos (by omega) (Ev.pos (by simpa using hlt) (Ev.neg ?_ ?_)))), ?_⟩
        · rw [rd_wk ys i hlt]
          simp only [wk, Bool.and_eq_true, beq_iff_eq]
          omega
        · rw [wrap_nat (by omega)]; exact h1
        · rw [h2, drop_cons ys i hlt]; simp only [List.mem_cons, e, false_or]
  obtain ⟨v, h1, h2⟩ := key ys.length 0 (by omega)
  unfold slices_Contains_impl_Walker_impl_Walker.f slices_Index_impl_Walker_impl_Walker.f
  rw [List.length_map]
  refine Ev.bind h1 (Ev.ret ?_)
  rw [h2, List.drop_zero]
def insO (ys : List Nat) : Option Nat → List Nat
  | none => ys
  | some y => if y ∈ ys then ys else ys ++ [y]
theorem impl_PW_l1 (w h o : Int) (ps ts : List Int) (hps : ps.length = ts.length + 1) (ht : turnsOk ts = true) (ys : List Nat) (hy : ys.length ≤ 100) (i : Nat) (hi : i ≤ 64) {r : List WK} :
    ∀ (m j x : Nat), j + m = ts.length → x < NW w h → Ev (fun k => impl_PossibleWalkers.l0 k ps ts ((insO ys (goT w h o ((ts.zip (ps.drop 1)).drop j) x)).map wk) ((i + 1 : Nat) : Int) w h o) r →
      Ev (fun k => impl_PossibleWalkers.l1 k ps ts (ys.map wk) (i : Int) true (j : Int) w h o ((x / 4 : Nat) : Int) ((x % 4 : Nat) : Int)) r := by
  have hl : ts.length ≤ 40 := by unfold turnsOk at ht; simp at ht; exact ht.1
  have hN := (@NW_eq w h).2
  have dead : ∀ (j c f : Int), Ev (fun k => impl_PossibleWalkers.l0 k ps ts (ys.map wk) ((i + 1 : Nat) : Int) w h o) r → Ev (fun k => impl_PossibleWalkers.l1 k ps ts (ys.map wk) (i : Int) false j w h o c f) r := by
    intro j c f q
    refine Ev.succ (fun k => impl_PossibleWalkers.l1.eq_2 ..) (Ev.neg (by simp) (Ev.succ (fun k => impl_PossibleWalkers.j3.eq_2 ..) (Ev.neg (by simp) (Ev.neg (by simp) ?_))))
    rw [wrap_nat (by omega)]; exact q
  intro m
  induction m with
  | zero =>
    intro j x hj hx q
    rw [show j = ts.length by omega, zip_end] at q
    refine Ev.succ (fun k => impl_PossibleWalkers.l1.eq_2 ..) (Ev.pos rfl (Ev.succ (fun k => impl_PossibleWalkers.j3.eq_2 ..) (Ev.neg (by simp; omega) (Ev.pos rfl ?_))))
    refine Ev.bind (contains_ev ys x (by omega)) ?_
    rw [wrap_nat (by omega)]
    simp only [goT, insO] at q
    by_cases e : x ∈ ys
    · rw [if_pos e] at q
      exact Ev.pos (by simpa using e) q
    · rw [if_neg e] at q
      refine Ev.neg (by simpa using e) (Ev.pos (by rw [List.length_map]; omega) ?_)
      simpa [wk] using q
  | succ m ih =>
    intro j x hj hx q
    have hlt : j < ts.length := by omega
    have h1 : 0 ≤ ts[j] ∧ ts[j] ≤ 3 := by
      unfold turnsOk at ht
      simp only [Bool.and_eq_true, List.all_eq_true, decide_eq_true_eq] at ht
      exact ht.2 _ (List.getElem_mem hlt)
    rw [zip_drop ps ts j hlt hps] at q
    simp only [goT] at q
    refine Ev.succ (fun k => impl_PossibleWalkers.l1.eq_2 ..) (Ev.pos rfl (Ev.succ (fun k => impl_PossibleWalkers.j3.eq_2 ..) (Ev.pos (by simp; omega) (Ev.pos (by omega) (Ev.pos (by omega) ?_)))))
    rw [rd_cast ts j hlt]
    refine Ev.bind (impl_went_ev _ _ _ _ _ _) ?_
    by_cases hs : step w h o ((x / 4 : Nat) : Int) (dirAt ((x % 4 : Nat) : Int) ts[j]) < 0
    · have hn : tn w h o x ts[j] = none := by unfold tn; rw [if_pos hs]
      rw [hn] at q
      have hd : decide (step w h o ((x / 4 : Nat) : Int) (dirAt ((x % 4 : Nat) : Int) ts[j]) ≥ 0) = false := decide_eq_false (by omega)
      refine Ev.neg (by simp only [hd]; simp) ?_
      simp only [hd]
      exact dead _ _ _ q
    · obtain ⟨y, hy'⟩ : ∃ y, tn w h o x ts[j] = some y := by unfold tn; rw [if_neg hs]; exact ⟨_, rfl⟩
      obtain ⟨e1, e2, e3⟩ := tn_some h1 hy'
      rw [hy', Option.bind_some] at q
      have hd : decide (step w h o ((x / 4 : Nat) : Int) (dirAt ((x % 4 : Nat) : Int) ts[j]) ≥ 0) = true := decide_eq_true (by omega)
      refine Ev.pos hd (Ev.bind (impl_PatternAt_ev _ _ _ _ _) ?_)
      simp only
      rw [wrap_nat (n := j) (by omega), rd_cast ps (j + 1) (by omega), ← e1, ← e2]
      refine Ev.pos (by omega) (Ev.pos (by omega) ?_)
      have hp : pn w h o y = pat w h o ((y / 4 : Nat) : Int) ((y % 4 : Nat) : Int) := rfl
      by_cases e : pn w h o y = ps[j + 1]
      · rw [if_pos e] at q
        rw [← hp, e, beq_self_eq_true]
        exact ih (j + 1) y (by omega) e3 q
      · rw [if_neg e] at q
        rw [← hp, beq_eq_false_iff_ne.2 e]
        exact dead _ _ _ q
def ysAt (w h o : Int) (ps ts : List Int) : Nat → List Nat
  | 0 => []
  | i + 1 => insO (ysAt w h o ps ts i) (if pn w h o i == rd ps 0 then goT w h o (ts.zip (ps.drop 1)) i else none)
theorem insO_len (ys : List Nat) (q : Option Nat) : (insO ys q).length ≤ ys.length + 1 := by
  cases q with
  | none => simp [insO]
  | some y => simp only [insO]; split <;> simp
theorem insO_mem (ys : List Nat) (q : Option Nat) (z : Nat) : z ∈ insO ys q ↔ z ∈ ys ∨ q = some z := by
  cases q with
  | none => simp [insO]
  | some y =>
    simp only [insO, Option.some.injEq]
    split
    · rename_i hh
      exact ⟨.inl, fun q => q.elim id (fun e => e ▸ hh)⟩
    · simp [eq_comm]
theorem insO_nodup (ys : List Nat) (q : Option Nat) (hn : ys.Nodup) : (insO ys q).Nodup := by
  cases q with
  | none => simpa [insO] using hn
  | some y =>
    simp only [insO]
    split
    · exact hn
    · rename_i hh
      rw [List.nodup_append]
      exact ⟨hn, by simp, fun a ha b hb e => hh (by simp at hb; rwa [← hb, ← e])⟩
theorem ysAt_len (w h o : Int) (ps ts : List Int) : ∀ i, (ysAt w h o ps ts i).length ≤ i
  | 0 => by simp [ysAt]
  | i + 1 => by
    have := insO_len (ysAt w h o ps ts i) (if pn w h o i == rd ps 0 then goT w h o (ts.zip (ps.drop 1)) i else none)
    have := ysAt_len w h o ps ts i
    simp only [ysAt]; omega
theorem ysAt_nodup (w h o : Int) (ps ts : List Int) : ∀ i, (ysAt w h o ps ts i).Nodup
  | 0 => by simp [ysAt]
  | i + 1 => insO_nodup _ _ (ysAt_nodup w h o ps ts i)
theorem ysAt_mem (w h o : Int) (ps ts : List Int) (z : Nat) : ∀ i, z ∈ ysAt w h o ps ts i ↔ ∃ x, x < i ∧ (pn w h o x == rd ps 0) = true ∧ goT w h o (ts.zip (ps.drop 1)) x = some z
  | 0 => by simp [ysAt]
  | i + 1 => by
    simp only [ysAt, insO_mem, ysAt_mem w h o ps ts z i]
    constructor
    · rintro (⟨x, h1, h2, h3⟩ | q)
      · exact ⟨x, by omega, h2, h3⟩
      · split at q
        · rename_i hh; exact ⟨i, by omega, hh, q⟩
        · cases q
    · rintro ⟨x, h1, h2, h3⟩
      by_cases e : x = i
      · subst e; right; rw [if_pos h2]; exact h3
      · left; exact ⟨x, by omega, h2, h3⟩
theorem okT_zip {ps ts : List Int} (ht : turnsOk ts = true) : okT (ts.zip (ps.drop 1)) := by
  intro q hq
  have h2 := (List.of_mem_zip hq).1
  unfold turnsOk at ht
  simp only [Bool.and_eq_true, List.all_eq_true, decide_eq_true_eq] at ht
  exact ht.2 _ h2
/-- Sorted, they are the numbers in order. -/
theorem sorted_fits (w h o : Int) (ps ts : List Int) (ht : turnsOk ts = true) : ((ysAt w h o ps ts (NW w h)).map wk).mergeSort (fun x y => decide (wkKey x ≤ wkKey y)) = (fits w h o ps ts).map wk := by
  rw [← List.map_mergeSort (r := fun x y => decide (x ≤ y)) (f := wk) (fun a _ b _ => by
    have k1 : wkKey (wk a) = (a : Int) := by simp only [wkKey, wk]; omega
    have k2 : wkKey (wk b) = (b : Int) := by simp only [wkKey, wk]; omega
    rw [k1, k2]
    by_cases q : a ≤ b <;> simp [q])]
  congr 1
  have hn := ysAt_nodup w h o ps ts (NW w h)
  have hf : (fits w h o ps ts).Pairwise (fun a b => a < b) := by unfold fits; exact List.pairwise_lt_range.filter _
  have hfn : (fits w h o ps ts).Nodup := hf.imp (fun q => Nat.ne_of_lt q)
  refine List.Perm.eq_of_pairwise (le := fun a b => a ≤ b) (fun a b _ _ h1 h2 => Nat.le_antisymm h1 h2) ?_ (hf.imp (fun q => Nat.le_of_lt q)) ?_
  · have := List.pairwise_mergeSort (le := fun x y : Nat => decide (x ≤ y)) (fun a b c h1 h2 => by simp at *; omega) (fun a b => by simp; omega) (ysAt w h o ps ts (NW w h))
    exact this.imp (fun q => by simpa using q)
  · refine (List.mergeSort_perm _ _).trans ((List.perm_ext_iff_of_nodup hn hfn).2 fun z => ?_)
    rw [ysAt_mem]
    unfold fits
    rw [List.mem_filter, List.mem_range]
    constructor
    · rintro ⟨x, h1, h2, h3⟩
      have hz := goT_lt _ _ _ (okT_zip ht) h1 h3
      exact ⟨hz, (stN_iff _ _ _ (okT_zip ht) hz).2 ⟨x, h1, h2, h3⟩⟩
    · rintro ⟨hz, q⟩
      exact (stN_iff _ _ _ (okT_zip ht) hz).1 q
theorem impl_PossibleWalkers_ev (w h o : Int) (ps ts : List Int) (hp : ps.length ≤ 1048576) (hl : ts.length ≤ 1048576) : Ev (fun k => impl_PossibleWalkers.f k w h o ps ts) (pws w h o ps ts) := by
  unfold impl_PossibleWalkers.f pws
  simp only [impl_MazeOk_ev, Option.bind_some, impl_areTurns_ev]
  rw [wrap_nat (by omega)]
  have bad : Ev (fun k => impl_PossibleWalkers.j0 k ps ts true w h o) [] := Ev.succ (fun k => impl_PossibleWalkers.j0.eq_2 ..) (Ev.pos rfl (Ev.now _))
  by_cases hm : mok w h o = true
  · refine Ev.pos hm ?_
    by_cases he : ps.length = ts.length + 1
    · refine Ev.pos (by omega) ?_
      cases ht : turnsOk ts with
      | true =>
        rw [if_pos ⟨hm, he, rfl⟩]
        have hN := @NW_eq w h
        refine Ev.succ (fun k => impl_PossibleWalkers.j0.eq_2 ..) (Ev.neg (by simp) ?_)
        refine Ev.down (L := fun i k => impl_PossibleWalkers.l0 k ps ts ((ysAt w h o ps ts i).map wk) (i : Int) w h o) (NW w h) ?_ ?_
        · intro i hi ih
          refine Ev.succ (fun k => impl_PossibleWalkers.l0.eq_2 ..) ?_
          rw [impl_CountCells_ev]
          simp only [Option.bind_some]
          rw [wrap_id (n := 4 * cells w h) (by omega), ← hN.1]
          refine Ev.pos (by omega) ?_
          rw [(tdiv4 i (by omega)).1, (tdiv4 i (by omega)).2]
          refine Ev.bind (impl_PatternAt_ev _ _ _ _ _) (Ev.pos (by omega) ?_)
          have hlen := ysAt_len w h o ps ts i
          have hp : pn w h o i = pat w h o ((i / 4 : Nat) : Int) ((i % 4 : Nat) : Int) := rfl
          simp only [ysAt] at ih
          rw [← hp]
          cases hs : (pn w h o i == rd ps 0) with
          | true =>
            rw [hs, if_pos rfl] at ih
            exact impl_PW_l1 w h o ps ts he ht _ (by omega) i (by omega) ts.length 0 i (by omega) hi (by rw [List.drop_zero]; exact ih)
          | false =>
            rw [hs, if_neg (by simp)] at ih
            refine Ev.succ (fun k => impl_PossibleWalkers.l1.eq_2 ..) (Ev.neg (by simp) (Ev.succ (fun k => impl_PossibleWalkers.j3.eq_2 ..) (Ev.neg (by simp) (Ev.neg (by simp) ?_))))
            rw [wrap_nat (by omega)]; exact ih
        · refine Ev.succ (fun k => impl_PossibleWalkers.l0.eq_2 ..) ?_
          rw [impl_CountCells_ev]
          simp only [Option.bind_some]
          rw [wrap_id (n := 4 * cells w h) (by omega), ← hN.1]
          refine Ev.neg (by omega) ?_
          have hlen := ysAt_len w h o ps ts (NW w h)
          have hall : ∀ x ∈ (ysAt w h o ps ts (NW w h)).map wk, wkOk x := by
            intro x hx
            obtain ⟨z, hz, rfl⟩ := List.mem_map.1 hx
            obtain ⟨x', h1, _, h3⟩ := (ysAt_mem w h o ps ts z _).1 hz
            have := goT_lt _ _ _ (okT_zip ht) h1 h3
            unfold wkOk wk
            simp only
            omega
          refine Ev.const ?_
          unfold slices_SortFunc_impl_Walker_impl_Walker.f
          rw [if_pos ⟨hall, by rw [List.length_map]; omega⟩, Option.bind_some, sorted_fits w h o ps ts ht]
      | false => rw [if_neg (by simp)]; exact bad
    · rw [if_neg (fun q => he q.2.1)]
      exact Ev.neg (by omega) bad
  · rw [if_neg (fun q => hm q.1)]
    exact Ev.neg hm bad
end Go.Proofs.Ytfpomjnhgcmgoaa.Pure

