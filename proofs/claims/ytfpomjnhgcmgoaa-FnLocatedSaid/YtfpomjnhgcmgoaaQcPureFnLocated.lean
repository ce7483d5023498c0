/- The plain law of FnLocated: where a visitor is fits their report, and a longer report never fits more places. -/
import Derived.Test.YtfpomjnhgcmgoaaQcRep2
namespace Go.Proofs.Ytfpomjnhgcmgoaa.Pure
set_option linter.unusedVariables false
set_option linter.unusedSimpArgs false
open Go.RowKit Go.Proofs.YtfpomjnhgcmgoaaW.PrintWords Go.Proofs.Ytfpomjnhgcmgoaa.P Go.Proofs.Ytfpomjnhgcmgoaa.Kit
theorem nodup_sub : ∀ (l1 l2 : List Nat), l1.Nodup → (∀ a ∈ l1, a ∈ l2) → l1.length ≤ l2.length
  | [], _, _, _ => by simp
  | a :: r, l2, hn, hs => by
    have ha := hs a (by simp)
    have ih := nodup_sub r (l2.erase a) (List.nodup_cons.1 hn).2 (fun b hb => by
      have hne : b ≠ a := fun e => (List.nodup_cons.1 hn).1 (e ▸ hb)
      exact (List.mem_erase_of_ne hne).2 (hs b (by simp [hb])))
    rw [List.length_erase_of_mem ha] at ih
    have := List.length_pos_of_mem ha
    simp only [List.length_cons]; omega
theorem goT_append {w h o : Int} : ∀ (l m : List (Int × Int)) (x : Nat), goT w h o (l ++ m) x = (goT w h o l x).bind (goT w h o m)
  | [], m, x => rfl
  | (t, p) :: r, m, x => by
    simp only [List.cons_append, goT]
    cases tn w h o x t with
    | none => rfl
    | some y =>
      simp only [Option.bind_some]
      by_cases hp : pn w h o y = p
      · rw [if_pos hp, if_pos hp]; exact goT_append r m y
      · rw [if_neg hp, if_neg hp]; rfl
theorem goT_self {w h o : Int} : ∀ (ts : List Int) (x e : Nat), run w h o ts x = some e → ∀ k, ∃ z, goT w h o ((ts.zip (pats w h o ts x)).take k) x = some z ∧ (ts.length ≤ k → z = e)
  | [], x, e, hr, k => ⟨x, by simp [goT], fun _ => by simpa [run] using hr⟩
  | t :: r, x, e, hr, k => by
    simp only [run] at hr
    cases hq : tn w h o x t with
    | none => rw [hq] at hr; cases hr
    | some y =>
      rw [hq, Option.bind_some] at hr
      cases k with
      | zero => exact ⟨x, by simp [goT], fun hk => by simp at hk⟩
      | succ k =>
        obtain ⟨z, hz, he⟩ := goT_self r y e hr k
        refine ⟨z, ?_, fun hk => he (by simpa using hk)⟩
        simp only [pats, hq, List.zip_cons_cons, List.take_succ_cons, goT, Option.bind_some]
        rw [if_pos trivial]; exact hz
section
variable {w h o : Int} {ts : List Int} {x e : Nat}
def PP (w h o : Int) (ts : List Int) (x : Nat) : List Int := pn w h o x :: pats w h o ts x
def LL (w h o : Int) (ts : List Int) (x : Nat) : List (Int × Int) := ts.zip (pats w h o ts x)
/-- The places that fit after k turns. -/
def FF (w h o : Int) (ts : List Int) (x k : Nat) : List Nat := (List.range (NW w h)).filter (stN w h o (NW w h) ((LL w h o ts x).take k) (fun y => pn w h o y == pn w h o x))
theorem fits_eq (k : Nat) : fits w h o ((PP w h o ts x).take (k + 1)) (ts.take k) = FF w h o ts x k := by
  unfold fits FF LL PP
  have e1 : (ts.take k).zip ((pats w h o ts x).take k) = (ts.zip (pats w h o ts x)).take k := by unfold List.zip; rw [List.take_zipWith]
  rw [List.take_succ_cons, List.drop_one, List.tail_cons, e1]
  rfl
theorem okT_LL (ht : ∀ t ∈ ts, 0 ≤ t ∧ t ≤ 3) (k : Nat) : okT ((LL w h o ts x).take k) := by
  intro q hq
  have := List.mem_of_mem_take hq
  obtain ⟨a, b⟩ := q
  exact ht a (List.of_mem_zip this).1
theorem mem_FF (ht : ∀ t ∈ ts, 0 ≤ t ∧ t ≤ 3) (k y : Nat) : y ∈ FF w h o ts x k ↔ y < NW w h ∧ ∃ z, z < NW w h ∧ pn w h o z = pn w h o x ∧ goT w h o ((LL w h o ts x).take k) z = some y := by
  unfold FF
  rw [List.mem_filter, List.mem_range]
  constructor
  · rintro ⟨h1, h2⟩
    rw [stN_iff _ _ _ (okT_LL ht k) h1] at h2
    obtain ⟨z, g1, g2, g3⟩ := h2
    exact ⟨h1, z, g1, by simpa using g2, g3⟩
  · rintro ⟨h1, z, g1, g2, g3⟩
    exact ⟨h1, (stN_iff _ _ _ (okT_LL ht k) h1).2 ⟨z, g1, by simpa using g2, g3⟩⟩
theorem FF_nodup (k : Nat) : (FF w h o ts x k).Nodup := List.Nodup.sublist List.filter_sublist List.nodup_range
theorem FF_le (ht : ∀ t ∈ ts, 0 ≤ t ∧ t ≤ 3) (k : Nat) : (FF w h o ts x (k + 1)).length ≤ (FF w h o ts x k).length := by
  by_cases hk : k < (LL w h o ts x).length
  · have e1 : (LL w h o ts x).take (k + 1) = (LL w h o ts x).take k ++ [(LL w h o ts x)[k]] := List.take_succ_eq_append_getElem hk
    refine Nat.le_trans (nodup_sub _ ((FF w h o ts x k).filterMap (goT w h o [(LL w h o ts x)[k]])) (FF_nodup _) (fun y hy => ?_)) (List.length_filterMap_le _ _)
    rw [mem_FF ht] at hy
    obtain ⟨h1, z, g1, g2, g3⟩ := hy
    rw [e1, goT_append] at g3
    cases hq : goT w h o ((LL w h o ts x).take k) z with
    | none => rw [hq] at g3; cases g3
    | some u =>
      rw [hq, Option.bind_some] at g3
      rw [List.mem_filterMap]
      exact ⟨u, (mem_FF ht k u).2 ⟨goT_lt _ _ _ (okT_LL ht k) g1 hq, z, g1, g2, hq⟩, g3⟩
  · have e1 : (LL w h o ts x).take (k + 1) = (LL w h o ts x).take k := by rw [List.take_of_length_le (by omega), List.take_of_length_le (by omega)]
    unfold FF; rw [e1]; exact Nat.le_refl _
theorem FF_pos (ht : ∀ t ∈ ts, 0 ≤ t ∧ t ≤ 3) (hx : x < NW w h) (hr : run w h o ts x = some e) (k : Nat) : 1 ≤ (FF w h o ts x k).length := by
  obtain ⟨z, hz, _⟩ := goT_self ts x e hr k
  exact List.length_pos_of_mem ((mem_FF ht k z).2 ⟨goT_lt _ _ _ (okT_LL ht k) hx hz, x, hx, rfl, hz⟩)
theorem FF_end (ht : ∀ t ∈ ts, 0 ≤ t ∧ t ≤ 3) (hx : x < NW w h) (hr : run w h o ts x = some e) : e ∈ FF w h o ts x ts.length := by
  obtain ⟨z, hz, he⟩ := goT_self ts x e hr ts.length
  rw [he (Nat.le_refl _)] at hz
  exact (mem_FF ht _ e).2 ⟨goT_lt _ _ _ (okT_LL ht _) hx hz, x, hx, rfl, hz⟩
theorem FF_NW (k : Nat) : (FF w h o ts x k).length ≤ NW w h := by
  have := List.length_filter_le (stN w h o (NW w h) ((LL w h o ts x).take k) (fun y => pn w h o y == pn w h o x)) (List.range (NW w h))
  rwa [List.length_range] at this
theorem pws_take (hm : mok w h o = true) (hl : ts.length ≤ 8) (ht : ∀ t ∈ ts, 0 ≤ t ∧ t ≤ 3) (hr : run w h o ts x = some e) {k : Nat} (hk : k ≤ ts.length) : pws w h o ((PP w h o ts x).take (k + 1)) (ts.take k) = (FF w h o ts x k).map wk := by
  unfold pws
  have hp := pats_len ts x e hr
  rw [if_pos ⟨hm, by simp [PP, hp] <;> omega, turnsOk_of (by simp; omega) (fun t h => ht t (List.mem_of_mem_take h))⟩, fits_eq]
end
theorem laws_at_ex (l : List Int) (i : Int) (hi : i = 0 ∨ i = 1) (hl : l.length ≤ 1048576) (hb : ∀ y ∈ l, 0 ≤ y ∧ y ≤ 255) : ∃ a, laws_at.f l i = some a ∧ 0 ≤ a := by
  unfold laws_at.f
  by_cases h0 : (l.length : Int) = 0
  · rw [if_pos h0]; exact ⟨0, rfl, Int.le_refl _⟩
  · rw [if_neg h0]
    have e : wrap64 (wrap64 (i * 5) + 1) = i * 5 + 1 := by rw [wrap_id (n := i * 5) (by omega), wrap_id (by omega)]
    rw [e]
    have h1 := tmod_lt (x := i * 5 + 1) (n := (l.length : Int)) (by omega) (by omega)
    rw [if_pos h1.1, if_pos h1.2]
    generalize Int.tmod (i * 5 + 1) (l.length : Int) = j at h1 ⊢
    have := rd_cast l j.toNat (by omega)
    rw [Int.toNat_of_nonneg h1.1] at this
    have hbb := hb _ (List.getElem_mem (l := l) (n := j.toNat) (by omega))
    rw [← this] at hbb
    exact ⟨_, rfl, by rw [wrap_id (by omega)]; exact hbb.1⟩
theorem FnLocated : laws_FnLocated.Pure := by
  intro l0 _ hlen hwf
  have hby : ∀ y ∈ l0, 0 ≤ y ∧ y ≤ 255 := fun y hy => by
    have hw := hwf y hy
    simp only [Lit.wf, Bool.and_eq_true, decide_eq_true_eq] at hw
    have e : IntKind.u8.min = 0 := by decide
    have e' : IntKind.u8.max = 255 := by decide
    rw [e, e'] at hw
    exact hw
  refine Ev.rounds (g := fun k => laws_FnLocated.f k l0) ?_
  unfold laws_FnLocated.f laws_big.f
  refine Ev.bindc rfl ?_
  by_cases hbig : (l0.length : Int) > 1048576
  · exact Ev.pos (by simpa using hbig) (Ev.now _)
  refine Ev.neg (by simpa using hbig) ?_
  have hl0 : l0.length ≤ 1048576 := by omega
  obtain ⟨a, ha, hm, hl, ht, x, hc, hf, hx, e, hr⟩ := spec_DrawReport_ex l0 hl0
  refine Ev.bind ha ?_
  obtain ⟨w, h, o, c, f, ts⟩ := a
  simp only at hm hl ht hc hf hx hr ⊢
  subst hc; subst hf
  have hnw := @NW_eq w h
  have hpl := pats_len ts x e hr
  refine Ev.bind (impl_ReportOf_ev w h o ts x e hm hx hl ht hr) (Ev.pos rfl ?_)
  have hPl : (PP w h o ts x).length = ts.length + 1 := by simp [PP, hpl]
  show Ev (fun k => laws_FnLocated.j0 k l0 ts (PP w h o ts x) (((PP w h o ts x).length : Int) != wrap64 ((ts.length : Int) + 1)) w h o ((x / 4 : Nat) : Int) ((x % 4 : Nat) : Int)) true
  have hj : (((PP w h o ts x).length : Int) != wrap64 ((ts.length : Int) + 1)) = false := by rw [wrap_nat (by omega), hPl]; simp
  rw [hj]
  refine Ev.succ (fun k => laws_FnLocated.j0.eq_2 ..) (Ev.neg (by decide) ?_)
  -- the end of it: the last places, and likeness
  have hpw := pws_take hm hl ht hr (Nat.le_refl ts.length)
  rw [List.take_of_length_le (by omega), List.take_of_length_le (Nat.le_refl _)] at hpw
  have fin : Ev (fun k => laws_FnLocated.l2 k l0 ts (PP w h o ts x) ((FF w h o ts x ts.length).map wk) true ((FF w h o ts x ts.length).length : Int) w h o ((x / 4 : Nat) : Int) ((x % 4 : Nat) : Int) ((e / 4 : Nat) : Int) ((e % 4 : Nat) : Int)) true := by
    obtain ⟨p, hp, hp0⟩ := laws_at_ex l0 0 (.inl rfl) hl0 hby
    obtain ⟨q, hq, hq0⟩ := laws_at_ex l0 1 (.inr rfl) hl0 hby
    have hcpos : 0 < cells w h := by omega
    refine Ev.succ (fun k => laws_FnLocated.l2.eq_2 ..) (Ev.neg (by simp) (Ev.bindc hp (Ev.bindc (spec_CountCells_ev w h) (Ev.neg (by omega) (Ev.bindc hq (Ev.pos rfl ?_))))))
    have h1 := tmod_lt (x := p) (n := cells w h) hp0 hcpos
    have h2 := tmod_lt (x := q) (n := 4) hq0 (by decide)
    obtain ⟨y1, y2, y3⟩ := idx_of (w := w) (h := h) h1 h2
    generalize (4 * Int.tmod p (cells w h) + Int.tmod q 4).toNat = y at y1 y2 y3
    rw [← y1, ← y2]
    have hloc : Ev (fun k => impl_IsLocated.f k w h o (PP w h o ts x) ts) (((FF w h o ts x ts.length).length : Int) == 1) := by
      unfold impl_IsLocated.f
      refine Ev.bind (impl_PossibleWalkers_ev w h o (PP w h o ts x) ts (by omega) (by omega)) ?_
      rw [hpw]
      exact Ev.ret (by simp)
    refine Ev.bind hloc (Ev.pos (by simp) (Ev.bind (impl_LikeWalkers_ev w h o 3 x x hm (by decide) hx hx) ?_))
    rw [alikeN_refl]
    refine Ev.pos rfl (Ev.bind (impl_LikeWalkers_ev w h o 2 x y hm (by decide) hx y3) (Ev.bind (impl_LikeWalkers_ev w h o 2 y x hm (by decide) y3 hx) ?_))
    rw [alikeN_symm w h o 2 y x]
    refine Ev.pos (by simp) (Ev.bind (impl_LikeWalkers_ev w h o 1 x y hm (by decide) hx y3) ?_)
    cases hal : alikeN w h o 1 x y with
    | true =>
      refine Ev.pos rfl (Ev.bind (impl_PatternAt_ev ..) (Ev.bind (impl_PatternAt_ev ..) (Ev.ret ?_)))
      have := alikeN_pn hal
      unfold pn at this
      rw [this]; simp
    | false => exact Ev.neg (by decide) (Ev.now _)
  have l2 : ∀ (m i : Nat) (b : Bool), i + m = (FF w h o ts x ts.length).length → (b = true ∨ e ∈ (FF w h o ts x ts.length).drop i) →
      Ev (fun k => laws_FnLocated.l2 k l0 ts (PP w h o ts x) ((FF w h o ts x ts.length).map wk) b (i : Int) w h o ((x / 4 : Nat) : Int) ((x % 4 : Nat) : Int) ((e / 4 : Nat) : Int) ((e % 4 : Nat) : Int)) true := by
    have hFl := @FF_NW w h o ts x ts.length
    intro m
    induction m with
    | zero =>
      intro i b hi hb
      have : b = true := by
        rcases hb with hb | hb
        · exact hb
        · rw [List.drop_of_length_le (by omega)] at hb; cases hb
      subst this
      obtain rfl : i = (FF w h o ts x ts.length).length := by omega
      exact fin
    | succ m ih =>
      intro i b hi hb
      have hlt : i < (FF w h o ts x ts.length).length := by omega
      refine Ev.succ (fun k => laws_FnLocated.l2.eq_2 ..) (Ev.pos (by simp; omega) ?_)
      cases b with
      | true =>
        refine Ev.pos rfl ?_
        rw [wrap_nat (by omega)]
        exact ih (i + 1) true (by omega) (.inl rfl)
      | false =>
        refine Ev.neg (by decide) (Ev.pos (by omega) ?_)
        rw [wrap_nat (by omega), rd_wk _ i hlt]
        refine ih (i + 1) _ (by omega) ?_
        rw [drop_cons _ i hlt, List.mem_cons] at hb
        rcases hb with hb | hb | hb
        · cases hb
        · left; rw [← hb]; simp [wk]
        · exact .inr hb
  have l1 : ∀ (m k : Nat) (bef : Int), k + m = ts.length + 1 → ((FF w h o ts x k).length : Int) ≤ bef →
      Ev (fun n => laws_FnLocated.l1 n l0 ts (PP w h o ts x) bef (k : Int) w h o ((x / 4 : Nat) : Int) ((x % 4 : Nat) : Int) ((e / 4 : Nat) : Int) ((e % 4 : Nat) : Int)) true := by
    intro m
    induction m with
    | zero =>
      intro k bef hk hb
      refine Ev.succ (fun k => laws_FnLocated.l1.eq_2 ..) (Ev.neg (by omega) (Ev.bind (impl_PossibleWalkers_ev w h o (PP w h o ts x) ts (by omega) (by omega)) ?_))
      rw [hpw]
      exact l2 (FF w h o ts x ts.length).length 0 false (by omega) (.inr (by rw [List.drop_zero]; exact FF_end ht hx hr))
    | succ m ih =>
      intro k bef hk hb
      refine Ev.succ (fun k => laws_FnLocated.l1.eq_2 ..) (Ev.pos (by omega) ?_)
      rw [wrap_nat (by omega), Int.toNat_natCast, Int.toNat_natCast]
      refine Ev.pos (by omega) (Ev.pos (by omega) (Ev.pos (by omega) (Ev.bind (impl_PossibleWalkers_ev w h o ((PP w h o ts x).take (k + 1)) (ts.take k) (by simp; omega) (by simp; omega)) ?_)))
      rw [pws_take hm hl ht hr (by omega), List.length_map]
      have h1 := @FF_pos w h o ts x e ht hx hr k
      have h2 := @FF_le w h o ts x ht k
      exact Ev.neg (by omega) (Ev.neg (by omega) (ih (k + 1) _ (by omega) (by omega)))
  have l0' : ∀ (m i : Nat) (y : Nat), i + m = ts.length → y < NW w h → run w h o (ts.drop i) y = some e →
      Ev (fun k => laws_FnLocated.l0 k l0 ts (PP w h o ts x) (i : Int) w h o ((x / 4 : Nat) : Int) ((x % 4 : Nat) : Int) ((y / 4 : Nat) : Int) ((y % 4 : Nat) : Int)) true := by
    intro m
    induction m with
    | zero =>
      intro i y hi hy hr'
      rw [List.drop_of_length_le (by omega)] at hr'
      obtain rfl : y = e := by simpa [run] using hr'
      refine Ev.succ (fun k => laws_FnLocated.l0.eq_2 ..) (Ev.neg (by omega) (Ev.bindc (spec_CountCells_ev w h) ?_))
      have := @FF_NW w h o ts x 0
      have hcl := @cells_le w h
      rw [wrap_id (n := 4 * cells w h) (by omega), wrap_id (by omega)]
      exact l1 (ts.length + 1) 0 _ (by omega) (by omega)
    | succ m ih =>
      intro i y hi hy hr'
      have hlt : i < ts.length := by omega
      obtain ⟨z, hz, hr2, _⟩ := run_drop ts y e i hlt hr'
      have htt := ht _ (List.getElem_mem hlt)
      obtain ⟨z1, z2, z3⟩ := tn_some htt hz
      refine Ev.succ (fun k => laws_FnLocated.l0.eq_2 ..) (Ev.pos (by omega) (Ev.pos (by omega) ?_))
      rw [rd_cast ts i hlt]
      refine Ev.bind (a := step w h o ((y / 4 : Nat) : Int) (dirAt ((y % 4 : Nat) : Int) ts[i])) ⟨1, fun k hk => by obtain ⟨j, rfl⟩ : ∃ j, k = j + 1 := ⟨k - 1, by omega⟩; exact spec_Step_ev j w h o _ _⟩ ?_
      show Ev (fun k => laws_FnLocated.l0 k l0 ts (PP w h o ts x) (wrap64 ((i : Int) + 1)) w h o ((x / 4 : Nat) : Int) ((x % 4 : Nat) : Int) (step w h o ((y / 4 : Nat) : Int) (dirAt ((y % 4 : Nat) : Int) ts[i])) (dirAt ((y % 4 : Nat) : Int) ts[i])) true
      rw [← z1, ← z2, wrap_nat (by omega)]
      exact ih (i + 1) z (by omega) z3 hr2
  exact l0' ts.length 0 x (by omega) hx (by rw [List.drop_zero]; exact hr)
end Go.Proofs.Ytfpomjnhgcmgoaa.Pure

