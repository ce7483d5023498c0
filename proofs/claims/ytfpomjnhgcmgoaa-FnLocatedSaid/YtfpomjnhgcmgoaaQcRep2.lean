/- Reports and likeness of walkers: the plain side of FnLocated, the program's part. -/
import Derived.Test.YtfpomjnhgcmgoaaQcRep
namespace Go.Proofs.Ytfpomjnhgcmgoaa.Pure
set_option linter.unusedVariables false
set_option linter.unusedSimpArgs false
open Go.RowKit Go.Proofs.YtfpomjnhgcmgoaaW.PrintWords Go.Proofs.Ytfpomjnhgcmgoaa.P Go.Proofs.Ytfpomjnhgcmgoaa.Kit
theorem turnsOk_of {ts : List Int} (hl : ts.length ≤ 8) (ht : ∀ t ∈ ts, 0 ≤ t ∧ t ≤ 3) : turnsOk ts = true := by
  unfold turnsOk
  rw [decide_eq_true (by omega), Bool.true_and, List.all_eq_true]
  intro t h
  have := ht t h
  simp; omega
theorem run_drop {w h o : Int} : ∀ (ts : List Int) (x e : Nat) (i : Nat) (hi : i < ts.length), run w h o (ts.drop i) x = some e → ∃ y, tn w h o x ts[i] = some y ∧ run w h o (ts.drop (i + 1)) y = some e ∧ pats w h o (ts.drop i) x = pn w h o y :: pats w h o (ts.drop (i + 1)) y := by
  intro ts x e i hi hr
  rw [drop_cons ts i hi] at hr ⊢
  simp only [run] at hr
  cases hq : tn w h o x ts[i] with
  | none => rw [hq] at hr; cases hr
  | some y => rw [hq, Option.bind_some] at hr; exact ⟨y, rfl, hr, by simp [pats, hq]⟩
theorem pats_len {w h o : Int} : ∀ (ts : List Int) (x e : Nat), run w h o ts x = some e → (pats w h o ts x).length = ts.length
  | [], x, e, _ => rfl
  | t :: r, x, e, hr => by
    simp only [run] at hr
    cases hq : tn w h o x t with
    | none => rw [hq] at hr; cases hr
    | some y => rw [hq, Option.bind_some] at hr; simp [pats, hq, pats_len r y e hr]
/-- The report of a walk that can be gone. -/
theorem impl_ReportOf_ev (w h o : Int) (ts : List Int) (x e : Nat) (hm : mok w h o = true) (hx : x < NW w h) (hl : ts.length ≤ 8) (ht : ∀ t ∈ ts, 0 ≤ t ∧ t ≤ 3) (hr : run w h o ts x = some e) :
    Ev (fun k => impl_ReportOf.f k w h o ((x / 4 : Nat) : Int) ((x % 4 : Nat) : Int) ts) (pn w h o x :: pats w h o ts x, true) := by
  have hnw := @NW_eq w h
  have hwok : wok w h o ((x / 4 : Nat) : Int) ((x % 4 : Nat) : Int) = true := by
    unfold wok
    rw [hm, cok_iff.2 (by omega), Bool.true_and, Bool.true_and, decide_eq_true (by omega), decide_eq_true (by omega)]; rfl
  unfold impl_ReportOf.f
  refine Ev.bindc (impl_WalkerOk_ev ..) (Ev.pos hwok (Ev.bindc (impl_areTurns_ev ts) ?_))
  rw [turnsOk_of hl ht]
  refine Ev.succ (fun k => impl_ReportOf.j0.eq_2 ..) (Ev.neg (by decide) (Ev.bind (impl_PatternAt_ev ..) ?_))
  have go : ∀ (m i : Nat) (acc : List Int) (y : Nat), i + m = ts.length → acc.length = i + 1 → y < NW w h → run w h o (ts.drop i) y = some e →
      Ev (fun k => impl_ReportOf.l0 k acc ts (ts.length : Int) (i : Int) w h o ((y / 4 : Nat) : Int) ((y % 4 : Nat) : Int)) (acc ++ pats w h o (ts.drop i) y, true) := by
    intro m
    induction m with
    | zero =>
      intro i acc y hi ha hy hr
      refine Ev.succ (fun k => impl_ReportOf.l0.eq_2 ..) (Ev.neg (by omega) (Ev.ret ?_))
      rw [List.drop_of_length_le (by omega)]; simp [pats]
    | succ m ih =>
      intro i acc y hi ha hy hr
      have hlt : i < ts.length := by omega
      obtain ⟨z, hz, hr', hp⟩ := run_drop ts y e i hlt hr
      have htt := ht _ (List.getElem_mem hlt)
      obtain ⟨z1, z2, z3⟩ := tn_some htt hz
      have hst := tn_go htt hz
      refine Ev.succ (fun k => impl_ReportOf.l0.eq_2 ..) (Ev.pos (by omega) (Ev.pos (by omega) (Ev.pos (by omega) ?_)))
      rw [rd_cast ts i hlt]
      refine Ev.bind (impl_went_ev ..) ?_
      simp only
      rw [decide_eq_true hst, ← z1, ← z2]
      refine Ev.pos rfl (Ev.bind (impl_PatternAt_ev ..) (Ev.pos (by omega) ?_))
      rw [wrap_nat (by omega), hp]
      have := ih (i + 1) (acc ++ [pn w h o z]) z (by omega) (by simp [ha]) z3 hr'
      rwa [List.append_assoc, List.singleton_append] at this
  have := go ts.length 0 [pn w h o x] x (by omega) rfl hx (by rw [List.drop_zero]; exact hr)
  rw [List.drop_zero, List.singleton_append] at this
  exact this
/-- Alike: the same reports for all lists of at most so many turns. -/
def alikeN (w h o : Int) : Nat → Nat → Nat → Bool
  | 0, a, b => pn w h o a == pn w h o b
  | d + 1, a, b => (pn w h o a == pn w h o b) && [0, 1, 2, 3].all fun t => match tn w h o a t, tn w h o b t with
    | some x, some y => alikeN w h o d x y
    | none, none => true
    | _, _ => false
theorem alikeN_refl (w h o : Int) : ∀ d a, alikeN w h o d a a = true
  | 0, a => by simp [alikeN]
  | d + 1, a => by
    simp only [alikeN, beq_self_eq_true, Bool.true_and, List.all_eq_true]
    intro t _
    cases tn w h o a t with
    | none => rfl
    | some x => exact alikeN_refl w h o d x
theorem alikeN_symm (w h o : Int) : ∀ d a b, alikeN w h o d a b = alikeN w h o d b a
  | 0, a, b => by simp only [alikeN]; exact Bool.beq_comm ..
  | d + 1, a, b => by
    simp only [alikeN]
    congr 1
    · exact Bool.beq_comm ..
    · congr 1
      funext t
      cases tn w h o a t <;> cases tn w h o b t <;> simp [alikeN_symm w h o d]
theorem alikeN_pn {w h o : Int} : ∀ {d a b}, alikeN w h o d a b = true → pn w h o a = pn w h o b
  | 0, a, b, q => by simpa [alikeN] using q
  | d + 1, a, b, q => by simp only [alikeN, Bool.and_eq_true, beq_iff_eq] at q; exact q.1
/-- What the rounds over the turns come to, from turn t on. -/
def allN (w h o : Int) (d a b : Nat) (t : Nat) : Bool := (([0, 1, 2, 3] : List Int).drop t).all fun t => match tn w h o a t, tn w h o b t with
    | some x, some y => alikeN w h o d x y
    | none, none => true
    | _, _ => false
theorem impl_alike_ev (w h o : Int) : ∀ (d a b : Nat), d ≤ 6 → a < NW w h → b < NW w h → Ev (fun k => impl_alike.f k w h o ((a / 4 : Nat) : Int) ((a % 4 : Nat) : Int) ((b / 4 : Nat) : Int) ((b % 4 : Nat) : Int) (d : Int)) (alikeN w h o d a b) := by
  intro d
  induction d with
  | zero =>
    intro a b hd ha hb
    refine Ev.succ (fun k => impl_alike.f.eq_2 ..) (Ev.bind (impl_PatternAt_ev ..) (Ev.bind (impl_PatternAt_ev ..) ?_))
    by_cases hq : pn w h o a = pn w h o b
    · refine Ev.pos hq (Ev.succ (fun k => impl_alike.l0.eq_2 ..) (Ev.neg (by omega) (Ev.succ (fun k => impl_alike.j1.eq_2 ..) (Ev.neg (by decide) (Ev.ret ?_)))))
      simp [alikeN, hq]
    · exact Ev.neg hq (Ev.ret (by simp [alikeN, hq]))
  | succ d ih =>
    intro a b hd ha hb
    refine Ev.succ (fun k => impl_alike.f.eq_2 ..) (Ev.bind (impl_PatternAt_ev ..) (Ev.bind (impl_PatternAt_ev ..) ?_))
    by_cases hq : pn w h o a = pn w h o b
    · refine Ev.pos hq ?_
      have go : ∀ (m t : Nat), t + m = 4 → Ev (fun k => impl_alike.l0 k ((d + 1 : Nat) : Int) (t : Int) w h o ((a / 4 : Nat) : Int) ((a % 4 : Nat) : Int) ((b / 4 : Nat) : Int) ((b % 4 : Nat) : Int)) (allN w h o d a b t) := by
        intro m
        induction m with
        | zero =>
          intro t ht
          obtain rfl : t = 4 := by omega
          exact Ev.succ (fun k => impl_alike.l0.eq_2 ..) (Ev.pos (by omega) (Ev.succ (fun k => impl_alike.j1.eq_2 ..) (Ev.neg (by decide) (Ev.ret (by simp [allN])))))
        | succ m ihm =>
          intro t ht
          have hd4 : ([0, 1, 2, 3] : List Int).drop t = (t : Int) :: ([0, 1, 2, 3] : List Int).drop (t + 1) := by
            rcases (by omega : t = 0 ∨ t = 1 ∨ t = 2 ∨ t = 3) with rfl | rfl | rfl | rfl <;> rfl
          have hn := ihm (t + 1) (by omega)
          refine Ev.succ (fun k => impl_alike.l0.eq_2 ..) (Ev.pos (by omega) (Ev.succ (fun k => impl_alike.j1.eq_2 ..) (Ev.pos (decide_eq_true (by omega)) (Ev.bind (impl_went_ev ..) (Ev.bind (impl_went_ev ..) ?_)))))
          unfold allN
          rw [hd4, List.all_cons]
          simp only
          have htt : (0 : Int) ≤ (t : Int) ∧ (t : Int) ≤ 3 := by omega
          cases hx : tn w h o a (t : Int) with
          | none =>
            have e1 := tn_none hx
            rw [show decide (step w h o ((a / 4 : Nat) : Int) (dirAt ((a % 4 : Nat) : Int) (t : Int)) ≥ 0) = false from decide_eq_false (by omega)]
            cases hy : tn w h o b (t : Int) with
            | none =>
              have e2 := tn_none hy
              rw [show decide (step w h o ((b / 4 : Nat) : Int) (dirAt ((b % 4 : Nat) : Int) (t : Int)) ≥ 0) = false from decide_eq_false (by omega)]
              refine Ev.neg (by decide) (Ev.neg (by decide) ?_)
              rw [wrap_nat (by omega), Bool.true_and]
              exact hn
            | some y =>
              have e2 := tn_go htt hy
              rw [show decide (step w h o ((b / 4 : Nat) : Int) (dirAt ((b % 4 : Nat) : Int) (t : Int)) ≥ 0) = true from decide_eq_true (by omega)]
              exact Ev.pos (by decide) (Ev.ret (by simp))
          | some x =>
            have e1 := tn_go htt hx
            obtain ⟨x1, x2, x3⟩ := tn_some htt hx
            rw [show decide (step w h o ((a / 4 : Nat) : Int) (dirAt ((a % 4 : Nat) : Int) (t : Int)) ≥ 0) = true from decide_eq_true (by omega)]
            cases hy : tn w h o b (t : Int) with
            | none =>
              have e2 := tn_none hy
              rw [show decide (step w h o ((b / 4 : Nat) : Int) (dirAt ((b % 4 : Nat) : Int) (t : Int)) ≥ 0) = false from decide_eq_false (by omega)]
              exact Ev.pos (by decide) (Ev.ret (by simp))
            | some y =>
              have e2 := tn_go htt hy
              obtain ⟨y1, y2, y3⟩ := tn_some htt hy
              rw [show decide (step w h o ((b / 4 : Nat) : Int) (dirAt ((b % 4 : Nat) : Int) (t : Int)) ≥ 0) = true from decide_eq_true (by omega)]
              refine Ev.neg (by decide) (Ev.pos rfl ?_)
              rw [← x1, ← x2, ← y1, ← y2, wrap_id (n := ((d + 1 : Nat) : Int) - 1) (by omega), show ((d + 1 : Nat) : Int) - 1 = (d : Int) by omega]
              refine Ev.bind (ih x y (by omega) x3 y3) ?_
              cases hal : alikeN w h o d x y with
              | true =>
                refine Ev.pos rfl ?_
                rw [wrap_nat (by omega)]
                simp only [hal, Bool.true_and]
                exact hn
              | false => exact Ev.neg (by decide) (Ev.ret (by simp [hal]))
      have := go 4 0 rfl
      have e : alikeN w h o (d + 1) a b = allN w h o d a b 0 := by simp only [alikeN, allN, List.drop_zero, hq, beq_self_eq_true, Bool.true_and]
      rw [e]
      exact this
    · exact Ev.neg hq (Ev.ret (by simp [alikeN, hq]))
theorem impl_LikeWalkers_ev (w h o : Int) (d a b : Nat) (hm : mok w h o = true) (hd : d ≤ 6) (ha : a < NW w h) (hb : b < NW w h) : Ev (fun k => impl_LikeWalkers.f k w h o ((a / 4 : Nat) : Int) ((a % 4 : Nat) : Int) ((b / 4 : Nat) : Int) ((b % 4 : Nat) : Int) (d : Int)) (alikeN w h o d a b) := by
  have hnw := @NW_eq w h
  have hwok : ∀ x : Nat, x < NW w h → wok w h o ((x / 4 : Nat) : Int) ((x % 4 : Nat) : Int) = true := by
    intro x hx
    unfold wok
    rw [hm, cok_iff.2 (by omega), Bool.true_and, Bool.true_and, decide_eq_true (by omega), decide_eq_true (by omega)]; rfl
  unfold impl_LikeWalkers.f
  exact Ev.bindc (impl_WalkerOk_ev ..) (Ev.pos (hwok a ha) (Ev.bindc (impl_WalkerOk_ev ..) (Ev.pos (hwok b hb) (Ev.pos (by omega) (Ev.pos (by omega) (Ev.bind (impl_alike_ev w h o d a b hd ha hb) (Ev.now _)))))))
end Go.Proofs.Ytfpomjnhgcmgoaa.Pure

