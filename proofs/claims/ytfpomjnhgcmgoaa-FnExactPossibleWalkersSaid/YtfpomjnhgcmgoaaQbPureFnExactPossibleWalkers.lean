/- The plain law of FnExactPossibleWalkers. -/
import Derived.Test.YtfpomjnhgcmgoaaQbLoc2
namespace Go.Proofs.Ytfpomjnhgcmgoaa.Pure
set_option linter.unusedVariables false
set_option linter.unusedSimpArgs false
open Go.RowKit Go.Proofs.YtfpomjnhgcmgoaaW.PrintWords Go.Proofs.Ytfpomjnhgcmgoaa.P Go.Proofs.Ytfpomjnhgcmgoaa.Kit
theorem rd_pos (l : List WK) (i : Nat) (hi : i < l.length) : rd_T43 l (i : Int) = l[i] := getD_cast l i _ hi
theorem laws_eqWalkerS_ev (l : List WK) (hl : l.length ≤ 1048576) : Ev (fun k => laws_eqWalkerS.f k l l) true := by
  unfold laws_eqWalkerS.f
  refine Ev.pos rfl ?_
  refine Ev.down (L := fun i k => laws_eqWalkerS.l0 k l l (i : Int)) l.length ?_ ?_
  · intro i hi ih
    refine Ev.succ (fun k => laws_eqWalkerS.l0.eq_2 ..) ?_
    refine Ev.pos (by omega) (Ev.pos (by omega) (Ev.pos (by omega) ?_))
    unfold laws_eqWalker.f
    rw [if_pos rfl, if_pos rfl]
    refine Ev.bind (Ev.now _) (Ev.pos rfl ?_)
    rw [wrap_nat (by omega)]
    exact ih
  · exact Ev.succ (fun k => laws_eqWalkerS.l0.eq_2 ..) (Ev.neg (by omega) (Ev.now _))
/-- Marks: two numbers an element, one after the other. -/
def mkd (a : Int) (n : Nat) : List WK := (List.range n).map fun i => ⟨a + 2 * (i : Nat), a + 2 * (i : Nat) + 1⟩
theorem laws_markWalkerS_ev (l : List WK) (hl : l.length ≤ 1048576) : Ev (fun k => laws_markWalkerS.f k l 1) (1 + 2 * (l.length : Int), mkd 1 l.length) := by
  unfold laws_markWalkerS.f
  have hm : (mkd 1 l.length).length = l.length := by simp [mkd]
  refine Ev.down (L := fun i k => laws_markWalkerS.l0 k ((mkd 1 l.length).take i ++ l.drop i) (1 + 2 * (i : Int)) (i : Int)) l.length ?_ ?_
  · intro i hi ih
    have hlen : ((mkd 1 l.length).take i ++ l.drop i).length = l.length := by simp [hm]; omega
    refine Ev.succ (fun k => laws_markWalkerS.l0.eq_2 ..) (Ev.pos (by omega) (Ev.pos (by omega) ?_))
    simp only [Option.bind_some]
    rw [rd_pos _ i (by simp [hm]; omega), List.set_set, Int.toNat_natCast]
    rw [rd_pos _ i (by simp [hm]; omega)]
    simp only [List.getElem_set_self]
    rw [wrap_nat (by omega), wrap_id (n := 1 + 2 * (i : Int) + 1) (by omega), wrap_id (by omega), set_next (mkd 1 l.length) l i (by omega) (by omega) _ (by simp [mkd])]
    rw [show 1 + 2 * (i : Int) + 1 + 1 = 1 + 2 * ((i + 1 : Nat) : Int) by omega]
    exact ih
  · refine Ev.succ (fun k => laws_markWalkerS.l0.eq_2 ..) (Ev.neg (by simp [hm]) (Ev.ret ?_))
    rw [List.drop_of_length_le (Nat.le_refl _), List.take_of_length_le (by omega), List.append_nil]
theorem laws_heldWalkerS_ev (n : Nat) (hn : n ≤ 1048576) : Ev (fun k => laws_heldWalkerS.f k (mkd 1 n) 1) (1 + 2 * (n : Int)) := by
  unfold laws_heldWalkerS.f
  have hm : (mkd 1 n).length = n := by simp [mkd]
  refine Ev.down (L := fun i k => laws_heldWalkerS.l0 k (mkd 1 n) (1 + 2 * (i : Int)) (i : Int)) n ?_ ?_
  · intro i hi ih
    refine Ev.succ (fun k => laws_heldWalkerS.l0.eq_2 ..) (Ev.pos (by omega) (Ev.pos (by omega) ?_))
    rw [rd_pos _ i (by omega)]
    simp only [mkd, List.getElem_map, List.getElem_range]
    rw [wrap_id (n := 1 + 2 * (i : Int) + 1) (by omega), wrap_nat (by omega), wrap_id (by omega)]
    refine Ev.pos (by first | rfl | trivial) (Ev.pos (by first | rfl | trivial) ?_)
    rw [show 1 + 2 * (i : Int) + 1 + 1 = 1 + 2 * ((i + 1 : Nat) : Int) by omega]
    exact ih
  · exact Ev.succ (fun k => laws_heldWalkerS.l0.eq_2 ..) (Ev.neg (by omega) (Ev.now _))
theorem pws_len (w h o : Int) (ps ts : List Int) : (pws w h o ps ts).length ≤ 64 := by
  unfold pws fits
  split
  · rw [List.length_map]
    have := List.length_filter_le (stN w h o (NW w h) (ts.zip (ps.drop 1)) (fun x => pn w h o x == rd ps 0)) (List.range (NW w h))
    have h2 := (@NW_eq w h).2
    simp at this ⊢; omega
  · simp
theorem FnExactPossibleWalkers (w h o : Int) (l1 l2 : List Int) (_ : (I64 w ∧ I64 h) ∧ I64 o) (_ : l1.length ≤ 9223372036854775807 ∧ ∀ x ∈ l1, I64 x) (_ : l2.length ≤ 9223372036854775807 ∧ ∀ x ∈ l2, I64 x) : ∃ k, laws_FnExactPossibleWalkers.f k w h o l1 l2 = some true := by
  refine Ev.rounds (g := fun k => laws_FnExactPossibleWalkers.f k w h o l1 l2) ?_
  unfold laws_FnExactPossibleWalkers.f laws_toMaze.f laws_toGrid.f
  simp only [Option.bind_some]
  by_cases h1 : (l1.length : Int) > 1048576
  · exact Ev.pos h1 (Ev.now _)
  refine Ev.neg h1 ?_
  by_cases h2 : (l2.length : Int) > 1048576
  · exact Ev.pos h2 (Ev.now _)
  refine Ev.neg h2 ?_
  have t1 := laws_toIntS_ev l1 (by omega)
  have t2 := laws_toIntS_ev l2 (by omega)
  have hs := spec_PossibleWalkers_ev w h o l1 l2 (by omega) (by omega)
  have hi := impl_PossibleWalkers_ev w h o l1 l2 (by omega) (by omega)
  have hlen := pws_len w h o l1 l2
  have he := laws_eqWalkerS_ev (pws w h o l1 l2) (by omega)
  have hm := laws_markWalkerS_ev (pws w h o l1 l2) (by omega)
  have hh := laws_heldWalkerS_ev (pws w h o l1 l2).length (by omega)
  obtain ⟨m1, hm1⟩ := laws_markIntS_ev l1 1 (by omega) (by omega)
  obtain ⟨m2, hm2⟩ := laws_markIntS_ev l2 (1 + l1.length) (by omega) (by omega)
  refine Ev.bind t1 (Ev.bind t2 (Ev.bind hs (Ev.bind t1 (Ev.bind t2 (Ev.bind hi (Ev.bind he (Ev.pos rfl ?_)))))))
  refine Ev.bind t1 (Ev.bind (laws_eqIntS_ev l1 (by omega)) (Ev.pos rfl (Ev.bind t2 (Ev.bind (laws_eqIntS_ev l2 (by omega)) (Ev.pos rfl ?_)))))
  refine Ev.bind hm1 (Ev.bind hm2 (Ev.neg (by simp only; omega) (Ev.bind he ?_)))
  refine Ev.succ (fun k => laws_FnExactPossibleWalkers.j0.eq_2 ..) (Ev.neg (by simp) ?_)
  refine Ev.bind hm (Ev.bind hh (Ev.neg (by omega) (Ev.pos rfl ?_)))
  unfold laws_toMaze.f laws_toGrid.f
  simp only [Option.bind_some]
  exact Ev.bind t1 (Ev.bind t2 (Ev.bind hi (Ev.bind he (Ev.pos rfl (Ev.bind hh (Ev.neg (by omega) (Ev.pos rfl (Ev.now _))))))))
end Go.Proofs.Ytfpomjnhgcmgoaa.Pure

