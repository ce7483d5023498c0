/- The plain law of FnExactScriptText. -/
import Derived.Test.YtfpomjnhgcmgoaaDoorAct
namespace Go.Proofs.YtfpomjnhgcmgoaaDoor.Pure
open Go.RowKit Go.Proofs.YtfpomjnhgcmgoaaDoorW.PrintWords Go.Proofs.YtfpomjnhgcmgoaaDoor.P Go.Proofs.YtfpomjnhgcmgoaaDoor.Kit
abbrev IAct := S26
abbrev LAct := S23
def toAct (x : LAct) : IAct := ⟨x.f0, x.f1, x.f2⟩
theorem toActS_l0 (l : List LAct) (hl : l.length ≤ 1048576) : ∀ (d i : Nat), i + d = l.length → Ev (fun k => laws_toActS.l0 k l ((l.take i).map toAct ++ List.replicate d z26) i) (l.map toAct) := by
  intro d
  induction d with
  | zero =>
    intro i hi
    refine Ev.succ (fun k => rfl) ?_
    refine Ev.neg (by omega) (Ev.ret ?_)
    rw [List.take_of_length_le (by omega)]
    simp
  | succ d ih =>
    intro i hi
    refine Ev.succ (fun k => rfl) ?_
    refine Ev.pos (by omega) (Ev.pos (by omega) (Ev.bindc rfl (Ev.pos ?_ ?_)))
    · simp only [List.length_append, List.length_map, List.length_take, List.length_replicate]
      omega
    · rw [wrap_nat (by omega)]
      have h := ih (i + 1) (by omega)
      have e : ((l.take i).map toAct ++ List.replicate (d + 1) z26).set ((i : Nat) : Int).toNat (⟨(rd_T23 l i).f0, (rd_T23 l i).f1, (rd_T23 l i).f2⟩ : IAct) = (l.take (i + 1)).map toAct ++ List.replicate d z26 := by
        have hr : rd_T23 l (i : Nat) = l[i]'(by omega) := getD_cast l i _ (by omega)
        rw [hr, Int.toNat_natCast, List.set_append_right _ _ (by simp; omega)]
        have hlen : ((l.take i).map toAct).length = i := by simp; omega
        rw [hlen, Nat.sub_self, List.replicate_succ, List.set_cons_zero, List.take_succ_eq_append_getElem (by omega), List.map_append, List.append_assoc]
        rfl
      rw [← e] at h
      exact h
theorem toActS_ev (l : List LAct) (hl : l.length ≤ 1048576) : Ev (fun k => laws_toActS.f k l) (l.map toAct) := by
  unfold laws_toActS.f
  refine Ev.pos (by omega) (Ev.pos (by omega) ?_)
  have h := toActS_l0 l hl l.length 0 (by omega)
  simpa using h
theorem eqActS_l0 (l : List IAct) (hl : l.length ≤ 1048576) : ∀ (d i : Nat), i + d = l.length → Ev (fun k => laws_eqActS.l0 k l l i) true := by
  intro d
  induction d with
  | zero =>
    intro i hi
    exact Ev.succ (fun k => rfl) (Ev.neg (by omega) (Ev.now _))
  | succ d ih =>
    intro i hi
    refine Ev.succ (fun k => rfl) ?_
    refine Ev.pos (by omega) (Ev.pos (by omega) (Ev.pos (by omega) (Ev.bindc (a := true) (by unfold laws_eqAct.f; simp) (Ev.pos rfl ?_))))
    rw [wrap_nat (by omega)]
    exact ih (i + 1) (by omega)
theorem eqActS_ev (l : List IAct) (hl : l.length ≤ 1048576) : Ev (fun k => laws_eqActS.f k l l) true := by
  unfold laws_eqActS.f
  exact Ev.pos rfl (eqActS_l0 l hl l.length 0 (by omega))
/-- The text of acts, behind what there is. -/
def scr : List IAct → ByteArray → ByteArray × Bool
  | [], x => (x, true)
  | a :: r, x => if actOk a.f0 a.f1 a.f2 = true then scr r (x ++ (⟨(actL a.f0 a.f1 a.f2).toArray⟩ ++ ⟨#[10]⟩)) else (⟨#[]⟩, false)
theorem dg100_len (u : Nat) : (dg100 u).length ≤ 2 := by unfold dg100; split <;> simp
theorem wordL_len (k : Int) : (wordL k).length ≤ 5 := by unfold wordL; (repeat' split) <;> simp
theorem actL_len (k a b : Int) : (actL k a b).length ≤ 11 := by
  have h1 := wordL_len k
  have h2 := dg100_len a.toNat
  have h3 := dg100_len b.toNat
  unfold actL
  rw [List.length_append]
  split
  · simp; omega
  · split <;> simp <;> omega
theorem mk_size (l : List UInt8) : (⟨l.toArray⟩ : ByteArray).size = l.length := rfl
theorem strOfNums_append (x : List Int) (b : ByteArray) : strOfNums (x ++ bytesOf b) = strOfNums x ++ b := by
  apply ByteArray.ext
  apply Array.ext'
  have e : b.data.toList.map ((fun n : Int => UInt8.ofNat n.toNat) ∘ fun c : UInt8 => (c.toNat : Int)) = b.data.toList := by
    rw [List.map_congr_left (g := id) (fun c _ => by simp)]
    simp
  simp [strOfNums, bytesOf, ByteArray.data_append, e]
theorem spec_ScriptText_l0 (l : List IAct) (hl : l.length ≤ 40) : ∀ (d i : Nat) (x : List Int), i + d = l.length → x.length ≤ 12 * i → Ev (fun k => spec_ScriptText.l0 k l x i) (scr (l.drop i) (strOfNums x)) := by
  intro d
  induction d with
  | zero =>
    intro i x hi hx
    rw [List.drop_of_length_le (by omega)]
    exact Ev.succ (fun k => rfl) (Ev.neg (by omega) (Ev.ret rfl))
  | succ d ih =>
    intro i x hi hx
    rw [drop_cons l i (by omega)]
    refine Ev.succ (fun k => spec_ScriptText.l0.eq_2 ..) ?_
    have hr : rd_T26 l (i : Nat) = l[i]'(by omega) := getD_cast l i _ (by omega)
    rw [hr]
    generalize l[i]'(by omega) = a
    refine Ev.pos (by omega) (Ev.pos (by omega) (Ev.bind (spec_FormatAct_ev a.f0 a.f1 a.f2) ?_))
    unfold fmtAct scr
    by_cases h : actOk a.f0 a.f1 a.f2 = true
    · rw [if_pos h, if_pos h]
      dsimp only
      have hs := actL_len a.f0 a.f1 a.f2
      have hm := mk_size (actL a.f0 a.f1 a.f2)
      have hs' : ((⟨(actL a.f0 a.f1 a.f2).toArray⟩ : ByteArray) ++ (⟨#[10]⟩ : ByteArray)).size ≤ 12 := by rw [ByteArray.size_append, mk_size]; show _ + 1 ≤ 12; omega
      refine Ev.pos rfl (Ev.neg (by omega) (Ev.pos (by omega) (Ev.pos (by omega) ?_)))
      rw [wrap_nat (by omega), ← strOfNums_append]
      refine ih (i + 1) _ (by omega) ?_
      rw [List.length_append, bytesOf_length]
      omega
    · rw [if_neg h, if_neg h]
      exact Ev.neg (by simp) (Ev.now _)
theorem impl_ScriptText_l0 (l : List IAct) (hl : l.length ≤ 40) : ∀ (d i : Nat) (x : ByteArray), i + d = l.length → x.size ≤ 12 * i → Ev (fun k => impl_ScriptText.l0 k x l l.length i) (scr (l.drop i) x) := by
  intro d
  induction d with
  | zero =>
    intro i x hi hx
    rw [List.drop_of_length_le (by omega)]
    exact Ev.succ (fun k => rfl) (Ev.neg (by omega) (Ev.ret rfl))
  | succ d ih =>
    intro i x hi hx
    rw [drop_cons l i (by omega)]
    refine Ev.succ (fun k => impl_ScriptText.l0.eq_2 ..) ?_
    have hr : rd_T26 l (i : Nat) = l[i]'(by omega) := getD_cast l i _ (by omega)
    rw [hr]
    generalize l[i]'(by omega) = a
    refine Ev.pos (by omega) (Ev.pos (by omega) (Ev.pos (by omega) (Ev.bind (impl_FormatAct_ev a.f0 a.f1 a.f2) ?_)))
    unfold fmtAct scr
    by_cases h : actOk a.f0 a.f1 a.f2 = true
    · rw [if_pos h, if_pos h]
      dsimp only
      have hs := actL_len a.f0 a.f1 a.f2
      have hm := mk_size (actL a.f0 a.f1 a.f2)
      have hs' : ((⟨(actL a.f0 a.f1 a.f2).toArray⟩ : ByteArray) ++ (⟨#[10]⟩ : ByteArray)).size ≤ 12 := by rw [ByteArray.size_append, mk_size]; show _ + 1 ≤ 12; omega
      refine Ev.pos rfl (Ev.pos (by omega) (Ev.pos (by omega) ?_))
      rw [wrap_nat (by omega)]
      refine ih (i + 1) _ (by omega) ?_
      rw [ByteArray.size_append]
      omega
    · rw [if_neg h, if_neg h]
      exact Ev.neg (by simp) (Ev.now _)
/-- What both come to. -/
def script (l : List IAct) : ByteArray × Bool := if l.length > 40 then (⟨#[]⟩, false) else scr l ⟨#[]⟩
theorem impl_ScriptText_ev (l : List IAct) : Ev (fun k => impl_ScriptText.f k l) (script l) := by
  unfold impl_ScriptText.f script
  by_cases h : l.length > 40
  · rw [if_pos h]
    exact Ev.pos (by omega) (Ev.now _)
  · rw [if_neg h]
    exact Ev.neg (by omega) (impl_ScriptText_l0 l (by omega) l.length 0 ⟨#[]⟩ (by omega) (Nat.le_refl 0))
theorem spec_ScriptText_ev (l : List IAct) : Ev (fun k => spec_ScriptText.f k l) (script l) := by
  unfold spec_ScriptText.f script
  by_cases h : l.length > 40
  · rw [if_pos h]
    refine Ev.succ (fun k => rfl) (Ev.pos (by omega) (Ev.pos (by omega) (Ev.bind (spec_FormatAct_ev _ _ _) ?_)))
    unfold fmtAct
    split
    · exact Ev.pos rfl (Ev.pos (by omega) (Ev.now _))
    · exact Ev.neg (by simp) (Ev.now _)
  · rw [if_neg h]
    have h0 := spec_ScriptText_l0 l (by omega) l.length 0 [] (by omega) (by simp)
    exact h0
theorem FnExactScriptText (l : List LAct) (hb : l.length ≤ 9223372036854775807 ∧ ∀ x ∈ l, I64 x.f0 ∧ I64 x.f1 ∧ I64 x.f2) : ∃ k, laws_FnExactScriptText.f k l = some true := by
  refine Ev.rounds (g := fun k => laws_FnExactScriptText.f k l) ?_
  unfold laws_FnExactScriptText.f laws_szActS.f
  by_cases h : (wrap64 (1048576 - (l.length : Int))) < 0
  · rw [if_pos h]
    exact Ev.bindc rfl (Ev.pos (by omega) (Ev.now _))
  · rw [if_neg h]
    by_cases hl : l.length ≤ 1048576
    · refine Ev.bindc rfl (Ev.neg h (Ev.bind (toActS_ev l hl) (Ev.bind (spec_ScriptText_ev _) (Ev.bind (toActS_ev l hl) (Ev.bind (impl_ScriptText_ev _) (Ev.pos rfl ?_))))))
      refine Ev.succ (fun k => rfl) (Ev.neg (by simp) (Ev.bind (toActS_ev l hl) (Ev.bind (eqActS_ev _ (by simpa using hl)) (Ev.pos rfl (Ev.now _)))))
    · exact absurd (show wrap64 (1048576 - (l.length : Int)) < 0 by have := hb.1; rw [wrap_id (by omega)]; omega) h
end Go.Proofs.YtfpomjnhgcmgoaaDoor.Pure
