/- A row of a call's own (the printed words) and the sort's words on rows: down to 'HoldsK', and up again behind the sort. Of no program. -/
import Derived.Test.YtfpomjnhgcmgoaaQcWWords
import Derived.Test.YtfpomjnhgcmgoaaQcWKept
import Derived.Shelf.SlSortCmp.NoneTotal
namespace Go.Proofs.Ytfpomjnhgcmgoaa.Row
set_option linter.unusedVariables false
set_option linter.unusedSimpArgs false
open Go.RowKit Go.Lib Go.Proofs.YtfpomjnhgcmgoaaW.PrintWords
section
variable {α : Type} [Inhabited α]
theorem flatMap_get {enc : α → List Value} {k : Nat} (hk : ∀ x, (enc x).length = k) (h0 : 0 < k) : ∀ (l : List α) (t : Nat), (l.flatMap enc)[t]? = if t < l.length * k then some ((enc (l.getD (t / k) default))[t % k]!) else none
  | [], t => by simp
  | x :: r, t => by
    rw [List.flatMap_cons]
    by_cases h : t < k
    · rw [List.getElem?_append_left (by rw [hk]; exact h), if_pos (by simp [Nat.add_mul]; omega), Nat.div_eq_of_lt h, Nat.mod_eq_of_lt h, List.getElem?_eq_getElem (by rw [hk]; exact h)]
      simp [getElem!_pos, hk, h]
    · rw [List.getElem?_append_right (by rw [hk]; omega), hk, flatMap_get hk h0 r (t - k)]
      have e1 : t / k = (t - k) / k + 1 := by rw [← Nat.add_div_right _ h0]; congr 1; omega
      have e2 : t % k = (t - k) % k := by rw [← Nat.add_mod_right (t - k)]; congr 1; omega
      rw [e1, e2]
      by_cases h2 : t - k < r.length * k
      · rw [if_pos h2, if_pos (by simp [Nat.add_mul]; omega)]; simp
      · rw [if_neg h2, if_neg (by simp [Nat.add_mul]; omega)]
theorem flatK_toList {enc : α → List Value} {k : Nat} (hk : ∀ x, (enc x).length = k) (h0 : 0 < k) (d : Array α) : (Sort.flatK enc k d).toList = d.toList.flatMap enc := by
  apply List.ext_getElem?
  intro t
  rw [flatMap_get hk h0, Array.getElem?_toList]
  by_cases h : t < d.size * k
  · rw [if_pos (by simpa using h), Array.getElem?_eq_getElem (by simpa using h)]
    have := Sort.get_flatK enc k d t h
    rw [getElem!_pos _ t (by simpa using h)] at this
    rw [this]
    have hq : t / k < d.size := (Nat.div_lt_iff_lt_mul h0).2 h
    simp [getElem!_pos, hq, List.getD]
  · rw [if_neg (by simpa using h), Array.getElem?_eq_none (by simpa using Nat.le_of_not_lt h)]
theorem reps_inner {β : Type} {enc : β → List Value} {R : β → List Value → Prop} {k : Nat} (hR : ∀ x c, R x c → c = enc x) {ps : List β} {cs : List Value} (h : Reps R k ps cs) : cs = ps.flatMap enc := by
  induction ps generalizing cs with
  | nil => have := h.1; simp at this; simp [this]
  | cons x r ih =>
    have h1 := hR _ _ (h.2 0 x rfl)
    simp at h1
    have h2 : Reps R k r (cs.drop k) := ⟨by rw [List.length_drop, h.1]; simp [Nat.add_mul], fun j p hp => by
      have := h.2 (j + 1) p (by simpa using hp)
      rwa [Nat.add_mul, Nat.one_mul, Nat.add_comm, ← List.drop_drop] at this⟩
    rw [List.flatMap_cons, ← ih h2, ← h1, List.take_append_drop]
theorem reps_of {β : Type} {enc : β → List Value} {R : β → List Value → Prop} {k : Nat} (hk : ∀ x, (enc x).length = k) (hR : ∀ x, R x (enc x)) : ∀ (ps : List β), Reps R k ps (ps.flatMap enc)
  | [] => Reps.none _ _
  | x :: r => by
    have ih := reps_of hk hR r
    refine ⟨by rw [List.flatMap_cons, List.length_append, hk, ih.1]; simp [Nat.add_mul]; omega, fun j p hp => ?_⟩
    cases j with
    | zero => obtain rfl : x = p := by simpa using hp
              rw [List.flatMap_cons]; simp [List.take_left' (hk x)]; exact hR x
    | succ j =>
      rw [List.flatMap_cons, Nat.add_mul, Nat.one_mul, Nat.add_comm, ← List.drop_drop, List.drop_left' (hk x)]
      exact ih.2 j p (by simpa using hp)
/-- The world behind a sort of a row of the call's own: what it says of the row, and of the rest. -/
theorem R_sorted {β : Type} {d : Kd β} {enc : β → List Value} {val : α → β} {e base n cap g m : Nat} {ok : Nat → Prop} {w : World} {xs : List β} {dk : Array α} {os : Array Obj} (hk : ∀ x, (enc x).length = d.sz) (h0 : 0 < d.sz)
    (hM : ∀ {w base ok x}, d.M w base ok x (enc x)) (h : d.R e w base ok (.slice (some ⟨g, 0, none⟩) n cap) xs) (hs : dk.size = n) :
    d.R e (sortWorldK (fun a => enc (val a)) d.sz w g 0 m dk os) base ok (.slice (some ⟨g, 0, none⟩) n cap) (dk.toList.map val) := by
  obtain ⟨h1, inner, ho, hr⟩ := h
  refine ⟨h1, _, ?_, reps_of (R := d.M _ base _) hk (fun x => hM) _⟩
  have hl : n = xs.length := by rcases ho.2 with ⟨q, _⟩ | ⟨g', cap', cur, q, _⟩ <;> simp at q; exact q.2.1
  rcases ho.2 with ⟨q, _⟩ | ⟨g', cap', cur, q, hb, hg, hn, hm, hc, ht⟩
  · simp at q
  · obtain ⟨⟨rfl⟩, rfl, rfl⟩ : (g = g') ∧ n = xs.length ∧ cap = cap' := by simpa using q
    have hF : (Sort.flatK (fun a => enc (val a)) d.sz dk).toList = (dk.toList.map val).flatMap enc := by
      rw [flatK_toList (fun x => hk _) h0, List.flatMap_map]
    have hlt : g < w.heap.size := blk_lt hg
    refine ⟨by rw [← hF, Array.length_toList, Sort.size_flatK, hs]; simp [hs], .inr ⟨g, cap, Sort.putCells id 0 (Sort.flatK (fun a => enc (val a)) d.sz dk) cur, by simp [hs], hb, ?_, by simp [hs]; exact hn, hm, by simpa [Sort.putCells] using hc, ?_⟩⟩
    · have e1 : (sortWorldK (fun a => enc (val a)) d.sz w g 0 m dk os).heap[g]? = (w.heap.modify g (Sort.onCells (Sort.putCells id 0 (Sort.flatK (fun a => enc (val a)) d.sz dk))))[g]? := by
        show ((w.heap.modify g _) ++ os)[g]? = _
        rw [Array.getElem?_append_left (by simpa using hlt)]
      rw [e1, Array.getElem?_modify, if_pos rfl, hg]
      rfl
    · rw [← hF]
      have hsz : (dk.toList.map val).length * d.sz = dk.size * d.sz := by simp
      rw [hsz]
      have hle : dk.size * d.sz ≤ cur.size := by rw [hc, hs]; exact Nat.mul_le_mul_right _ hn
      apply List.ext_getElem?
      intro j
      rw [List.getElem?_take, Array.getElem?_toList, Array.getElem?_toList]
      by_cases hj : j < dk.size * d.sz
      · have hjc : j < cur.size := by omega
        rw [if_pos hj]
        simp only [Sort.putCells, Array.getElem?_mapIdx, Array.getElem?_eq_getElem hjc, Option.map_some]
        rw [if_pos (by simp; omega), Array.getElem?_eq_getElem (by simpa using hj), Nat.sub_zero, id, getElem!_pos _ j (by simpa using hj)]
      · rw [if_neg hj, Array.getElem?_eq_none (by simpa using Nat.le_of_not_lt hj)]
omit [Inhabited α] in
theorem R_row {β : Type} {d : Kd β} {e base n cap g : Nat} {ok : Nat → Prop} {w : World} {xs : List β} (h : d.R e w base ok (.slice (some ⟨g, 0, none⟩) n cap) xs) : n = xs.length ∧ base ≤ g ∧ g < w.heap.size ∧ ok g ∧ n ≤ maxLen := by
  obtain ⟨h1, inner, ho, hr⟩ := h
  rcases ho.2 with ⟨q, _⟩ | ⟨g', cap', cur, q, hb, hg, hn, hm, hc, ht⟩
  · simp at q
  · obtain ⟨⟨rfl⟩, rfl, rfl⟩ : (g = g') ∧ n = xs.length ∧ cap = cap' := by simpa using q
    exact ⟨rfl, hb, blk_lt hg, h1 _ rfl, Nat.le_trans hn hm⟩
theorem R_holds {β : Type} {d : Kd β} {enc : β → List Value} {val : α → β} {e base n cap g : Nat} {ok : Nat → Prop} {w : World} {dk : Array α} (hk : ∀ x, (enc x).length = d.sz) (h0 : 0 < d.sz)
    (hM : ∀ {w base ok x c}, d.M w base ok x c → c = enc x) (h : d.R e w base ok (.slice (some ⟨g, 0, none⟩) n cap) (dk.toList.map val)) : Sort.HoldsK (fun a => enc (val a)) d.sz w g 0 dk := by
  obtain ⟨h1, inner, ho, hr⟩ := h
  have hI := reps_inner (fun x c hc => hM hc) hr
  have hF : (Sort.flatK (fun a => enc (val a)) d.sz dk).toList = inner := by
    rw [hI, flatK_toList (fun x => hk _) h0, List.flatMap_map]
  rcases ho.2 with ⟨q, _⟩ | ⟨g', cap', cur, q, hb, hg, hn, hm, hc, ht⟩
  · simp at q
  · obtain ⟨⟨rfl⟩, _, rfl⟩ : (g = g') ∧ n = (dk.toList.map val).length ∧ cap = cap' := by simpa using q
    intro j hj
    have hj' : j < dk.size * d.sz := by simpa using hj
    refine ⟨?_, by simp [World.frozen?, hg]⟩
    have e1 : (cur.toList.take ((dk.toList.map val).length * d.sz))[j]? = (Sort.flatK (fun a => enc (val a)) d.sz dk).toList[j]? := by rw [ht, hF]
    rw [List.getElem?_take, if_pos (by simpa using hj'), Array.getElem?_toList, Array.getElem?_toList, Array.getElem?_eq_getElem hj] at e1
    simp only [World.cell?, hg, Nat.zero_add, Option.isSome_none, Bool.false_eq_true, if_false]
    rw [e1, getElem!_pos _ j hj]
    rfl
theorem below_sorted {enc : α → List Value} {B k m g : Nat} {w0 w : World} {dk : Array α} {os : Array Obj} (h : Below B w0 w) (hg : B ≤ g) (hgl : g < w.heap.size) : Below B w0 (sortWorldK enc k w g 0 m dk os) := by
  refine ⟨h.os, h.tape, h.output, Nat.le_trans h.size ?_, fun i hi => ?_⟩
  · show w.heap.size ≤ ((w.heap.modify g _) ++ os).size
    simp
  · have hw : i < w.heap.size := by omega
    rw [← h.block i hi]
    show ((w.heap.modify g _) ++ os)[i]? = _
    rw [Array.getElem?_append_left (by simpa using hw), Array.getElem?_modify, if_neg (by omega)]
theorem kept_sorted {enc : α → List Value} {k m g : Nat} {w : World} {dk : Array α} {os : Array Obj} {S : Nat → Prop} (hS : S g) : Kept w (sortWorldK enc k w g 0 m dk os) S := by
  refine ⟨?_, fun i hi hn => ?_⟩
  · show w.heap.size ≤ ((w.heap.modify g _) ++ os).size
    simp
  · show ((w.heap.modify g _) ++ os)[i]? = _
    rw [Array.getElem?_append_left (by simpa using hi), Array.getElem?_modify, if_neg (by rintro rfl; exact hn hS)]
end
end Go.Proofs.Ytfpomjnhgcmgoaa.Row

