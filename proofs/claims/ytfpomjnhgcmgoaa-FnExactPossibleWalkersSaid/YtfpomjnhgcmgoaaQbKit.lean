/- What the rows of this seat need: from the reading of an argument (the form's words) to the printed contracts' words (Kd). Of no law. -/
import Derived.Test.YtfpomjnhgcmgoaaQbWWords
import Derived.OpenShut
import Derived.Lib.SmallJoins
import Derived.Deep.Slices
namespace Go.Proofs.Ytfpomjnhgcmgoaa.Kit
open Go.RowKit Go.Proofs.YtfpomjnhgcmgoaaW.PrintWords Go.ChangeShapes Go.WideShapes Go.Deep
theorem cells_get {w : World} {base : Nat} {a : Addr} {n : Nat} {cs : List Value} (h : w.cells? base a n = some cs) (j : Nat) (u : Value) (hu : cs[j]? = some u) : w.cell? (a.add j) = some u := by
  unfold World.cells? at h
  split at h
  · have hl := mapM_some_length h
    have hj : j < cs.length := (List.getElem?_eq_some_iff.1 hu).1
    have := mapM_some_get h j j (by rw [List.length_range] at hl; rw [List.getElem?_range (by omega)])
    rw [this, hu]
  · cases h
/-- Whatever reads as a value of type t is, cell by cell, some x of kind d, of which W is told. -/
def Opens {α : Type} (P : Program) (t : TypeId) (d : Kd α) (W : α → Prop) : Prop :=
  ∀ (H : Type) (enc : TypeId × Value → H) (w : World) (base : Nat) (spare : Nat → Bool) (held : Bool) (fuel : Nat) (cs : List Value) (x : DataW H × List MemPlace),
    DataW.trod enc P w base spare held fuel t cs = some x → ∃ a : α, d.K w a cs ∧ W a
def I64 (n : Int) : Prop := -9223372036854775808 ≤ n ∧ n ≤ 9223372036854775807
theorem i64_of_wf {n : Int} (h : (Lit.int .i64 n).wf = true) : I64 n := by
  simp only [Lit.wf, Bool.and_eq_true, decide_eq_true_eq] at h
  have e : IntKind.i64.min = -9223372036854775808 := by decide
  have e' : IntKind.i64.max = 9223372036854775807 := by decide
  rw [e, e'] at h
  exact h
theorem opens_int {P : Program} {t : TypeId} (ht : P.underlying t = some (.int .i64)) : Opens P t (Kd.int .i64) I64 := by
  intro H enc w base spare held fuel cs x h
  obtain ⟨n, rfl, _, hw⟩ := DataW.trod_int ht h
  exact ⟨n, rfl, i64_of_wf hw⟩
/-- The last field of a struct, and the ones before it, one by one: what stands from offset o on. -/
def From {α : Type} (P : Program) (fs : List Field) (o n : Nat) (d : Kd α) (W : α → Prop) : Prop :=
  ∀ (H : Type) (enc : TypeId × Value → H) (w : World) (base : Nat) (spare : Nat → Bool) (held : Bool) (fuel : Nat) (cs : List Value) (xs : List (DataW H × List MemPlace)),
    (∀ (i : Nat) (f : Field), fs[i]? = some f → DataW.trod enc P w base spare held fuel f.type ((cs.drop f.offset).take (P.cellsOf f.type)) = xs[i]?) → fs.length = xs.length → cs.length = o + n → ∃ a : α, d.K w a (cs.drop o) ∧ W a
theorem from_one {α : Type} {P : Program} {f : Field} {n : Nat} {d : Kd α} {W : α → Prop} (h : Opens P f.type d W) (hn : P.cellsOf f.type = n) : From P [f] f.offset n d W := by
  intro H enc w base spare held fuel cs xs hf hl hc
  match xs, hl with
  | [y], _ =>
    have h1 := hf 0 f rfl
    obtain ⟨a, hk, hw⟩ := h _ _ _ _ _ _ _ _ _ h1
    refine ⟨a, ?_, hw⟩
    rwa [List.take_of_length_le (by rw [List.length_drop]; omega)] at hk
theorem from_cons {α β : Type} {P : Program} {f g : Field} {fs : List Field} {n : Nat} {d : Kd α} {e : Kd β} {W : α → Prop} {V : β → Prop} (ho : g.offset = f.offset + P.cellsOf f.type) (h : Opens P f.type d W) (hr : From P (g :: fs) g.offset n e V) :
    From P (f :: g :: fs) f.offset (P.cellsOf f.type + n) (Kd.pair d e) (fun x => W x.1 ∧ V x.2) := by
  rw [ho] at hr
  intro H enc w base spare held fuel cs xs hf hl hc
  match xs, hl with
  | y :: ys, hl =>
    obtain ⟨a, hk, hw⟩ := h _ _ _ _ _ _ _ _ _ (hf 0 f rfl)
    obtain ⟨b, hk', hv⟩ := hr _ _ _ _ _ _ _ _ ys (fun i q hq => hf (i + 1) q hq) (by simpa using hl) (by omega)
    refine ⟨(a, b), ⟨_, _, ?_, hk, hk'⟩, hw, hv⟩
    rw [← List.drop_drop, List.take_append_drop]
theorem opens_struct {α : Type} {P : Program} {t : TypeId} {f : Field} {fs : List Field} {n : Nat} {d : Kd α} {W : α → Prop} (ht : P.underlying t = some (.struct (f :: fs).toArray)) (h : From P (f :: fs) 0 n d W) (hn : P.cellsOf t = n) : Opens P t d W := by
  intro H enc w base spare held fuel cs x hx
  obtain ⟨xs, m, _, _, hl, hs, hf⟩ := DataW.trod_struct ht hx
  obtain ⟨a, hk, hw⟩ := h _ _ _ _ _ _ _ cs xs (fun i q hq => hf i q (by simpa using hq)) (by simpa using hs.symm) (by omega)
  exact ⟨a, by simpa using hk, hw⟩
theorem opens_slice {α : Type} {P : Program} {t e : TypeId} {q : Nat} {d : Kd α} {W : α → Prop} (ht : P.underlying t = some (.slice e)) (hs : P.cellsOf e = d.sz) (h : Opens P e d W) : Opens P t (Kd.slice q d) (fun l => l.length ≤ 9223372036854775807 ∧ ∀ x ∈ l, W x) := by
  intro H enc w base spare held fuel cs x hx
  rcases open_slice ht hx with ⟨rfl, _⟩ | ⟨a, len, cap, m, n, D, Pl, rfl, _, hl, hm, hmm, _, hc⟩
  · exact ⟨[], ⟨none, 0, rfl, Nat.le_refl _, rfl, by simp, fun hp => absurd hp (by simp)⟩, by simp, fun x hx => by simp at hx⟩
  · have hlm : len ≤ m := by rw [hmm]; split <;> omega
    have each : ∀ i, i < len → ∃ y : α, (∃ c, c.length = d.sz ∧ d.K w y c ∧ ∀ j u, c[j]? = some u → w.cell? (a.add (i * d.sz + j)) = some u) ∧ W y := fun i hi => by
      obtain ⟨cs', h1, h2⟩ := hc i (by omega)
      obtain ⟨y, hk, hw⟩ := h _ _ _ _ _ _ _ _ _ h2
      refine ⟨y, ⟨cs', d.K_len hk, hk, fun j u hu => ?_⟩, hw⟩
      have h3 := cells_get h1 j u hu
      rw [hs] at h3
      rwa [Go.Deep.add_add] at h3
    have mk : ∀ k, k ≤ len → ∃ l : List α, l.length = k ∧ ∀ i y, l[i]? = some y → (∃ c, c.length = d.sz ∧ d.K w y c ∧ ∀ j u, c[j]? = some u → w.cell? (a.add (i * d.sz + j)) = some u) ∧ W y := by
      intro k
      induction k with
      | zero => exact fun _ => ⟨[], rfl, fun i y hy => by simp at hy⟩
      | succ k ih =>
        intro hk
        obtain ⟨l, h1, h2⟩ := ih (by omega)
        obtain ⟨y, hy⟩ := each k (by omega)
        refine ⟨l ++ [y], by simp [h1], fun i z hz => ?_⟩
        rcases Nat.lt_or_ge i l.length with hi | hi
        · exact h2 i z (by rwa [List.getElem?_append_left hi] at hz)
        · have : i = k := by
            have := (List.getElem?_eq_some_iff.1 hz).1
            simp at this
            omega
          subst this
          rw [List.getElem?_append_right (by omega), h1] at hz
          obtain rfl : y = z := by simpa using hz
          exact hy
    obtain ⟨l, h1, h2⟩ := mk len (Nat.le_refl _)
    subst h1
    have hb : l.length ≤ 9223372036854775807 := by simp only [maxLen] at hm; omega
    refine ⟨l, ⟨some a, cap, rfl, hl, rfl, hb, fun _ => ⟨a, rfl, fun j p hj => (h2 j p hj).1⟩⟩, hb, fun y hy => ?_⟩
    · obtain ⟨i, hi⟩ := List.getElem?_of_mem hy
      exact (h2 i y hi).2
end Go.Proofs.Ytfpomjnhgcmgoaa.Kit

