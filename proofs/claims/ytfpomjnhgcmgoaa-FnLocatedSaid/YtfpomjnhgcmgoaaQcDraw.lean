/- Drawn numbers, grids and mazes: that they come, and within their bounds. -/
import Derived.Test.YtfpomjnhgcmgoaaQcPLcdx0
import Derived.Test.YtfpomjnhgcmgoaaQcPLcdx1
import Derived.Test.YtfpomjnhgcmgoaaQcPLcdx2
import Derived.Test.YtfpomjnhgcmgoaaQcPLcdx3
import Derived.Test.YtfpomjnhgcmgoaaQcPLcdx4
import Derived.Test.YtfpomjnhgcmgoaaQcPLcdx5
import Derived.Test.YtfpomjnhgcmgoaaQcPLcdx6
import Derived.Test.YtfpomjnhgcmgoaaQcPLcdx7
import Derived.Test.YtfpomjnhgcmgoaaQcPLcdx8
import Derived.Test.YtfpomjnhgcmgoaaQcPLcdx9
import Derived.Test.YtfpomjnhgcmgoaaQcPLcdx10
import Derived.Test.YtfpomjnhgcmgoaaQcBits
import Derived.Test.YtfpomjnhgcmgoaaQcMaze
namespace Go.Proofs.Ytfpomjnhgcmgoaa.Pure
set_option linter.unusedVariables false
set_option linter.unusedSimpArgs false
open Go.RowKit Go.Proofs.YtfpomjnhgcmgoaaW.PrintWords Go.Proofs.Ytfpomjnhgcmgoaa.P Go.Proofs.Ytfpomjnhgcmgoaa.Kit
theorem tmod_lt {x n : Int} (hx : 0 ≤ x) (hn : 0 < n) : 0 ≤ Int.tmod x n ∧ Int.tmod x n < n := by
  rw [Int.tmod_eq_emod_of_nonneg hx]
  exact ⟨Int.emod_nonneg _ (by omega), Int.emod_lt_of_pos _ hn⟩
theorem spec_l01Byte_ex (b : List Int) (i h : Int) (hi : 0 ≤ i) (hb : b.length ≤ 1048576) : ∃ a, spec_l01Byte.f b i h = some a ∧ (0 ≤ a.1 ∧ a.1 ≤ 255) ∧ 0 ≤ a.2.1 := by
  unfold spec_l01Byte.f
  by_cases h1 : i < (b.length : Int)
  · rw [if_pos h1, if_pos hi]
    exact ⟨_, rfl, and_255 _, by simp only; rw [wrap_id (by omega)]; omega⟩
  · rw [if_neg h1]
    exact ⟨_, rfl, and_255 _, hi⟩
theorem spec_l01Below_ex (b : List Int) (i h n : Int) (hi : 0 ≤ i) (hb : b.length ≤ 1048576) : ∃ a, spec_l01Below.f b i h n = some a ∧ (0 ≤ a.1 ∧ (a.1 < n ∨ (n ≤ 0 ∧ a.1 = 0))) ∧ 0 ≤ a.2.1 := by
  unfold spec_l01Below.f
  by_cases h0 : n ≤ 0
  · rw [if_pos h0]; exact ⟨_, rfl, ⟨Int.le_refl _, .inr ⟨h0, rfl⟩⟩, hi⟩
  rw [if_neg h0]
  by_cases h1 : n ≤ 256
  · rw [if_pos h1]
    obtain ⟨a, h2, h3, h4⟩ := spec_l01Byte_ex b i h hi hb
    rw [h2, Option.bind_some, if_neg (by omega)]
    have := tmod_lt (n := n) h3.1 (by omega)
    exact ⟨_, rfl, ⟨this.1, .inl this.2⟩, h4⟩
  · rw [if_neg h1]
    obtain ⟨a, h2, h3, h4⟩ := spec_l01Byte_ex b i h hi hb
    rw [h2, Option.bind_some]
    obtain ⟨a', h2', h3', h4'⟩ := spec_l01Byte_ex b a.2.1 a.2.2 h4 hb
    rw [h2', Option.bind_some]
    obtain ⟨a2, h5, h6, h7⟩ := spec_l01Byte_ex b a'.2.1 a'.2.2 h4' hb
    rw [h5, Option.bind_some]
    obtain ⟨a3, h5', h6', h7'⟩ := spec_l01Byte_ex b a2.2.1 a2.2.2 h7 hb
    rw [h5', Option.bind_some, if_neg (by omega)]
    have e : 0 ≤ wrap64 (wrap64 (wrap64 (wrap64 (a.1 * 16777216) + wrap64 (a'.1 * 65536)) + wrap64 (a2.1 * 256)) + a3.1) := by
      rw [wrap_id (n := a.1 * 16777216) (by omega), wrap_id (n := a'.1 * 65536) (by omega), wrap_id (n := a2.1 * 256) (by omega), wrap_id (n := a.1 * 16777216 + a'.1 * 65536) (by omega), wrap_id (n := a.1 * 16777216 + a'.1 * 65536 + a2.1 * 256) (by omega), wrap_id (by omega)]
      omega
    have := tmod_lt (n := n) e (by omega)
    exact ⟨_, rfl, ⟨this.1, .inl this.2⟩, h7'⟩
theorem spec_l01PickInt_ex (b : List Int) (i h : Int) (l : List Int) (hi : 0 ≤ i) (hb : b.length ≤ 1048576) (hl : 0 < l.length) : ∃ a, spec_l01PickInt.f b i h l = some a ∧ a.1 ∈ l ∧ 0 ≤ a.2.1 := by
  unfold spec_l01PickInt.f
  obtain ⟨a, h2, h3, h4⟩ := spec_l01Below_ex b i h l.length hi hb
  have h5 : a.1 < (l.length : Int) := by rcases h3.2 with h | ⟨h, _⟩ <;> omega
  rw [h2, Option.bind_some, if_pos h3.1, if_pos h5]
  refine ⟨_, rfl, ?_, h4⟩
  have := rd_cast l a.1.toNat (by omega)
  rw [Int.toNat_of_nonneg h3.1] at this
  simp only
  rw [this]
  exact List.getElem_mem _
theorem spec_l01Once_ex (b : List Int) (i h n : Int) (hi : 0 ≤ i) (hb : b.length ≤ 1048576) : ∃ a, spec_l01Once.f b i h n = some a ∧ 0 ≤ a.2.1 := by
  unfold spec_l01Once.f
  obtain ⟨a, h2, h3, h4⟩ := spec_l01Below_ex b i h n hi hb
  rw [h2]; exact ⟨_, rfl, h4⟩
theorem spec_l01New_ex (b : List Int) (hb : b.length ≤ 1048576) : Ex (fun k => spec_l01New.f k b) (fun a => a.1 = b ∧ 0 ≤ a.2.1) := by
  unfold spec_l01New.f
  have go : ∀ (m i : Nat) (h : Int), i + m = b.length + 1 → Ex (fun k => spec_l01New.l0 k b h (i : Int)) (fun a => a.1 = b ∧ 0 ≤ a.2.1) := by
    intro m
    induction m with
    | zero =>
      intro i h hm
      exact Ex.succ (fun k => spec_l01New.l0.eq_2 ..) (Ex.neg (by omega) (Ex.now ⟨rfl, Int.le_refl _⟩))
    | succ m ih =>
      intro i h hm
      refine Ex.succ (fun k => spec_l01New.l0.eq_2 ..) ?_
      by_cases h1 : (i : Int) < (b.length : Int)
      · refine Ex.pos h1 ?_
        by_cases h2 : (i : Int) < 4000
        · refine Ex.pos h2 (Ex.pos (by omega) ?_)
          rw [wrap_nat (by omega)]
          exact ih (i + 1) _ (by omega)
        · exact Ex.neg h2 (Ex.now ⟨rfl, Int.le_refl _⟩)
      · exact Ex.neg h1 (Ex.now ⟨rfl, Int.le_refl _⟩)
  exact go (b.length + 1) 0 _ (by omega)
theorem spec_l02Grid_ex (b : List Int) (i h : Int) (hi : 0 ≤ i) (hb : b.length ≤ 1048576) : ∃ a, spec_l02Grid.f b i h = some a ∧ gok a.1 a.2.1 = true ∧ 0 ≤ a.2.2.1 := by
  unfold spec_l02Grid.f
  obtain ⟨a, h2, h3, h4⟩ := spec_l01PickInt_ex b i h [1, 2, 3, 3, 4] hi hb (by decide)
  rw [h2, Option.bind_some]
  obtain ⟨a', h2', h3', h4'⟩ := spec_l01PickInt_ex b a.2.1 a.2.2 [1, 2, 3, 3, 4] h4 hb (by decide)
  rw [h2', Option.bind_some]
  refine ⟨_, rfl, gok_iff.2 ?_, h4'⟩
  simp only [List.mem_cons, List.not_mem_nil, or_false] at h3 h3'
  simp only
  omega
/-- A gap of a grid: one of 384. -/
theorem gapi_cases {P : Int → Int → Int → Prop} (q : ∀ a b : Fin 4, ∀ g : Fin 24, ((g.val : Nat) : Int) < gaps ((a.val : Nat) + 1) ((b.val : Nat) + 1) → P ((a.val : Nat) + 1) ((b.val : Nat) + 1) (g.val : Nat)) {w h g : Int} (hg : gok w h = true) (h0 : 0 ≤ g) (h1 : g < gaps w h) : P w h g := by
  have hl := @gaps_le w h
  have hh := h1
  rw [gok_iff] at hg
  have := q ⟨(w - 1).toNat, by omega⟩ ⟨(h - 1).toNat, by omega⟩ ⟨g.toNat, by omega⟩
  simp only at this
  rw [show (((w - 1).toNat : Nat) : Int) + 1 = w by omega, show (((h - 1).toNat : Nat) : Int) + 1 = h by omega, Int.toNat_of_nonneg h0] at this
  exact this h1
/-- The two ends of a gap. -/
def ends (w h g : Int) : Int × Int := if g < h * (w - 1) then (g / (w - 1) * w + g % (w - 1), g / (w - 1) * w + g % (w - 1) + 1) else (g - h * (w - 1), g - h * (w - 1) + w)
theorem spec_EndsOf_ev {w h g : Int} (hg : gok w h = true) (h0 : 0 ≤ g) (h1 : g < gaps w h) : spec_EndsOf.f w h g = some (ends w h g) ∧ cok w h (ends w h g).1 = true ∧ cok w h (ends w h g).2 = true ∧ (ends w h g).1 < (ends w h g).2 :=
  gapi_cases (P := fun w h g => spec_EndsOf.f w h g = some (ends w h g) ∧ cok w h (ends w h g).1 = true ∧ cok w h (ends w h g).2 = true ∧ (ends w h g).1 < (ends w h g).2) (by decide +kernel) hg h0 h1
theorem spec_l03Common_ev (a b : Nat) (ha : a ≤ 1000) (hb : b ≤ 1000) : Ev (fun k => spec_l03Common.f k a b) (decide (1 < Nat.gcd a b)) := by
  unfold spec_l03Common.f
  have go : ∀ (b a : Nat), a ≤ 1000 → b ≤ 1000 → Ev (fun k => spec_l03Common.l0 k a b) (decide (1 < Nat.gcd a b)) := by
    intro b
    induction b using Nat.strongRecOn with
    | _ b ih =>
      intro a ha hb
      refine Ev.succ (fun k => spec_l03Common.l0.eq_2 ..) ?_
      by_cases h : 0 < b
      · refine Ev.pos (by omega) (Ev.neg (by omega) ?_)
        have e : Int.tmod (a : Int) (b : Int) = ((a % b : Nat) : Int) := by rw [Int.tmod_eq_emod_of_nonneg (by omega)]; rfl
        rw [e]
        have hlt := Nat.mod_lt a h
        have := ih (a % b) hlt b hb (by omega)
        rwa [show Nat.gcd b (a % b) = Nat.gcd a b by rw [Nat.gcd_comm a b, Nat.gcd_rec b a, Nat.gcd_comm]] at this
      · have hb0 : b = 0 := by omega
        subst hb0
        refine Ev.neg (by omega) (Ev.ret ?_)
        rw [Nat.gcd_zero_right]
        by_cases h1 : 1 < a
        · rw [decide_eq_true h1, decide_eq_true (by omega)]
        · rw [decide_eq_false h1, decide_eq_false (by omega)]
  exact go b a ha hb
theorem pow_gaps {w h : Int} (hg : gok w h = true) (g : Int) (h0 : 0 ≤ g) (h1 : g < gaps w h) (o : Nat) (ho : o < 2 ^ (gaps w h).toNat) :
    Go.bits .or .i64 (o : Int) (shl .i64 1 g) = ((o ||| 2 ^ g.toNat : Nat) : Int) ∧ Go.bits .xor .i64 (o : Int) (shl .i64 1 g) = ((o ^^^ 2 ^ g.toNat : Nat) : Int) ∧ o ||| 2 ^ g.toNat < 2 ^ (gaps w h).toNat ∧ o ^^^ 2 ^ g.toNat < 2 ^ (gaps w h).toNat := by
  have hl := @gaps_le w h
  have hp : (2 : Nat) ^ (gaps w h).toNat ≤ 2 ^ 24 := Nat.pow_le_pow_right (by decide) (by omega)
  have hq : (2 : Nat) ^ g.toNat < 2 ^ (gaps w h).toNat := Nat.pow_lt_pow_right (by decide) (by omega)
  have hs := shl_nat (g := g.toNat) (by omega)
  rw [Int.toNat_of_nonneg h0] at hs
  rw [hs]
  exact ⟨or_nat (by omega) (by omega), xor_nat (by omega) (by omega), Nat.or_lt_two_pow ho hq, Nat.xor_lt_two_pow ho hq⟩
theorem mok_nat {w h : Int} {o : Nat} (hg : gok w h = true) (ho : o < 2 ^ (gaps w h).toNat) : mok w h (o : Int) = true := by
  unfold mok
  rw [hg, Bool.true_and, decide_eq_true (by omega), Bool.true_and, decide_eq_true_eq]
  have : (o : Int) < ((2 ^ (gaps w h).toNat : Nat) : Int) := by exact_mod_cast ho
  rw [Int.natCast_pow] at this
  have e : (((2 : Nat) : Int)) = 2 := rfl
  rw [e] at this
  omega
theorem mok_gok {w h o : Int} (hm : mok w h o = true) : gok w h = true := by
  unfold mok at hm
  rw [Bool.and_eq_true] at hm
  exact hm.1
theorem mok_toNat {w h o : Int} (hm : mok w h o = true) : ∃ n : Nat, o = (n : Int) ∧ n < 2 ^ (gaps w h).toNat := by
  unfold mok at hm
  simp only [Bool.and_eq_true, decide_eq_true_eq] at hm
  refine ⟨o.toNat, by omega, ?_⟩
  have : ((o.toNat : Nat) : Int) < ((2 ^ (gaps w h).toNat : Nat) : Int) := by rw [Int.natCast_pow]; have e : (((2 : Nat) : Int)) = 2 := rfl; rw [e]; omega
  exact_mod_cast this
/-- A tree is drawn: it is a maze of the grid. -/
theorem spec_l03Tree_ex (b : List Int) (i h0 w h : Int) (hi : 0 ≤ i) (hb : b.length ≤ 1048576) (hg : gok w h = true) :
    Ex (fun k => spec_l03Tree.f k b i h0 w h) (fun a => a.1 = w ∧ a.2.1 = h ∧ mok w h a.2.2.1 = true ∧ 0 ≤ a.2.2.2.1) := by
  unfold spec_l03Tree.f
  refine Ex.bindc (spec_CountGaps_ev w h) (Ex.bindc (spec_CountCells_ev w h) ?_)
  have hc := @cells_le w h
  have hl := @gaps_le w h
  refine Ex.pos hc.1 (Ex.pos (by omega) ?_)
  -- the rounds over the gaps
  have l2 : ∀ (m k : Nat) (part : List Int) (first step : Int) (o : Nat) (i h0 : Int), k + m = (gaps w h).toNat → part.length = (cells w h).toNat → 0 ≤ first ∧ first ≤ 24 → 0 ≤ step ∧ step ≤ 100 → o < 2 ^ (gaps w h).toNat → 0 ≤ i → 0 < gaps w h →
      Ex (fun n => spec_l03Tree.l2 n (gaps w h) part first step (k : Int) b i h0 w h w h (o : Int)) (fun a => a.1 = w ∧ a.2.1 = h ∧ mok w h a.2.2.1 = true ∧ 0 ≤ a.2.2.2.1) := by
    intro m
    induction m with
    | zero =>
      intro k part first step o i h0 hk hp hf hs ho hi hpos
      exact Ex.succ (fun k => spec_l03Tree.l2.eq_2 ..) (Ex.neg (by omega) (Ex.now ⟨rfl, rfl, mok_nat hg ho, hi⟩))
    | succ m ih =>
      intro k part first step o i h0 hk hp hf hs ho hi hpos
      refine Ex.succ (fun k => spec_l03Tree.l2.eq_2 ..) (Ex.pos (by omega) (Ex.neg (by omega) ?_))
      have hk24 : (k : Int) ≤ 24 := by omega
      have hmul : 0 ≤ (k : Int) * step ∧ (k : Int) * step ≤ 2400 := ⟨Int.mul_nonneg (by omega) hs.1, by
        have h1 : (k : Int) * step ≤ 24 * step := Int.mul_le_mul_of_nonneg_right hk24 hs.1
        omega⟩
      rw [wrap_id (n := (k : Int) * step) (by omega), wrap_id (n := first + (k : Int) * step) (by omega)]
      have hgap := tmod_lt (x := first + (k : Int) * step) (n := gaps w h) (by omega) hpos
      generalize hgp : Int.tmod (first + (k : Int) * step) (gaps w h) = gp at hgap ⊢
      obtain ⟨he, hc1, hc2, hlt⟩ := spec_EndsOf_ev hg hgap.1 hgap.2
      refine Ex.bindc he ?_
      rw [cok_iff] at hc1 hc2
      refine Ex.pos hc1.1 (Ex.pos (by omega) (Ex.pos hc2.1 (Ex.pos (by omega) ?_)))
      have hn : (k : Int) + 1 = ((k + 1 : Nat) : Int) := by omega
      by_cases hq : rd part (ends w h gp).1 = rd part (ends w h gp).2
      · refine Ex.pos hq ?_
        rw [wrap_nat (by omega)]
        exact ih (k + 1) part first step o i h0 (by omega) hp hf hs ho hi hpos
      · refine Ex.neg hq (Ex.pos hgap.1 ?_)
        obtain ⟨p1, p2, p3, p4⟩ := pow_gaps hg gp hgap.1 hgap.2 o ho
        rw [p1]
        have l3 : ∀ (m j : Nat) (part : List Int) (x : Int), j + m = (cells w h).toNat → part.length = (cells w h).toNat →
            Ex (fun n => spec_l03Tree.l3 n (gaps w h) part first step (k : Int) (ends w h gp).1 x (j : Int) b i h0 w h w h ((o ||| 2 ^ gp.toNat : Nat) : Int)) (fun a => a.1 = w ∧ a.2.1 = h ∧ mok w h a.2.2.1 = true ∧ 0 ≤ a.2.2.2.1) := by
          intro m
          induction m with
          | zero =>
            intro j part x hj hp
            refine Ex.succ (fun k => spec_l03Tree.l3.eq_2 ..) (Ex.neg (by omega) ?_)
            rw [wrap_nat (by omega)]
            exact ih (k + 1) part first step _ i h0 (by omega) hp hf hs p3 hi hpos
          | succ m ih3 =>
            intro j part x hj hp
            refine Ex.succ (fun k => spec_l03Tree.l3.eq_2 ..) (Ex.pos (by omega) (Ex.pos (by omega) ?_))
            rw [wrap_nat (by omega)]
            by_cases hx : rd part (j : Int) = x
            · exact Ex.pos hx (Ex.pos hc1.1 (Ex.pos (by omega) (ih3 (j + 1) _ x (by omega) (by rw [List.length_set]; exact hp))))
            · exact Ex.neg hx (ih3 (j + 1) part x (by omega) hp)
        have := l3 (cells w h).toNat 0 part (rd part (ends w h gp).2) (by omega) hp
        simpa using this
  -- the step that is coprime
  have l1 : ∀ (m : Nat) (step : Nat) (part : List Int) (first : Int) (i h0 : Int), step + m = (gaps w h).toNat + 1 → part.length = (cells w h).toNat → 0 ≤ first ∧ first ≤ 24 → 0 ≤ i → 0 < gaps w h →
      Ex (fun n => spec_l03Tree.l1 n (gaps w h) part first (step : Int) b i h0 w h w h 0) (fun a => a.1 = w ∧ a.2.1 = h ∧ mok w h a.2.2.1 = true ∧ 0 ≤ a.2.2.2.1) := by
    intro m
    induction m with
    | zero =>
      intro step part first i h0 hm hp hf hi hpos
      have hco := spec_l03Common_ev step (gaps w h).toNat (by omega) (by omega)
      rw [Int.toNat_of_nonneg (by omega)] at hco
      refine Ex.succ (fun k => spec_l03Tree.l1.eq_2 ..) (Ex.bindE hco ?_)
      have e1 : Nat.gcd step (gaps w h).toNat = 1 := by rw [show step = (gaps w h).toNat + 1 by omega]; simp
      refine Ex.neg (by rw [e1]; decide) ?_
      exact l2 (gaps w h).toNat 0 part first step 0 i h0 (by omega) hp hf (by omega) (Nat.pow_pos (by decide)) hi hpos
    | succ m ih =>
      intro step part first i h0 hm hp hf hi hpos
      have hco := spec_l03Common_ev step (gaps w h).toNat (by omega) (by omega)
      rw [Int.toNat_of_nonneg (by omega)] at hco
      refine Ex.succ (fun k => spec_l03Tree.l1.eq_2 ..) (Ex.bindE hco ?_)
      by_cases hq : 1 < Nat.gcd step (gaps w h).toNat
      · refine Ex.pos (by simpa using hq) ?_
        rw [wrap_nat (by omega)]
        exact ih (step + 1) part first i h0 (by omega) hp hf hi hpos
      · refine Ex.neg (by simpa using hq) ?_
        exact l2 (gaps w h).toNat 0 part first step 0 i h0 (by omega) hp hf (by omega) (Nat.pow_pos (by decide)) hi hpos
  -- each cell is a part of its own
  have l0 : ∀ (m j : Nat) (part : List Int), j + m = (cells w h).toNat → part.length = (cells w h).toNat →
      Ex (fun n => spec_l03Tree.l0 n (gaps w h) part (j : Int) b i h0 w h w h 0) (fun a => a.1 = w ∧ a.2.1 = h ∧ mok w h a.2.2.1 = true ∧ 0 ≤ a.2.2.2.1) := by
    intro m
    induction m with
    | zero =>
      intro j part hj hp
      refine Ex.succ (fun k => spec_l03Tree.l0.eq_2 ..) (Ex.neg (by omega) ?_)
      by_cases hz : gaps w h = 0
      · exact Ex.pos hz (Ex.now ⟨rfl, rfl, mok_nat (o := 0) hg (Nat.pow_pos (by decide)), hi⟩)
      · refine Ex.neg hz (Ex.bindx (spec_l01Below_ex b i h0 (gaps w h) hi hb) (fun a ha => Ex.bindx (spec_l01Below_ex b _ _ (gaps w h) ha.2 hb) (fun c hc' => ?_)))
        have h1 : a.1 < gaps w h := by rcases ha.1.2 with h | ⟨h, _⟩ <;> omega
        have h2 : c.1 < gaps w h := by rcases hc'.1.2 with h | ⟨h, _⟩ <;> omega
        rw [wrap_id (by omega)]
        have := l1 ((gaps w h).toNat - c.1.toNat) (1 + c.1).toNat part a.1 c.2.1 c.2.2 (by omega) hp (by omega) hc'.2 (by omega)
        rwa [Int.toNat_of_nonneg (by omega)] at this
    | succ m ih =>
      intro j part hj hp
      refine Ex.succ (fun k => spec_l03Tree.l0.eq_2 ..) (Ex.pos (by omega) (Ex.pos (by omega) ?_))
      rw [wrap_nat (by omega)]
      exact ih (j + 1) _ (by omega) (by rw [List.length_set]; exact hp)
  have := l0 (cells w h).toNat 0 (List.replicate (cells w h).toNat 0) (by omega) (by simp)
  simpa using this
theorem spec_l03Maze_ex (b : List Int) (i h0 : Int) (hi : 0 ≤ i) (hb : b.length ≤ 1048576) :
    Ex (fun k => spec_l03Maze.f k b i h0) (fun a => mok a.1 a.2.1 a.2.2.1 = true ∧ 0 ≤ a.2.2.2.1) := by
  unfold spec_l03Maze.f
  refine Ex.bindx (spec_l02Grid_ex b i h0 hi hb) (fun g hg => Ex.bind (spec_l03Tree_ex b g.2.2.1 g.2.2.2 g.1 g.2.1 hg.2 hb hg.1) (fun t ht => ?_))
  obtain ⟨t1, t2, t3, t4⟩ := ht
  refine Ex.bindc (spec_CountGaps_ev ..) ?_
  obtain ⟨gw, gh, gi, gs⟩ := g
  obtain ⟨tw, th, tx, ti, ts⟩ := t
  simp only at t1 t2 t3 t4 hg ⊢
  subst t1; subst t2
  have l0 : ∀ (m : Nat) (x : Int) (o : Nat) (i h0 : Int), x + 1 = m → x ≤ 100 → o < 2 ^ (gaps tw th).toNat → 0 ≤ i → 0 < gaps tw th →
      Ex (fun n => spec_l03Maze.l0 n (gaps tw th) x b i h0 tw th (o : Int)) (fun a => mok a.1 a.2.1 a.2.2.1 = true ∧ 0 ≤ a.2.2.2.1) := by
    intro m
    induction m with
    | zero =>
      intro x o i h0 hx hx2 ho hi hpos
      exact Ex.succ (fun k => spec_l03Maze.l0.eq_2 ..) (Ex.neg (by omega) (Ex.now ⟨mok_nat hg.1 ho, hi⟩))
    | succ m ih =>
      intro x o i h0 hx hx2 ho hi hpos
      refine Ex.succ (fun k => spec_l03Maze.l0.eq_2 ..) (Ex.pos (by omega) (Ex.bindx (spec_l01Below_ex b i h0 (gaps tw th) hi hb) (fun a ha => Ex.pos ha.1.1 ?_)))
      have h1 : a.1 < gaps tw th := by rcases ha.1.2 with h | ⟨h, _⟩ <;> omega
      obtain ⟨p1, p2, p3, p4⟩ := pow_gaps hg.1 a.1 ha.1.1 h1 o ho
      rw [p2, wrap_id (by omega)]
      exact ih (x - 1) _ _ _ (by omega) (by omega) p4 ha.2 hpos
  obtain ⟨o, rfl, ho⟩ := mok_toNat t3
  have j0 : ∀ (c : Bool) (i h0 : Int), 0 ≤ i → (c = true → 0 < gaps tw th) → Ex (fun k => spec_l03Maze.j0 k (gaps tw th) c b i h0 tw th (o : Int)) (fun a => mok a.1 a.2.1 a.2.2.1 = true ∧ 0 ≤ a.2.2.2.1) := by
    intro c i h0 hi hpos
    refine Ex.succ (fun k => spec_l03Maze.j0.eq_2 ..) ?_
    cases c with
    | true =>
      refine Ex.pos rfl (Ex.bindx (spec_l01Below_ex b i h0 4 hi hb) (fun a ha => ?_))
      have h1 : a.1 < 4 := by rcases ha.1.2 with h | ⟨h, _⟩ <;> omega
      exact l0 (a.1 + 1).toNat a.1 o _ _ (by omega) (by omega) ho ha.2 (hpos rfl)
    | false => exact Ex.neg (by decide) (Ex.now ⟨t3, hi⟩)
  by_cases hz : gaps tw th > 0
  · exact Ex.pos hz (Ex.bindx (spec_l01Once_ex b _ _ 2 t4 hb) (fun a ha => j0 a.1 _ _ ha (fun _ => hz)))
  · exact Ex.neg hz (j0 false _ _ t4 (fun h => by cases h))
end Go.Proofs.Ytfpomjnhgcmgoaa.Pure

