/- Short words for what the printed texts say again and again. -/
import Derived.Test.YtfpomjnhgcmgoaaQcWWords
import Derived.Test.YtfpomjnhgcmgoaaQcWLast
import Derived.Test.YtfpomjnhgcmgoaaQcWTab
import Derived.Test.YtfpomjnhgcmgoaaQcWMore
import Derived.Test.YtfpomjnhgcmgoaaQcWGuard
namespace Go.Proofs.Ytfpomjnhgcmgoaa.P
set_option linter.unusedVariables false
set_option linter.unusedSimpArgs false
open Go.RowKit Go.Proofs.YtfpomjnhgcmgoaaW.PrintWords Go.Proofs.YtfpomjnhgcmgoaaW.PrintLast Go.Proofs.YtfpomjnhgcmgoaaW.PrintMore
theorem BZ {Q : Prop} (h : Q := by repeat (first | (with_reducible first | exact HB.out | apply below_alloc | apply pw_below_drewN | apply below_drew1 | refine below_set ?_ (Aside0.out (by assumption))) | exact HB.out)) : Q := h
theorem BKZ {Q : Prop} (h : Q := by (with_reducible repeat (first | refine blk_drewN ?_ _ | refine blk_drew ?_ | refine blk_alloc ?_ _)); exact Aside0.out (by assumption)) : Q := h
theorem RZ {Q : Prop} (h : Q := by first | rfl | (simp [errW_none, errW_some] <;> rfl) | (simp [*, errW_none, errW_some] <;> rfl)) : Q := h
theorem VZ {Q : Prop} (h : Q := by first | rfl | (simp; done) | (simp [*]; done)) : Q := h
theorem PZ {Q : Prop} (h : Q := by first | (with_reducible assumption) | assumption) : Q := h
theorem DZ {Q : Prop} (h : Q := by repeat (first | exact Drawn0.refl _ | apply Drawn0.step)) : Q := h
theorem BD {α β : Type} {o : Option α} {f : α → Option β} {r : β} (h : o.bind f = some r) : ∃ a, Aside0 (o = some a) ∧ f a = some r := by
  obtain ⟨a, h1, h2⟩ := Option.bind_eq_some_iff.mp h
  exact ⟨a, ⟨h1⟩, h2⟩
theorem IT {α : Type} {a b c : α} (h : (if true = true then a else b) = c) : a = c := (if_pos rfl).symm.trans h
theorem IE {α : Type} {a b c : α} (h : (if false = true then a else b) = c) : b = c := (if_neg (by decide)).symm.trans h
theorem GB {α β : Type} {x : α} {f : α → Option β} {r : β} (h : (some x).bind f = some r) : ∃ y, Aside0 (y = x) ∧ f y = some r := ⟨x, ⟨rfl⟩, h⟩
theorem QT {α : Type} [BEq α] [LawfulBEq α] {a b : α} (h : a = b) : (a == b) = true ∧ (a != b) = false := ⟨beq_iff_eq.mpr h, bne_eq_false_iff_eq.mpr h⟩
theorem QF {α : Type} [BEq α] [LawfulBEq α] {a b : α} (h : ¬ a = b) : (a == b) = false ∧ (a != b) = true := ⟨beq_eq_false_iff_ne.mpr h, bne_iff_ne.mpr h⟩
/-- What stands in a block, behind a step that leaves it. -/
theorem BB {W w w1 : World} {g : Nat} {o : Obj} (h : Aside0 (W.heap[g]? = some o)) (hb : Below w.heap.size w w1) (t : w.heap[g]? = some o := by (with_reducible repeat (first | refine blk_drewN ?_ _ | refine blk_drew ?_ | refine blk_alloc ?_ _)); exact Aside0.out (by assumption)) : Aside0 (w1.heap[g]? = some o) := ⟨blk_below t hb⟩
theorem BS {w W1 W w2 : World} (h : Aside0 (Below w.heap.size w W1)) (hb : Below W.heap.size W w2) (t : Below w.heap.size w W := by repeat (first | (with_reducible first | exact HB.out | apply below_alloc | apply pw_below_drewN | apply below_drew1 | refine below_set ?_ (Aside0.out (by assumption))) | exact HB.out)) : Aside0 (Below w.heap.size w w2) := ⟨below_step t hb⟩
theorem KR {α : Type} {d : Kd α} {e base : Nat} {ok : Nat → Prop} {W0 W : World} {v : Value} {xs : List α} (h : Aside0 (d.R e W0 base ok v xs)) (t : d.R e W base ok v xs := by (with_reducible repeat (first | apply Kd.R_alloc | apply Kd.R_drewN | apply Kd.R_drew)); exact Aside0.out (by assumption)) : d.R e W base ok v xs := t
theorem RB {α : Type} {d : Kd α} {e base : Nat} {ok : Nat → Prop} {W0 w w1 : World} {v : Value} {xs : List α} (h : Aside0 (d.R e W0 base ok v xs)) (hb : Below w.heap.size w w1) (t : d.R e w base ok v xs := by (with_reducible repeat (first | apply Kd.R_alloc | apply Kd.R_drewN | apply Kd.R_drew)); exact Aside0.out (by assumption)) : Aside0 (d.R e w1 base ok v xs) := ⟨Kd.R_below t hb⟩
theorem CB {α : Type} {d : Kd α} {w W : World} {A : Option Addr} {n : Nat} {xs : List α} (h : Aside0 (Kd.C d w A n xs)) (t : Kd.C d w A n xs → Kd.C d W A n xs := by (intro h_; repeat (first | exact (Kd.C_below h_ HB.out) | (with_reducible refine Kd.C_alloc ?_ _) | (with_reducible refine Kd.C_drewN ?_ _) | (with_reducible refine Kd.C_drew ?_)))) : Kd.C d W A n xs := t h.out
theorem CR {α : Type} {d : Kd α} {e base n c : Nat} {ok : Nat → Prop} {w W : World} {A : Option Addr} {xs : List α} (h : Aside0 (d.R e w base ok (.slice A n c) xs)) (t : Kd.C d w A xs.length xs → Kd.C d W A xs.length xs := by (intro h_; repeat (first | exact h_ | (with_reducible refine Kd.C_alloc ?_ _) | (with_reducible refine Kd.C_drewN ?_ _) | (with_reducible refine Kd.C_drew ?_)))) : Kd.C d W A xs.length xs := t (Kd.R_reads' h.out).2.2
theorem CL {α : Type} {d : Kd α} {e base n c : Nat} {ok : Nat → Prop} {w : World} {A : Option Addr} {xs : List α} (h : Aside0 (d.R e w base ok (.slice A n c) xs)) : n ≤ c := (Kd.R_reads' h.out).2.1
theorem GS {w W : World} {g : Nat} (hg : g = W.heap.size) (t : Below w.heap.size w W := by repeat (first | (with_reducible first | exact HB.out | apply below_alloc | apply pw_below_drewN | apply below_drew1 | refine below_set ?_ (Aside0.out (by assumption))) | exact HB.out)) : Aside0 (w.heap.size ≤ g) := ⟨hg ▸ below_size t⟩
theorem NG {W0 W : World} {g gn : Nat} {o : Obj} (h : Aside0 (W0.heap[g]? = some o)) (hg : gn = W.heap.size) (t : W.heap[g]? = some o := by (with_reducible repeat (first | refine blk_drewN ?_ _ | refine blk_drew ?_ | refine blk_alloc ?_ _)); exact Aside0.out (by assumption)) : Aside0 (gn ≠ g) := ⟨by rw [hg]; exact Nat.ne_of_gt (blk_lt t)⟩
theorem NL {W0 W : World} {g gn : Nat} {o : Obj} (h : Aside0 (W0.heap[g]? = some o)) (hg : gn = W.heap.size) (t : W.heap[g]? = some o := by (with_reducible repeat (first | refine blk_drewN ?_ _ | refine blk_drew ?_ | refine blk_alloc ?_ _)); exact Aside0.out (by assumption)) : Aside0 (g ≠ gn) := ⟨by rw [hg]; exact Nat.ne_of_lt (blk_lt t)⟩
theorem BT {W W' : World} {g : Nat} {o : Obj} (h : W.heap[g]? = some o) (t : W.heap[g]? = some o → W'.heap[g]? = some o := by (intro h_; (with_reducible repeat (first | refine blk_drewN ?_ _ | refine blk_drew ?_ | refine blk_alloc ?_ _)); exact h_)) : W'.heap[g]? = some o := t h
theorem RT {α : Type} {d : Kd α} {e base : Nat} {ok : Nat → Prop} {W W' : World} {v : Value} {xs : List α} (h : d.R e W base ok v xs) (t : d.R e W base ok v xs → d.R e W' base ok v xs := by (intro h_; (with_reducible repeat (first | apply Kd.R_alloc | apply Kd.R_drewN | apply Kd.R_drew)); exact h_)) : d.R e W' base ok v xs := t h
theorem BF1 {W0 W W' : World} {g g' : Nat} {t : TypeId} {cs : Array Value} {i0 : Nat} {v0 : Value} (hn : Aside0 (g' ≠ g)) (h : Aside0 (W0.heap[g']? = some (.cells cs t (0, 0)))) (b : (W.setCell ⟨g, i0, none⟩ v0).heap[g']? = some (.cells cs t (0, 0)) → W'.heap[g']? = some (.cells cs t (0, 0)) := by (intro h_; (with_reducible repeat (first | refine blk_drewN ?_ _ | refine blk_drew ?_ | refine blk_alloc ?_ _)); exact h_)) (t0 : W.heap[g']? = some (.cells cs t (0, 0)) := by (with_reducible repeat (first | refine blk_drewN ?_ _ | refine blk_drew ?_ | refine blk_alloc ?_ _)); exact Aside0.out (by assumption)) : W'.heap[g']? = some (.cells cs t (0, 0)) := b (blk_far t0 hn.out v0)
theorem PQ2 {W0 W W' : World} {g : Nat} {t : TypeId} {u0 u1 v0 v1 : Value} (h : Aside0 (W0.heap[g]? = some (.cells #[u0, u1] t (0, 0)))) (b : ((W.setCell ⟨g, 0, none⟩ v0).setCell ⟨g, 1, none⟩ v1).heap[g]? = some (.cells #[v0, v1] t (0, 0)) → W'.heap[g]? = some (.cells #[v0, v1] t (0, 0)) := by (intro h_; (with_reducible repeat (first | refine blk_drewN ?_ _ | refine blk_drew ?_ | refine blk_alloc ?_ _)); exact h_)) (t0 : W.heap[g]? = some (.cells #[u0, u1] t (0, 0)) := by (with_reducible repeat (first | refine blk_drewN ?_ _ | refine blk_drew ?_ | refine blk_alloc ?_ _)); exact Aside0.out (by assumption)) : W'.heap[g]? = some (.cells #[v0, v1] t (0, 0)) := b (blk_put (cs' := #[v0, v1]) (blk_put (cs' := #[v0, u1]) t0 0 v0 rfl) 1 v1 rfl)
theorem BF2 {W0 W W' : World} {g g' : Nat} {t : TypeId} {cs : Array Value} {i0 i1 : Nat} {v0 v1 : Value} (hn : Aside0 (g' ≠ g)) (h : Aside0 (W0.heap[g']? = some (.cells cs t (0, 0)))) (b : ((W.setCell ⟨g, i0, none⟩ v0).setCell ⟨g, i1, none⟩ v1).heap[g']? = some (.cells cs t (0, 0)) → W'.heap[g']? = some (.cells cs t (0, 0)) := by (intro h_; (with_reducible repeat (first | refine blk_drewN ?_ _ | refine blk_drew ?_ | refine blk_alloc ?_ _)); exact h_)) (t0 : W.heap[g']? = some (.cells cs t (0, 0)) := by (with_reducible repeat (first | refine blk_drewN ?_ _ | refine blk_drew ?_ | refine blk_alloc ?_ _)); exact Aside0.out (by assumption)) : W'.heap[g']? = some (.cells cs t (0, 0)) := b (blk_far (blk_far t0 hn.out v0) hn.out v1)
theorem RF2 {α : Type} {d : Kd α} {e base g : Nat} {ok : Nat → Prop} {W : World} {v : Value} {xs : List α} {i0 i1 : Nat} {v0 v1 : Value} (h : d.R e W base (fun k => ok k ∧ k ≠ g) v xs) : d.R e ((W.setCell ⟨g, i0, none⟩ v0).setCell ⟨g, i1, none⟩ v1) base ok v xs := Kd.R_mono (Kd.R_far (p := ⟨g, i1, none⟩) (Kd.R_far (p := ⟨g, i0, none⟩) h (fun _ hk => hk.2) v0) (fun _ hk => hk.2) v1) (fun _ hk => hk.1)
theorem CF2 {W : World} {g : Nat} {a : Addr} {u : Value} {i0 i1 : Nat} {v0 v1 : Value} (hn : a.block ≠ g) (h : W.cell? a = some u) : ((W.setCell ⟨g, i0, none⟩ v0).setCell ⟨g, i1, none⟩ v1).cell? a = some u := ((cell_far (p := ⟨g, i1, none⟩) hn v1).trans ((cell_far (p := ⟨g, i0, none⟩) hn v0).trans h))
abbrev S2W (W : World) (g : Nat) (v0 v1 : Value) : World := ((W.setCell ⟨g, 0, none⟩ v0).setCell ⟨g, 1, none⟩ v1)
theorem PQ3 {W0 W W' : World} {g : Nat} {t : TypeId} {u0 u1 u2 v0 v1 v2 : Value} (h : Aside0 (W0.heap[g]? = some (.cells #[u0, u1, u2] t (0, 0)))) (b : (((W.setCell ⟨g, 0, none⟩ v0).setCell ⟨g, 1, none⟩ v1).setCell ⟨g, 2, none⟩ v2).heap[g]? = some (.cells #[v0, v1, v2] t (0, 0)) → W'.heap[g]? = some (.cells #[v0, v1, v2] t (0, 0)) := by (intro h_; (with_reducible repeat (first | refine blk_drewN ?_ _ | refine blk_drew ?_ | refine blk_alloc ?_ _)); exact h_)) (t0 : W.heap[g]? = some (.cells #[u0, u1, u2] t (0, 0)) := by (with_reducible repeat (first | refine blk_drewN ?_ _ | refine blk_drew ?_ | refine blk_alloc ?_ _)); exact Aside0.out (by assumption)) : W'.heap[g]? = some (.cells #[v0, v1, v2] t (0, 0)) := b (blk_put (cs' := #[v0, v1, v2]) (blk_put (cs' := #[v0, v1, u2]) (blk_put (cs' := #[v0, u1, u2]) t0 0 v0 rfl) 1 v1 rfl) 2 v2 rfl)
theorem BF3 {W0 W W' : World} {g g' : Nat} {t : TypeId} {cs : Array Value} {i0 i1 i2 : Nat} {v0 v1 v2 : Value} (hn : Aside0 (g' ≠ g)) (h : Aside0 (W0.heap[g']? = some (.cells cs t (0, 0)))) (b : (((W.setCell ⟨g, i0, none⟩ v0).setCell ⟨g, i1, none⟩ v1).setCell ⟨g, i2, none⟩ v2).heap[g']? = some (.cells cs t (0, 0)) → W'.heap[g']? = some (.cells cs t (0, 0)) := by (intro h_; (with_reducible repeat (first | refine blk_drewN ?_ _ | refine blk_drew ?_ | refine blk_alloc ?_ _)); exact h_)) (t0 : W.heap[g']? = some (.cells cs t (0, 0)) := by (with_reducible repeat (first | refine blk_drewN ?_ _ | refine blk_drew ?_ | refine blk_alloc ?_ _)); exact Aside0.out (by assumption)) : W'.heap[g']? = some (.cells cs t (0, 0)) := b (blk_far (blk_far (blk_far t0 hn.out v0) hn.out v1) hn.out v2)
theorem CF3 {W : World} {g : Nat} {a : Addr} {u : Value} {i0 i1 i2 : Nat} {v0 v1 v2 : Value} (hn : a.block ≠ g) (h : W.cell? a = some u) : (((W.setCell ⟨g, i0, none⟩ v0).setCell ⟨g, i1, none⟩ v1).setCell ⟨g, i2, none⟩ v2).cell? a = some u := ((cell_far (p := ⟨g, i2, none⟩) hn v2).trans ((cell_far (p := ⟨g, i1, none⟩) hn v1).trans ((cell_far (p := ⟨g, i0, none⟩) hn v0).trans h)))
abbrev S3W (W : World) (g : Nat) (v0 v1 v2 : Value) : World := (((W.setCell ⟨g, 0, none⟩ v0).setCell ⟨g, 1, none⟩ v1).setCell ⟨g, 2, none⟩ v2)
theorem CE {w : World} {g : Nat} {t : TypeId} {cs : Array Value} {v : Value} (h : Aside0 (w.heap[g]? = some (.cells cs t (0, 0)))) (i : Nat) (e : cs[i]? = some v := by rfl) : w.cell? ⟨g, i, none⟩ = some v := (blk_cell h.out i).trans e
theorem CZ2 {w : World} {g : Nat} {t : TypeId} {x y : Value} (h : Aside0 (w.heap[g]? = some (.cells #[x, y] t (0, 0)))) : w.cell? ⟨g, 0, none⟩ = some x ∧ w.cell? ⟨g, 1, none⟩ = some y ∧ w.frozen? ⟨g, 0, none⟩ = false ∧ w.frozen? ⟨g, 1, none⟩ = false := ⟨(blk_cell h.out 0).trans rfl, (blk_cell h.out 1).trans rfl, blk_frozen h.out 0, blk_frozen h.out 1⟩
theorem CZ3 {w : World} {g : Nat} {t : TypeId} {x y z : Value} (h : Aside0 (w.heap[g]? = some (.cells #[x, y, z] t (0, 0)))) : w.cell? ⟨g, 0, none⟩ = some x ∧ w.cell? ⟨g, 1, none⟩ = some y ∧ w.cell? ⟨g, 2, none⟩ = some z ∧ w.frozen? ⟨g, 0, none⟩ = false ∧ w.frozen? ⟨g, 1, none⟩ = false ∧ w.frozen? ⟨g, 2, none⟩ = false := ⟨(blk_cell h.out 0).trans rfl, (blk_cell h.out 1).trans rfl, (blk_cell h.out 2).trans rfl, blk_frozen h.out 0, blk_frozen h.out 1, blk_frozen h.out 2⟩
section
variable {P : Program} {md : Region.Mode} {ops : Array Oper} {ds : List Nat} {S : World → Prop} {Q : Exit → Act → World → Prop} {T : Bool × List (List Nat × List Nat)} {B : List Nat}
theorem GC {rest : List Oper} {o : Oper} {a : Act} {W : World} (f : FuncId) {as : Array Operand} {ts : Array TypeId} (_ho : o.op = .call { callee := .value (.func f), args := as, argTypes := ts }) (h : wpList P ops Q (o :: rest) a W) : wpList P ops Q (o :: rest) a W := h
/-- A call by its contract, in a plain row of operations. -/
theorem GL {rest : List Oper} {oi : Oper} {a : Act} {w : World} (N : Nat) {f : FuncId} {fn : Func} {as : Array Operand} {ts : Array TypeId} {args : Array Value} {post : Ending → World → Prop} (hf : P.funcs[f]? = some fn) (hc : Calls P f args w post)
    (h : ∀ (e : Ending) (w' : World), post e w' → ∃ v, e = .returned v ∧ wpList P ops Q rest (a.put (some N) v) w')
    (hd : oi.dst = some N := by exact rfl) (hg : oi.guard = none := by exact rfl) (hname : (fn.name == "runtime.NumGoroutine") = false := by kernel_rfl) (hb : fn.body.isSome = true := by exact rfl)
    (hop : oi.op = .call { callee := .value (.func f), args := as, argTypes := ts } := by exact rfl) (hargs : as.map a.eval = args := by (try simp only [List.map_toArray, List.map_cons, List.map_nil]); first | done | rfl | (simp only [List.length_drop, List.length_take]; rfl)) : wpList P ops Q (oi :: rest) a w :=
  goesL_ (some N) hd hg hf hname hb args hop hargs (hc.mono h)
/-- A struct that came in is laid into a block. -/
theorem BX {rest : List Oper} {o : Oper} {a : Act} {W : World} (N : Nat) (t : TypeId) (cs : Array Value)
    (h : ∀ g, g = W.heap.size → ∀ w1, w1.heap[g]? = some (.cells cs t (0, 0)) → Below W.heap.size W w1 → wpList P ops Q rest (a.put o.dst (.pointer (some ⟨g, 0, none⟩))) w1)
    (hgd : o.guard = none := by exact rfl) (hd : o.dst = some N := by exact rfl)
    (hrun : (execOp a.eval o).run P W = .ok (.value (.pointer (some ⟨W.heap.size, 0, none⟩))) (W.alloc (.cells cs t (0, 0))) := by first | (go_simp; done) | (go_simp; rfl)) : wpList P ops Q (o :: rest) a W := box_event hgd hd hrun h
/-- In a drawn region: an operation that yields in every world. -/
theorem PU (i N : Nat) {oi : Oper} {v : Value} {fuel : Nat} {l l' : Array Bool} {a a' : Act} {w : World} (hT : Aside0 (rtab md ops = T)) (h : wpAnyLast P md ops Q S ds fuel l' a' w)
    (hi : ops[i]? = some oi := by exact rfl) (hN : oi.dst = some N := by exact rfl) (hl : l.setIfInBounds i true = l' := by (simp only [List.setIfInBounds_toArray, List.set_cons_zero, List.set_cons_succ]; exact rfl))
    (hc : anyT T l.toList l'.toList i = true := by kernel_rfl) (hQ : ∀ c a w, Q (.panic c) (a.put oi.dst v) w → Q (.panic c) a w := by exact fun _ _ _ h => h)
    (hw : Region.wanted oi (yielded ops a.tmps) = true := by exact rfl) (hy : ∀ w, (execOp a.eval oi).run P w = .ok (.value v) w := by (intro w'; go_simp; with_reducible rfl))
    (ha : a.put (some N) v = a' := by (simp only [Act.put, List.setIfInBounds_toArray, List.set_cons_zero, List.set_cons_succ, i64_w, i32_w]; rfl)) : wpAnyLast P md ops Q S ds (fuel + 1) l a w :=
  pure_ l' hi hN (any_of hT.out hc) hQ (Or.inl ⟨hw, hy⟩) ha h
/-- An operation whose guard says no. -/
theorem PX (i N : Nat) {oi : Oper} {fuel : Nat} {l l' : Array Bool} {a a' : Act} {w : World} (hT : Aside0 (rtab md ops = T)) (h : wpAnyLast P md ops Q S ds fuel l' a' w)
    (hi : ops[i]? = some oi := by exact rfl) (hN : oi.dst = some N := by exact rfl) (hl : l.setIfInBounds i true = l' := by (simp only [List.setIfInBounds_toArray, List.set_cons_zero, List.set_cons_succ]; exact rfl))
    (hc : anyT T l.toList l'.toList i = true := by kernel_rfl) (hQ : ∀ c a w, Q (.panic c) (a.put oi.dst undef) w → Q (.panic c) a w := by exact fun _ _ _ h => h)
    (hw : Region.wanted oi (yielded ops a.tmps) = false := by exact rfl)
    (ha : a.put (some N) undef = a' := by (simp only [Act.put, List.setIfInBounds_toArray, List.set_cons_zero, List.set_cons_succ, i64_w, i32_w]; rfl)) : wpAnyLast P md ops Q S ds (fuel + 1) l a w :=
  pure_ l' hi hN (any_of hT.out hc) hQ (Or.inr ⟨hw, rfl⟩) ha h
def rl : Nat → List Bool
  | 0 => []
  | n + 1 => false :: rl n
theorem rl_eq : ∀ n, rl n = List.replicate n false
  | 0 => rfl
  | n + 1 => by rw [rl, rl_eq n, List.replicate_succ]
/-- The begin of a drawn region. -/
theorem ST {id : Nat} {a : Act} {w : World} {l : Array Bool} (n : Nat) (S : World → Prop) (ds : List Nat) (hT : rtab .any ops = T) (hB : waitsOk T.2 B = true) (hS : S w.drew)
    (h : S w.drew → Aside0 (rtab .any ops = T) → Aside0 (waitsOk T.2 B = true) → wpAnyLast P .any ops Q S ds n l a w.drew)
    (hm : P.follows .mixedOrders = true := by kernel_rfl) (hn : ops.size = n := by exact rfl) (hl : (rl n).toArray = l := by (simp only [rl]; exact rfl)) : (Code.region id ops true).wp P Q a w :=
  start_ (S := S) (ds := ds) l hm hn (by rw [← hl, rl_eq]; simp) hS (fun hs => h hs ⟨hT⟩ ⟨hB⟩)
/-- The same for one that yields where S holds. -/
theorem TA (i N : Nat) {oi : Oper} {v : Value} {fuel : Nat} {l l' : Array Bool} {a a' : Act} {w : World} (hT : Aside0 (rtab md ops = T)) (hB : Aside0 (waitsOk T.2 B = true)) (hS : S w) (h : wpAnyLast P md ops Q S ds fuel l' a' w)
    (hi : ops[i]? = some oi := by exact rfl) (hN : oi.dst = some N := by exact rfl) (hl : l.setIfInBounds i true = l' := by (simp only [List.setIfInBounds_toArray, List.set_cons_zero, List.set_cons_succ]; exact rfl))
    (hc : takeW T B ds l.toList l'.toList i = true := by kernel_rfl) (hQ : ∀ c a w, Q (.panic c) (a.put oi.dst v) w → Q (.panic c) a w := by exact fun _ _ _ h => h)
    (hw : Region.wanted oi (yielded ops a.tmps) = true := by exact rfl) (hy : ∀ w, S w → (execOp a.eval oi).run P w = .ok (.value v) w := by (rintro w' hs; (try dsimp only at hs); go_split_ands; go_simp; with_reducible rfl))
    (ha : a.put (some N) v = a' := by (simp only [Act.put, List.setIfInBounds_toArray, List.set_cons_zero, List.set_cons_succ, i64_w, i32_w]; rfl)) : wpAnyLast P md ops Q S ds (fuel + 1) l a w :=
  take_ l' hi hN (take_ofW hT.out hB.out hc) hQ (Or.inl ⟨hw, hy⟩) hS ha h
/-- The same for a call that alone may come up. -/
theorem OG (i N : Nat) {oi : Oper} {fuel : Nat} {l l' : Array Bool} {a : Act} {w : World} {f : FuncId} {fn : Func} {as : Array Operand} {ts : Array TypeId} {args : Array Value} {post : Ending → World → Prop} (hT : Aside0 (rtab md ops = T)) (hf : P.funcs[f]? = some fn) (hcl : Calls P f args w post)
    (h : ∀ K : Act → World → Prop, Shut (∀ a' w', S w' → (S w' → wpAnyLast P md ops Q S ds fuel l' a' w') → K a' w') → ∀ (e : Ending) (w' : World), post e w' → ∃ v, e = .returned v ∧ K (a.put (some N) v) w')
    (hi : ops[i]? = some oi := by exact rfl) (hN : oi.dst = some N := by exact rfl) (hl : l.setIfInBounds i true = l' := by (simp only [List.setIfInBounds_toArray, List.set_cons_zero, List.set_cons_succ]; exact rfl))
    (hc : (readyT T.2 l.toList == [i] && l.toList.set i true == l'.toList) = true := by kernel_rfl) (hd : i ∉ ds := by decide)
    (hname : (fn.name == "runtime.NumGoroutine") = false := by kernel_rfl) (hb : fn.body.isSome = true := by exact rfl) (hw : Region.wanted oi (yielded ops a.tmps) = true := by exact rfl)
    (hop : oi.op = .call { callee := .value (.func f), args := as, argTypes := ts } := by exact rfl) (hargs : as.map a.eval = args := by (try simp only [List.map_toArray, List.map_cons, List.map_nil]); first | done | rfl | (simp only [List.length_drop, List.length_take]; rfl)) : wpAnyLast P md ops Q S ds (fuel + 1) l a w :=
  one_ l' hi hN (one_of hT.out hc) hd (fun K hK => goes_ hf hname hb args hw hN hop hargs (hcl.mono (h K hK)))
/-- The same words where the region is small: no table. -/
theorem SU {id : Nat} {a : Act} {w : World} {l : Array Bool} (n : Nat) (S : World → Prop) (ds : List Nat) (hS : S w.drew)
    (h : S w.drew → wpAnyLast P .any ops Q S ds n l a w.drew)
    (hm : P.follows .mixedOrders = true := by kernel_rfl) (hn : ops.size = n := by exact rfl) (hl : (rl n).toArray = l := by (simp only [rl]; exact rfl)) : (Code.region id ops true).wp P Q a w :=
  start_ (S := S) (ds := ds) l hm hn (by rw [← hl, rl_eq]; simp) hS h
theorem PV (i N : Nat) {oi : Oper} {v : Value} {fuel : Nat} {l l' : Array Bool} {a a' : Act} {w : World} (h : wpAnyLast P md ops Q S ds fuel l' a' w)
    (hi : ops[i]? = some oi := by exact rfl) (hN : oi.dst = some N := by exact rfl) (hl : l.setIfInBounds i true = l' := by (simp only [List.setIfInBounds_toArray, List.set_cons_zero, List.set_cons_succ]; exact rfl))
    (hc : anyB md ops l l' i = true := by kernel_rfl) (hQ : ∀ c a w, Q (.panic c) (a.put oi.dst v) w → Q (.panic c) a w := by exact fun _ _ _ h => h)
    (hw : Region.wanted oi (yielded ops a.tmps) = true := by exact rfl) (hy : ∀ w, (execOp a.eval oi).run P w = .ok (.value v) w := by (intro w'; go_simp; with_reducible rfl))
    (ha : a.put (some N) v = a' := by (simp only [Act.put, List.setIfInBounds_toArray, List.set_cons_zero, List.set_cons_succ, i64_w, i32_w]; rfl)) : wpAnyLast P md ops Q S ds (fuel + 1) l a w :=
  pure_ l' hi hN hc hQ (Or.inl ⟨hw, hy⟩) ha h
theorem TV (i N : Nat) {oi : Oper} {v : Value} {fuel : Nat} {l l' : Array Bool} {a a' : Act} {w : World} (hS : S w) (h : wpAnyLast P md ops Q S ds fuel l' a' w)
    (hi : ops[i]? = some oi := by exact rfl) (hN : oi.dst = some N := by exact rfl) (hl : l.setIfInBounds i true = l' := by (simp only [List.setIfInBounds_toArray, List.set_cons_zero, List.set_cons_succ]; exact rfl))
    (hc : takeB md ops ds l l' i = true := by kernel_rfl) (hQ : ∀ c a w, Q (.panic c) (a.put oi.dst v) w → Q (.panic c) a w := by exact fun _ _ _ h => h)
    (hw : Region.wanted oi (yielded ops a.tmps) = true := by exact rfl) (hy : ∀ w, S w → (execOp a.eval oi).run P w = .ok (.value v) w := by (rintro w' hs; (try dsimp only at hs); go_split_ands; go_simp; with_reducible rfl))
    (ha : a.put (some N) v = a' := by (simp only [Act.put, List.setIfInBounds_toArray, List.set_cons_zero, List.set_cons_succ, i64_w, i32_w]; rfl)) : wpAnyLast P md ops Q S ds (fuel + 1) l a w :=
  take_ l' hi hN hc hQ (Or.inl ⟨hw, hy⟩) hS ha h
theorem OH (i N : Nat) {oi : Oper} {fuel : Nat} {l l' : Array Bool} {a : Act} {w : World} {f : FuncId} {fn : Func} {as : Array Operand} {ts : Array TypeId} {args : Array Value} {post : Ending → World → Prop} (hf : P.funcs[f]? = some fn) (hcl : Calls P f args w post)
    (h : ∀ K : Act → World → Prop, Shut (∀ a' w', S w' → (S w' → wpAnyLast P md ops Q S ds fuel l' a' w') → K a' w') → ∀ (e : Ending) (w' : World), post e w' → ∃ v, e = .returned v ∧ K (a.put (some N) v) w')
    (hi : ops[i]? = some oi := by exact rfl) (hN : oi.dst = some N := by exact rfl) (hl : l.setIfInBounds i true = l' := by (simp only [List.setIfInBounds_toArray, List.set_cons_zero, List.set_cons_succ]; exact rfl))
    (hc : readyB md ops l l' i = true := by kernel_rfl) (hd : i ∉ ds := by decide)
    (hname : (fn.name == "runtime.NumGoroutine") = false := by kernel_rfl) (hb : fn.body.isSome = true := by exact rfl) (hw : Region.wanted oi (yielded ops a.tmps) = true := by exact rfl)
    (hop : oi.op = .call { callee := .value (.func f), args := as, argTypes := ts } := by exact rfl) (hargs : as.map a.eval = args := by (try simp only [List.map_toArray, List.map_cons, List.map_nil]); first | done | rfl | (simp only [List.length_drop, List.length_take]; rfl)) : wpAnyLast P md ops Q S ds (fuel + 1) l a w :=
  one_ l' hi hN hc hd (fun K hK => goes_ hf hname hb args hw hN hop hargs (hcl.mono (h K hK)))
/-- Back into the region behind it. -/
theorem HN {K : Act → World → Prop} {fuel : Nat} {l : Array Bool} {a a' : Act} {w : World} {N : Nat} {v : Value} (hK : Shut (∀ a' w', S w' → (S w' → wpAnyLast P md ops Q S ds fuel l a' w') → K a' w')) (hS : S w) (h : S w → wpAnyLast P md ops Q S ds fuel l a' w)
    (ha : a.put (some N) v = a' := by (simp only [Act.put, List.setIfInBounds_toArray, List.set_cons_zero, List.set_cons_succ, i64_w, i32_w]; rfl)) : K (a.put (some N) v) w := hK.out _ _ hS (fun hs => norm_ ha (h hs))
end
end Go.Proofs.Ytfpomjnhgcmgoaa.P

