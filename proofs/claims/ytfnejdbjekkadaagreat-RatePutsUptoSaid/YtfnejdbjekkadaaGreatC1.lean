/- A part of the proof of RatePuts: texts that were printed, words, walks. No condition. -/
import Derived.Test.YtfnejdbjekkadaaGreatC0
import Derived.Test.YtfnejdbjekkadaaGreatProg
import Derived.BigQuiet
import Derived.Below
import Derived.Deep.Draws
import Derived.Deep.AppendLies
import Derived.Maps.AppendAt
import Derived.OwnWalk
import Derived.Laws.BytesArg
import Derived.Laws.MakeOwn
import Derived.Laws.OwnMore
import Derived.Deep.OwnRows
import Derived.Tactics
import Derived.Lib.ConvBytes
import Derived.Laws.Slices
import Derived.WalkKit
import Derived.KernelRfl
import Derived.RowKit3
import Derived.Deep.LoopGhost
import Derived.Deep.QuietTactic
import Derived.WideLaws
import Derived.Deep.DeepCutAuto
import Derived.Deep.CutBlock
import Derived.Deep.RegionHeld3
import Derived.Laws.Rows
import Derived.Lib.AppendStr
import Derived.ArgAppend
import Derived.Laws.IdiomCopy
import Derived.OrdersHeld
import Derived.Laws.BitsLemmas
import Derived.RowKit
import Derived.Maps.OwnOps
import Derived.Maps.RangeWalk
set_option linter.unusedVariables false
set_option linter.unusedSimpArgs false
section
namespace Go.Proofs.YtfnejdbjekkadaaGreatW.PrintWords
open Go.RowKit Go.Proofs.YtfnejdbjekkadaaGreatW.PrintLast
class Gr (w : outParam World) (W : World) : Prop where
 b : Below w.heap.size w W
instance (w : World) (o : Obj) : Gr w (w.alloc o) := ⟨qAA (Below.refl _ _) o⟩
instance (w : World) : Gr w w.drew := ⟨qBP (Below.refl _ _)⟩
instance (w : World) (n : Nat) : Gr w (w.drewN n) := ⟨qA8 (Below.refl _ _) n⟩
theorem st {w W : World} [h : Gr w W] {g : Nat} {o : Obj} (hh : w.heap[g]? = some o) : W.heap[g]? = some o := qAM hh h.b
theorem sR {α : Type} {d : Kd α} {e : Nat} {w W : World} [h : Gr w W] {base : Nat} {ok : Nat → Prop} {v : Value} {xs : List α} (hh : d.R e w base ok v xs) : d.R e W base ok v xs := Kd.qBM hh h.b
theorem sC {α : Type} {d : Kd α} {w W : World} [h : Gr w W] {A : Option Addr} {n : Nat} {xs : List α} (hh : d.C w A n xs) : d.C W A n xs := Kd.qAB hh h.b
theorem zb {base : Nat} {w W : World} (h : Below base w W := by repeat (first | (with_reducible first | exact HB.out | apply qAA | apply qA8 | apply qBP | refine qDW ?_ (qA0.out (by assumption))) | exact HB.out)) : Below base w W := h
theorem zk {W W' : World} {g : Nat} {o : Obj} (h : qA0 (W.heap[g]? = some o)) (t : W.heap[g]? = some o → W'.heap[g]? = some o := by intro h_; (with_reducible repeat (first | refine qCX ?_ _ | refine qB7 ?_ | refine qBV ?_ _)); exact h_) : W'.heap[g]? = some o := t h.out
theorem zR {α : Type} {d : Kd α} {e : Nat} {w W : World} {base : Nat} {ok : Nat → Prop} {v : Value} {xs : List α} (h : qA0 (d.R e w base ok v xs)) (t : d.R e w base ok v xs → d.R e W base ok v xs := by intro h_; (with_reducible repeat (first | apply Kd.R_alloc | apply Kd.R_drewN | apply Kd.R_drew)); exact h_) : qA0 (d.R e W base ok v xs) := ⟨t h.out⟩
theorem zs {α : Type} {a b : α} (h : a = b := by first | rfl | (simp; done) | (simp [*]; done)) : a = b := h
theorem ze {α : Type} [BEq α] [LawfulBEq α] {a b : α} (h : a = b) : (a == b) = true ∧ (a != b) = false := ⟨beq_iff_eq.mpr h, bne_eq_false_iff_eq.mpr h⟩
theorem zn {α : Type} [BEq α] [LawfulBEq α] {a b : α} (h : ¬ a = b) : (a == b) = false ∧ (a != b) = true := ⟨beq_eq_false_iff_ne.mpr h, bne_iff_ne.mpr h⟩
theorem zf {P : Prop} (h : P := by first | rfl | (simp [qD9, qD8] <;> rfl) | (simp [*, qD9, qD8] <;> rfl)) : P := h
theorem zm {α : Type} {a b : Option α} (h : LeO a b := by repeat' (first | (with_reducible first | apply ih0 | apply ih1 | apply ih2 | apply ih3 | apply ih4 | apply ih5 | apply ih6 | apply ih7 | apply im0 | apply im1 | apply im2 | apply im3 | apply im4 | apply im5 | apply im6 | apply im7 | exact LeO.refl _ | exact LeO.none _ | refine LeO.ite ?_ ?_ | refine LeO.bind ?_ (fun _ => ?_)) | (first | apply ih0 | apply ih1 | apply ih2 | apply ih3 | apply ih4 | apply ih5 | apply ih6 | apply ih7 | apply im0 | apply im1 | apply im2 | apply im3 | apply im4 | apply im5 | apply im6 | apply im7 | exact LeO.none _ | refine LeO.ite ?_ ?_ | refine LeO.bind ?_ (fun _ => ?_)))) : LeO a b := h
theorem sS {α : Type} {d : Kd α} {e : Nat} {w W : World} [h : Gr w W] {base : Nat} {ok : Nat → Prop} {v : Value} {xs : List α} (hh : d.S e w base ok v xs) : d.S e W base ok v xs := Kd.qDY hh h.b
theorem zf_ {w W : World} {g : Nat} {t : TypeId} {cs : Array Value} {p : Addr} {u : Value} (h : w.heap[g]? = some (.cells cs t (0, 0))) (hp : qA0 (g ≠ p.block)) (c : (w.setCell p u).heap[g]? = some (.cells cs t (0, 0)) → W.heap[g]? = some (.cells cs t (0, 0)) := by intro h_; (with_reducible repeat (first | refine qCX ?_ _ | refine qB7 ?_ | refine qBV ?_ _)); exact h_) : W.heap[g]? = some (.cells cs t (0, 0)) := c (qCJ h hp.out u)
theorem zp_ {w W : World} {g : Nat} {t : TypeId} {cs cs' : Array Value} {u : Value} (h : w.heap[g]? = some (.cells cs t (0, 0))) (i : Nat) (c : (w.setCell ⟨g, i, none⟩ u).heap[g]? = some (.cells cs' t (0, 0)) → W.heap[g]? = some (.cells cs' t (0, 0)) := by intro h_; (with_reducible repeat (first | refine qCX ?_ _ | refine qB7 ?_ | refine qBV ?_ _)); exact h_) (e : cs.setIfInBounds i u = cs' := by exact rfl) : W.heap[g]? = some (.cells cs' t (0, 0)) := c (qC2 h i u e)
theorem zr {p : Prop} (h : p := by first | (rw [hy_]; with_reducible exact H) | (have H2_ := (Option.bind_some _ _).symm.trans H; rw [hy_]; with_reducible exact H2_) | (have H2_ := (Option.bind_some _ _).symm.trans H; with_reducible exact H2_) | with_reducible exact H | (rw [hy_]; exact H) | exact H) : p := h
def bs (n m : Nat) : Array Bool := ((List.range n).map fun i => m.testBit i).toArray
theorem zd {p : Prop} [Decidable p] (h : decide p = true := by first | (with_reducible assumption) | assumption) : p := of_decide_eq_true h
theorem zh {w W W' : World} {a : Addr} {v : Value} (h : w.cell? a = some v) (hb : qA0 (Below w.heap.size w W) := by exact HB) (e : W.cell? a = some v → W'.cell? a = some v := by exact id) : W'.cell? a = some v := e ((hb.out.cell (World.block_lt_of_cell? w _ h)).trans h)
theorem zg (w : World) (g : Nat) (h : w.heap.size ≤ g := by rw [hg]; exact qAH zb) : qA0 (w.heap.size ≤ g) := ⟨h⟩
theorem zl {W : World} {g : Nat} {o : Obj} (h : qA0 (W.heap[g]? = some o)) (g' : Nat) (e : qA0 (W.heap[g]? = some o) → g ≠ g' := by intro h_; rw [hg]; exact Nat.ne_of_lt (qCR (zk h_))) : qA0 (g ≠ g') := ⟨e h⟩
theorem zu {W : World} {g : Nat} {o : Obj} (h : qA0 (W.heap[g]? = some o)) (g' : Nat) (e : qA0 (W.heap[g]? = some o) → g' ≠ g := by intro h_; rw [hg]; exact Nat.ne_of_gt (qCR (zk h_))) : qA0 (g' ≠ g) := ⟨e h⟩
section
variable {P : Program} {ops : Array Oper} {Q : Exit → Act → World → Prop}
theorem qBY {rest : List Oper} {oi : Oper} {a : Act} {w : World} (N : Option Tmp) {f : FuncId} {fn : Func} {aa : Array Operand} {ts : Array TypeId} (hf : P.funcs[f]? = some fn) (args : Array Value)
  (h : Calls P f args w fun e w' => ∃ v, e = .returned v ∧ wpList P ops Q rest (a.put N v) w')
  (hd : oi.dst = N := by exact rfl) (hg : oi.guard = none := by exact rfl) (hname : (fn.name == "runtime.NumGoroutine") = false := by kernel_rfl) (hb : fn.body.isSome = true := by exact rfl) (hop : oi.op = .call { callee := .value (.func f), args := aa, argTypes := ts } := by exact rfl)
  (hargs : aa.map a.eval = args := by (try simp only [List.map_toArray, List.map_cons, List.map_nil]); first | done | rfl | (simp only [List.length_drop, List.length_take]; rfl)) : wpList P ops Q (oi :: rest) a w :=
 goesL_ N hd hg hf hname hb args hop hargs h
end
section
variable {P : Program} {md : Region.Mode} {ops : Array Oper} {Q : Exit → Act → World → Prop} {S : World → Prop} {ds : List Nat}
theorem qBK {i : Nat} {N : Option Tmp} {oi : Oper} {v : Value} {fuel : Nat} {l : Array Bool} {a a' : Act} {w : World} (l' : Array Bool) (h : qBG P md ops Q S ds fuel l' a' w)
  (hi : ops[i]? = some oi := by exact rfl) (hN : oi.dst = N := by exact rfl) (hc : anyB md ops l l' i = true := by exact any_of HT_.out (by kernel_rfl))
  (hQ : ∀ c a w, Q (.panic c) (a.put oi.dst v) w → Q (.panic c) a w := by exact fun _ _ _ h => h) (hy : Yields P ops oi v a := by refine Or.inl ⟨by rfl, ?_⟩; intro w'; go_simp; with_reducible rfl)
  (ha : a.put N v = a' := by simp only [Act.put, List.setIfInBounds_toArray, List.set_cons_zero, List.set_cons_succ, qCI, qCO]; rfl) : qBG P md ops Q S ds (fuel + 1) l a w := pure_ l' hi hN hc hQ hy ha h
theorem qFQ {fuel : Nat} {l : Array Bool} {a a' : Act} {w : World} (h : qBG P md ops Q S ds fuel l a' w) (ha : a = a' := by show Act.put _ (some _) _ = _; simp only [Act.put, List.setIfInBounds_toArray, List.set_cons_zero, List.set_cons_succ, qCI, qCO]; rfl) : qBG P md ops Q S ds fuel l a w := norm_ ha h
theorem qEM {i : Nat} {N : Option Tmp} {oi : Oper} {v : Value} {fuel : Nat} {l : Array Bool} {a a' : Act} {w : World} (l' : Array Bool) (h : qBG P md ops Q S ds fuel l' a' w)
  (hi : ops[i]? = some oi := by exact rfl) (hN : oi.dst = N := by exact rfl) (hc : takeB md ops ds l l' i = true := by exact take_ofW HT_.out HW_.out (by kernel_rfl))
  (hQ : ∀ c a w, Q (.panic c) (a.put oi.dst v) w → Q (.panic c) a w := by exact fun _ _ _ h => h) (hy : YieldsIf P ops S oi v a := by refine Or.inl ⟨by rfl, ?_⟩; intro w' hs_; (try obtain ⟨s0, hs_⟩ := hs_); (try obtain ⟨s1, hs_⟩ := hs_); (try obtain ⟨s2, hs_⟩ := hs_); (try obtain ⟨s3, hs_⟩ := hs_); (try obtain ⟨s4, hs_⟩ := hs_); go_simp; with_reducible rfl)
  (hS : S w := by exact hHeld)
  (ha : a.put N v = a' := by simp only [Act.put, List.setIfInBounds_toArray, List.set_cons_zero, List.set_cons_succ, qCI, qCO]; rfl) : qBG P md ops Q S ds (fuel + 1) l a w := take_ l' hi hN hc hQ hy hS ha h
end
theorem bc2 {w : World} {g : Nat} {t : TypeId} {a0 a1 : Value} (h : w.heap[g]? = some (.cells #[a0, a1] t (0, 0))) : w.cell? ⟨g, 0, none⟩ = some a0 ∧ w.cell? ⟨g, 1, none⟩ = some a1 ∧ w.frozen? ⟨g, 0, none⟩ = false ∧ w.frozen? ⟨g, 1, none⟩ = false := ⟨(qA1 h 0).trans rfl, (qA1 h 1).trans rfl, qAZ h 0, qAZ h 1⟩
theorem bc4 {w : World} {g : Nat} {t : TypeId} {a0 a1 a2 a3 : Value} (h : w.heap[g]? = some (.cells #[a0, a1, a2, a3] t (0, 0))) : w.cell? ⟨g, 0, none⟩ = some a0 ∧ w.cell? ⟨g, 1, none⟩ = some a1 ∧ w.cell? ⟨g, 2, none⟩ = some a2 ∧ w.cell? ⟨g, 3, none⟩ = some a3 ∧ w.frozen? ⟨g, 0, none⟩ = false ∧ w.frozen? ⟨g, 1, none⟩ = false ∧ w.frozen? ⟨g, 2, none⟩ = false ∧ w.frozen? ⟨g, 3, none⟩ = false := ⟨(qA1 h 0).trans rfl, (qA1 h 1).trans rfl, (qA1 h 2).trans rfl, (qA1 h 3).trans rfl, qAZ h 0, qAZ h 1, qAZ h 2, qAZ h 3⟩
theorem bc5 {w : World} {g : Nat} {t : TypeId} {a0 a1 a2 a3 a4 : Value} (h : w.heap[g]? = some (.cells #[a0, a1, a2, a3, a4] t (0, 0))) : w.cell? ⟨g, 0, none⟩ = some a0 ∧ w.cell? ⟨g, 1, none⟩ = some a1 ∧ w.cell? ⟨g, 2, none⟩ = some a2 ∧ w.cell? ⟨g, 3, none⟩ = some a3 ∧ w.cell? ⟨g, 4, none⟩ = some a4 ∧ w.frozen? ⟨g, 0, none⟩ = false ∧ w.frozen? ⟨g, 1, none⟩ = false ∧ w.frozen? ⟨g, 2, none⟩ = false ∧ w.frozen? ⟨g, 3, none⟩ = false ∧ w.frozen? ⟨g, 4, none⟩ = false := ⟨(qA1 h 0).trans rfl, (qA1 h 1).trans rfl, (qA1 h 2).trans rfl, (qA1 h 3).trans rfl, (qA1 h 4).trans rfl, qAZ h 0, qAZ h 1, qAZ h 2, qAZ h 3, qAZ h 4⟩
theorem bc6 {w : World} {g : Nat} {t : TypeId} {a0 a1 a2 a3 a4 a5 : Value} (h : w.heap[g]? = some (.cells #[a0, a1, a2, a3, a4, a5] t (0, 0))) : w.cell? ⟨g, 0, none⟩ = some a0 ∧ w.cell? ⟨g, 1, none⟩ = some a1 ∧ w.cell? ⟨g, 2, none⟩ = some a2 ∧ w.cell? ⟨g, 3, none⟩ = some a3 ∧ w.cell? ⟨g, 4, none⟩ = some a4 ∧ w.cell? ⟨g, 5, none⟩ = some a5 ∧ w.frozen? ⟨g, 0, none⟩ = false ∧ w.frozen? ⟨g, 1, none⟩ = false ∧ w.frozen? ⟨g, 2, none⟩ = false ∧ w.frozen? ⟨g, 3, none⟩ = false ∧ w.frozen? ⟨g, 4, none⟩ = false ∧ w.frozen? ⟨g, 5, none⟩ = false := ⟨(qA1 h 0).trans rfl, (qA1 h 1).trans rfl, (qA1 h 2).trans rfl, (qA1 h 3).trans rfl, (qA1 h 4).trans rfl, (qA1 h 5).trans rfl, qAZ h 0, qAZ h 1, qAZ h 2, qAZ h 3, qAZ h 4, qAZ h 5⟩
theorem bc7 {w : World} {g : Nat} {t : TypeId} {a0 a1 a2 a3 a4 a5 a6 : Value} (h : w.heap[g]? = some (.cells #[a0, a1, a2, a3, a4, a5, a6] t (0, 0))) : w.cell? ⟨g, 0, none⟩ = some a0 ∧ w.cell? ⟨g, 1, none⟩ = some a1 ∧ w.cell? ⟨g, 2, none⟩ = some a2 ∧ w.cell? ⟨g, 3, none⟩ = some a3 ∧ w.cell? ⟨g, 4, none⟩ = some a4 ∧ w.cell? ⟨g, 5, none⟩ = some a5 ∧ w.cell? ⟨g, 6, none⟩ = some a6 ∧ w.frozen? ⟨g, 0, none⟩ = false ∧ w.frozen? ⟨g, 1, none⟩ = false ∧ w.frozen? ⟨g, 2, none⟩ = false ∧ w.frozen? ⟨g, 3, none⟩ = false ∧ w.frozen? ⟨g, 4, none⟩ = false ∧ w.frozen? ⟨g, 5, none⟩ = false ∧ w.frozen? ⟨g, 6, none⟩ = false := ⟨(qA1 h 0).trans rfl, (qA1 h 1).trans rfl, (qA1 h 2).trans rfl, (qA1 h 3).trans rfl, (qA1 h 4).trans rfl, (qA1 h 5).trans rfl, (qA1 h 6).trans rfl, qAZ h 0, qAZ h 1, qAZ h 2, qAZ h 3, qAZ h 4, qAZ h 5, qAZ h 6⟩
end Go.Proofs.YtfnejdbjekkadaaGreatW.PrintWords
end
section
namespace Go.Proofs.YtfnejdbjekkadaaGreatW.PrintWords
open Go.RowKit Go.Proofs.YtfnejdbjekkadaaGreatW.PrintLast
set_option maxHeartbeats 4000000
theorem zB {w W W' : World} (hb : Below W.heap.size W W') (h : Below w.heap.size w W := by exact zb) : qA0 (Below w.heap.size w W') := ⟨qA7 h hb⟩
theorem zK {w W W' : World} {g : Nat} {o : Obj} (h : qA0 (w.heap[g]? = some o)) (hb : Below W.heap.size W W') (t : w.heap[g]? = some o → W.heap[g]? = some o := by intro h_; (with_reducible repeat (first | refine qCX ?_ _ | refine qB7 ?_ | refine qBV ?_ _)); exact h_) : qA0 (W'.heap[g]? = some o) := ⟨qAM (t h.out) hb⟩
theorem zD {w W : World} (h : qB8 w W := by repeat (first | exact qB8.refl _ | apply qB8.step)) : qB8 w W := h
theorem zi {α β : Type} {x : Option α} {f : α → Option β} {b : β} (h : x.bind f = some b) : ∃ a, x = some a ∧ f a = some b := Option.bind_eq_some_iff.mp h
theorem zj {α : Type} {a b : α} : (if false = true then a else b) = b := if_neg (by decide)
theorem zp2 {w V W : World} {g : Nat} {t : TypeId} {a0 a1 u0 u1 : Value} (h : qA0 (V.heap[g]? = some (.cells #[a0, a1] t (0, 0)))) (c : ((w.setCell ⟨g, 0, none⟩ u0).setCell ⟨g, 1, none⟩ u1).heap[g]? = some (.cells #[u0, u1] t (0, 0)) → W.heap[g]? = some (.cells #[u0, u1] t (0, 0)) := by intro h_; (with_reducible repeat (first | refine qCX ?_ _ | refine qB7 ?_ | refine qBV ?_ _)); exact h_) (e : V.heap[g]? = some (.cells #[a0, a1] t (0, 0)) → w.heap[g]? = some (.cells #[a0, a1] t (0, 0)) := by intro h_; (with_reducible repeat (first | refine qCX ?_ _ | refine qB7 ?_ | refine qBV ?_ _)); exact h_) : W.heap[g]? = some (.cells #[u0, u1] t (0, 0)) := c (qC2 (qC2 (e h.out) 0 u0 rfl) 1 u1 rfl)
theorem zf2 {w W : World} {g b : Nat} {t : TypeId} {cs : Array Value} {u0 u1 : Value} (h : w.heap[g]? = some (.cells cs t (0, 0))) (hp : qA0 (g ≠ b)) (c : ((w.setCell ⟨b, 0, none⟩ u0).setCell ⟨b, 1, none⟩ u1).heap[g]? = some (.cells cs t (0, 0)) → W.heap[g]? = some (.cells cs t (0, 0)) := by intro h_; (with_reducible repeat (first | refine qCX ?_ _ | refine qB7 ?_ | refine qBV ?_ _)); exact h_) : W.heap[g]? = some (.cells cs t (0, 0)) := c (qCJ (qCJ h hp.out u0) hp.out u1)
theorem zp5 {w V W : World} {g : Nat} {t : TypeId} {a0 a1 a2 a3 a4 u0 u1 u2 u3 u4 : Value} (h : qA0 (V.heap[g]? = some (.cells #[a0, a1, a2, a3, a4] t (0, 0)))) (c : (((((w.setCell ⟨g, 0, none⟩ u0).setCell ⟨g, 1, none⟩ u1).setCell ⟨g, 2, none⟩ u2).setCell ⟨g, 3, none⟩ u3).setCell ⟨g, 4, none⟩ u4).heap[g]? = some (.cells #[u0, u1, u2, u3, u4] t (0, 0)) → W.heap[g]? = some (.cells #[u0, u1, u2, u3, u4] t (0, 0)) := by intro h_; (with_reducible repeat (first | refine qCX ?_ _ | refine qB7 ?_ | refine qBV ?_ _)); exact h_) (e : V.heap[g]? = some (.cells #[a0, a1, a2, a3, a4] t (0, 0)) → w.heap[g]? = some (.cells #[a0, a1, a2, a3, a4] t (0, 0)) := by intro h_; (with_reducible repeat (first | refine qCX ?_ _ | refine qB7 ?_ | refine qBV ?_ _)); exact h_) : W.heap[g]? = some (.cells #[u0, u1, u2, u3, u4] t (0, 0)) := c (qC2 (qC2 (qC2 (qC2 (qC2 (e h.out) 0 u0 rfl) 1 u1 rfl) 2 u2 rfl) 3 u3 rfl) 4 u4 rfl)
theorem zf5 {w W : World} {g b : Nat} {t : TypeId} {cs : Array Value} {u0 u1 u2 u3 u4 : Value} (h : w.heap[g]? = some (.cells cs t (0, 0))) (hp : qA0 (g ≠ b)) (c : (((((w.setCell ⟨b, 0, none⟩ u0).setCell ⟨b, 1, none⟩ u1).setCell ⟨b, 2, none⟩ u2).setCell ⟨b, 3, none⟩ u3).setCell ⟨b, 4, none⟩ u4).heap[g]? = some (.cells cs t (0, 0)) → W.heap[g]? = some (.cells cs t (0, 0)) := by intro h_; (with_reducible repeat (first | refine qCX ?_ _ | refine qB7 ?_ | refine qBV ?_ _)); exact h_) : W.heap[g]? = some (.cells cs t (0, 0)) := c (qCJ (qCJ (qCJ (qCJ (qCJ h hp.out u0) hp.out u1) hp.out u2) hp.out u3) hp.out u4)
theorem zRf5 {α : Type} {d : Kd α} {e : Nat} {w : World} {base g : Nat} {ok : Nat → Prop} {v : Value} {xs : List α} {u0 u1 u2 u3 u4 : Value} (h : d.R e w base (fun k => ok k ∧ k ≠ g) v xs) : d.R e (((((w.setCell ⟨g, 0, none⟩ u0).setCell ⟨g, 1, none⟩ u1).setCell ⟨g, 2, none⟩ u2).setCell ⟨g, 3, none⟩ u3).setCell ⟨g, 4, none⟩ u4) base ok v xs := Kd.qB3 (Kd.qAW (Kd.qAW (Kd.qAW (Kd.qAW (Kd.qAW h (fun _ hk => hk.2) u0) (fun _ hk => hk.2) u1) (fun _ hk => hk.2) u2) (fun _ hk => hk.2) u3) (fun _ hk => hk.2) u4) (fun _ h_ => h_.1)
theorem zSf5 {α : Type} {d : Kd α} {e : Nat} {w : World} {base g : Nat} {ok : Nat → Prop} {v : Value} {xs : List α} {u0 u1 u2 u3 u4 : Value} (h : d.S e w base (fun k => ok k ∧ k ≠ g) v xs) : d.S e (((((w.setCell ⟨g, 0, none⟩ u0).setCell ⟨g, 1, none⟩ u1).setCell ⟨g, 2, none⟩ u2).setCell ⟨g, 3, none⟩ u3).setCell ⟨g, 4, none⟩ u4) base ok v xs := Kd.qDX (Kd.qCA (Kd.qCA (Kd.qCA (Kd.qCA (Kd.qCA h (fun _ hk => hk.2) u0) (fun _ hk => hk.2) u1) (fun _ hk => hk.2) u2) (fun _ hk => hk.2) u3) (fun _ hk => hk.2) u4) (fun _ h_ => h_.1)
theorem zp6 {w V W : World} {g : Nat} {t : TypeId} {a0 a1 a2 a3 a4 a5 u0 u1 u2 u3 u4 u5 : Value} (h : qA0 (V.heap[g]? = some (.cells #[a0, a1, a2, a3, a4, a5] t (0, 0)))) (c : ((((((w.setCell ⟨g, 0, none⟩ u0).setCell ⟨g, 1, none⟩ u1).setCell ⟨g, 2, none⟩ u2).setCell ⟨g, 3, none⟩ u3).setCell ⟨g, 4, none⟩ u4).setCell ⟨g, 5, none⟩ u5).heap[g]? = some (.cells #[u0, u1, u2, u3, u4, u5] t (0, 0)) → W.heap[g]? = some (.cells #[u0, u1, u2, u3, u4, u5] t (0, 0)) := by intro h_; (with_reducible repeat (first | refine qCX ?_ _ | refine qB7 ?_ | refine qBV ?_ _)); exact h_) (e : V.heap[g]? = some (.cells #[a0, a1, a2, a3, a4, a5] t (0, 0)) → w.heap[g]? = some (.cells #[a0, a1, a2, a3, a4, a5] t (0, 0)) := by intro h_; (with_reducible repeat (first | refine qCX ?_ _ | refine qB7 ?_ | refine qBV ?_ _)); exact h_) : W.heap[g]? = some (.cells #[u0, u1, u2, u3, u4, u5] t (0, 0)) := c (qC2 (qC2 (qC2 (qC2 (qC2 (qC2 (e h.out) 0 u0 rfl) 1 u1 rfl) 2 u2 rfl) 3 u3 rfl) 4 u4 rfl) 5 u5 rfl)
theorem zf6 {w W : World} {g b : Nat} {t : TypeId} {cs : Array Value} {u0 u1 u2 u3 u4 u5 : Value} (h : w.heap[g]? = some (.cells cs t (0, 0))) (hp : qA0 (g ≠ b)) (c : ((((((w.setCell ⟨b, 0, none⟩ u0).setCell ⟨b, 1, none⟩ u1).setCell ⟨b, 2, none⟩ u2).setCell ⟨b, 3, none⟩ u3).setCell ⟨b, 4, none⟩ u4).setCell ⟨b, 5, none⟩ u5).heap[g]? = some (.cells cs t (0, 0)) → W.heap[g]? = some (.cells cs t (0, 0)) := by intro h_; (with_reducible repeat (first | refine qCX ?_ _ | refine qB7 ?_ | refine qBV ?_ _)); exact h_) : W.heap[g]? = some (.cells cs t (0, 0)) := c (qCJ (qCJ (qCJ (qCJ (qCJ (qCJ h hp.out u0) hp.out u1) hp.out u2) hp.out u3) hp.out u4) hp.out u5)
theorem zp7 {w V W : World} {g : Nat} {t : TypeId} {a0 a1 a2 a3 a4 a5 a6 u0 u1 u2 u3 u4 u5 u6 : Value} (h : qA0 (V.heap[g]? = some (.cells #[a0, a1, a2, a3, a4, a5, a6] t (0, 0)))) (c : (((((((w.setCell ⟨g, 0, none⟩ u0).setCell ⟨g, 1, none⟩ u1).setCell ⟨g, 2, none⟩ u2).setCell ⟨g, 3, none⟩ u3).setCell ⟨g, 4, none⟩ u4).setCell ⟨g, 5, none⟩ u5).setCell ⟨g, 6, none⟩ u6).heap[g]? = some (.cells #[u0, u1, u2, u3, u4, u5, u6] t (0, 0)) → W.heap[g]? = some (.cells #[u0, u1, u2, u3, u4, u5, u6] t (0, 0)) := by intro h_; (with_reducible repeat (first | refine qCX ?_ _ | refine qB7 ?_ | refine qBV ?_ _)); exact h_) (e : V.heap[g]? = some (.cells #[a0, a1, a2, a3, a4, a5, a6] t (0, 0)) → w.heap[g]? = some (.cells #[a0, a1, a2, a3, a4, a5, a6] t (0, 0)) := by intro h_; (with_reducible repeat (first | refine qCX ?_ _ | refine qB7 ?_ | refine qBV ?_ _)); exact h_) : W.heap[g]? = some (.cells #[u0, u1, u2, u3, u4, u5, u6] t (0, 0)) := c (qC2 (qC2 (qC2 (qC2 (qC2 (qC2 (qC2 (e h.out) 0 u0 rfl) 1 u1 rfl) 2 u2 rfl) 3 u3 rfl) 4 u4 rfl) 5 u5 rfl) 6 u6 rfl)
theorem zf7 {w W : World} {g b : Nat} {t : TypeId} {cs : Array Value} {u0 u1 u2 u3 u4 u5 u6 : Value} (h : w.heap[g]? = some (.cells cs t (0, 0))) (hp : qA0 (g ≠ b)) (c : (((((((w.setCell ⟨b, 0, none⟩ u0).setCell ⟨b, 1, none⟩ u1).setCell ⟨b, 2, none⟩ u2).setCell ⟨b, 3, none⟩ u3).setCell ⟨b, 4, none⟩ u4).setCell ⟨b, 5, none⟩ u5).setCell ⟨b, 6, none⟩ u6).heap[g]? = some (.cells cs t (0, 0)) → W.heap[g]? = some (.cells cs t (0, 0)) := by intro h_; (with_reducible repeat (first | refine qCX ?_ _ | refine qB7 ?_ | refine qBV ?_ _)); exact h_) : W.heap[g]? = some (.cells cs t (0, 0)) := c (qCJ (qCJ (qCJ (qCJ (qCJ (qCJ (qCJ h hp.out u0) hp.out u1) hp.out u2) hp.out u3) hp.out u4) hp.out u5) hp.out u6)
section
variable {P : Program} {ops : Array Oper} {Q : Exit → Act → World → Prop}
theorem boxZ {rest : List Oper} {o : Oper} {a : Act} {w : World} (N : Tmp) (cs : Array Value) (t : TypeId) (h : ∀ g, g = w.heap.size → ∀ w1, w1.heap[g]? = some (.cells cs t (0, 0)) → Below w.heap.size w w1 → wpList P ops Q rest (a.put o.dst (.pointer (some ⟨g, 0, none⟩))) w1) (hd : o.dst = some N := by exact rfl) (hgd : o.guard = none := by exact rfl) (hrun : (execOp a.eval o).run P w = .ok (.value (.pointer (some ⟨w.heap.size, 0, none⟩))) (w.alloc (.cells cs t (0, 0))) := by first | (go_simp; done) | (go_simp; rfl)) : wpList P ops Q (o :: rest) a w := qDQ hgd hd hrun h
end
end Go.Proofs.YtfnejdbjekkadaaGreatW.PrintWords
end
section
namespace Go.Proofs.YtfnejdbjekkadaaGreatW.PrintWords
open Go.RowKit Go.Proofs.YtfnejdbjekkadaaGreatW.PrintLast
theorem y1 {c : Prop} [Decidable c] {α : Type} {a : Option α} {r : α} (h : (if c then a else none) = some r) : c ∧ decide c = true ∧ a = some r := by
 by_cases hc : c
 ·rw [if_pos hc] at h; exact ⟨hc, decide_eq_true hc, h⟩
 ·rw [if_neg hc] at h; cases h
theorem y3 {c : Prop} [Decidable c] {α : Type} {a b : Option α} {r : α} (h : (if c then a else b) = some r) : (c ∧ decide c = true ∧ a = some r) ∨ (¬ c ∧ decide c = false ∧ b = some r) := by
 by_cases hc : c
 ·rw [if_pos hc] at h; exact .inl ⟨hc, decide_eq_true hc, h⟩
 ·rw [if_neg hc] at h; exact .inr ⟨hc, decide_eq_false hc, h⟩
theorem y2 {β : Type} [BEq β] [LawfulBEq β] {x y : β} [Decidable (x = y)] {α : Type} {a : Option α} {r : α} (h : (if x = y then a else none) = some r) : x = y ∧ (x == y) = true ∧ (x != y) = false ∧ a = some r :=
 have ⟨h1, _, h2⟩ := y1 h
 ⟨h1, (ze h1).1, (ze h1).2, h2⟩
theorem y4 {β : Type} [BEq β] [LawfulBEq β] {x y : β} [Decidable (x = y)] {α : Type} {a b : Option α} {r : α} (h : (if x = y then a else b) = some r) : (x = y ∧ (x == y) = true ∧ (x != y) = false ∧ a = some r) ∨ (¬ x = y ∧ (x == y) = false ∧ (x != y) = true ∧ b = some r) :=
 (y3 h).imp (fun ⟨h1, _, h2⟩ => ⟨h1, (ze h1).1, (ze h1).2, h2⟩) (fun ⟨h1, _, h2⟩ => ⟨h1, (zn h1).1, (zn h1).2, h2⟩)
theorem yp {i n : Int} {R : Prop} (f : 0 ≤ i → i < n → R) (p : 0 ≤ i := by exact zd) (q : i < n := by exact zd) : (0 ≤ i) = True ∧ (i < n) = True ∧ R := ⟨eq_true p, eq_true q, f p q⟩
section
variable {P : Program} {ops : Array Oper} {Q : Exit → Act → World → Prop}
theorem boxY {rest : List Oper} {o : Oper} {a : Act} {w : World} (N : Tmp) (cs : Array Value) (t : TypeId) (h : ∀ g, g = w.heap.size → ∀ w1, qA0 (w1.heap[g]? = some (.cells cs t (0, 0))) → Below w.heap.size w w1 → wpList P ops Q rest (a.put o.dst (.pointer (some ⟨g, 0, none⟩))) w1) (hd : o.dst = some N := by exact rfl) (hgd : o.guard = none := by exact rfl) (hrun : (execOp a.eval o).run P w = .ok (.value (.pointer (some ⟨w.heap.size, 0, none⟩))) (w.alloc (.cells cs t (0, 0))) := by first | (go_simp; done) | (go_simp; rfl)) : wpList P ops Q (o :: rest) a w := qDQ hgd hd hrun fun g hg w1 hb => h g hg w1 ⟨hb⟩
end
end Go.Proofs.YtfnejdbjekkadaaGreatW.PrintWords
end
section
namespace Go.Proofs.YtfnejdbjekkadaaGreat.Gen
open Go.RowKit Go.Proofs.YtfnejdbjekkadaaGreatW.PrintWords
noncomputable def lim {α : Type} (F : Nat → Option α) : Option α := open Classical in if h : ∃ r, ∃ k, F k = some r then some h.choose else none
theorem lim_some {α : Type} {F : Nat → Option α} {r : α} (h : lim F = some r) : ∃ k, F k = some r := by
 unfold lim at h
 split at h
 ·rename_i g
  obtain rfl := zy h
  exact g.choose_spec
 ·cases h
theorem mono_le {α : Type} {F : Nat → Option α} (hm : ∀ k, LeO (F k) (F (k + 1))) {r : α} {k : Nat} (h : F k = some r) : ∀ d, F (k + d) = some r
 | 0 => h
 | d + 1 => hm (k + d) r (mono_le hm h d)
theorem lim_eq {α : Type} {F : Nat → Option α} (hm : ∀ k, LeO (F k) (F (k + 1))) {r : α} {k : Nat} (h : F k = some r) : lim F = some r := by
 have g : ∃ r, ∃ k, F k = some r := ⟨r, k, h⟩
 unfold lim
 rw [dif_pos g]
 obtain ⟨k', h'⟩ := g.choose_spec
 have h1 := mono_le hm h k'
 have h2 := mono_le hm h' k
 rw [Nat.add_comm] at h2
 rw [h1] at h2
 exact h2.symm
theorem flat_len {α β : Type} (f : α → List β) (s : Nat) (hs : ∀ x, (f x).length = s) : ∀ l : List α, (l.flatMap f).length = l.length * s
 | [] => by simp
 | x :: r => by rw [List.flatMap_cons, List.length_append, hs, flat_len f s hs r, List.length_cons, Nat.add_mul, Nat.one_mul, Nat.add_comm]
theorem flat_drop {α β : Type} (f : α → List β) (s : Nat) (hs : ∀ x, (f x).length = s) : ∀ (l : List α) (j : Nat), (l.flatMap f).drop (j * s) = (l.drop j).flatMap f
 | l, 0 => by simp
 | [], j + 1 => by simp
 | x :: r, j + 1 => by
  have e : (j + 1) * s = (f x).length + j * s := by rw [hs, Nat.add_mul, Nat.one_mul, Nat.add_comm]
  rw [List.drop_succ_cons, ← flat_drop f s hs r j, e, List.flatMap_cons, List.drop_append, List.drop_of_length_le (by omega), List.nil_append, Nat.add_sub_cancel_left]
theorem flat_take {α β : Type} (f : α → List β) (s : Nat) (hs : ∀ x, (f x).length = s) {l : List α} {j : Nat} {p : α} (h : l[j]? = some p) : ((l.flatMap f).drop (j * s)).take s = f p := by
 rw [flat_drop f s hs]
 have hj : j < l.length := by
  rcases Nat.lt_or_ge j l.length with h' | h'
  ·exact h'
  ·rw [List.getElem?_eq_none h'] at h; cases h
 rw [List.drop_eq_getElem_cons hj, List.flatMap_cons, List.take_append_of_le_length (by rw [hs]; exact Nat.le_refl _), List.take_of_length_le (by rw [hs]; exact Nat.le_refl _)]
 rw [List.getElem?_eq_getElem hj] at h
 rw [zy h]
theorem flat_reps {α : Type} (R : α → List Value → Prop) (f : α → List Value) (s : Nat) (hs : ∀ x, (f x).length = s) (l : List α) (hR : ∀ p, R p (f p)) : Reps R s l (l.flatMap f) :=
 ⟨flat_len f s hs l, fun j p hj => by rw [flat_take f s hs hj]; exact hR p⟩
theorem flat_get {α β : Type} (f : α → List β) (s : Nat) (h0 : 0 < s) (hs : ∀ x, (f x).length = s) {l : List α} {q : Nat} {u : β} (h : (l.flatMap f)[q]? = some u) : ∃ p, l[q / s]? = some p ∧ (f p)[q % s]? = some u := by
 have hq : q < (l.flatMap f).length := by
  rcases Nat.lt_or_ge q (l.flatMap f).length with h' | h'
  ·exact h'
  ·rw [List.getElem?_eq_none h'] at h; cases h
 rw [flat_len f s hs] at hq
 have hj : q / s < l.length := by rw [Nat.div_lt_iff_lt_mul h0]; exact hq
 refine ⟨_, List.getElem?_eq_getElem hj, ?_⟩
 rw [← flat_take f s hs (List.getElem?_eq_getElem hj), List.getElem?_take_of_lt (Nat.mod_lt _ h0), List.getElem?_drop, Nat.mul_comm, Nat.div_add_mod]
 exact h
theorem flat_cells {α : Type} {R : α → List Value → Prop} {w : World} {ad : Addr} {n : Nat} {l : List α} (f : α → List Value) (s : Nat) (h0 : 0 < s) (hs : ∀ x, (f x).length = s) (hf : ∀ p c, R p c → c = f p) (h : qDE R s w (some ad) n l) : ∀ q u, (l.flatMap f)[q]? = some u → w.cell? (ad.add q) = some u := fun q u hu => by
 obtain ⟨p, hp, hu'⟩ := flat_get f s h0 hs hu
 have hn : 0 < n := by
  rw [← h.1]
  rcases Nat.lt_or_ge (q / s) l.length with h' | h'
  ·exact Nat.lt_of_le_of_lt (Nat.zero_le _) h'
  ·rw [List.getElem?_eq_none h'] at hp; cases hp
 obtain ⟨ad', e, hc⟩ := h.2.2 hn
 obtain rfl := zy e
 obtain ⟨c, _, hR, hcell⟩ := hc _ _ hp
 rw [hf _ _ hR] at hcell
 have := hcell _ _ hu'
 rwa [Nat.mul_comm, Nat.div_add_mod] at this
instance decBA : DecidableEq ByteArray := fun a b => if h : a.data = b.data then isTrue (by cases a; cases b; simp at h; rw [h]) else isFalse (fun e => h (by rw [e]))
instance decMemBA (s : ByteArray) (L : List ByteArray) : Decidable (s ∈ L) := @List.instDecidableMemOfLawfulBEq ByteArray instBEqOfDecidableEq _ s L
theorem qAT {w : World} {g : Nat} {o : Obj} (h : w.heap[g]? = some o) : g < w.heap.size := by
 rcases Nat.lt_or_ge g w.heap.size with h' | h'
 ·exact h'
 ·rw [Array.getElem?_eq_none h'] at h; cases h
theorem qEC {i n : Nat} (h : i < n) (hn : n ≤ 9223372036854775807) : IntKind.i64.wrap ((i : Int) + 1) = ((i + 1 : Nat) : Int) := by rw [IntKind.wrap_i64]; omega
end Go.Proofs.YtfnejdbjekkadaaGreat.Gen
end
section
namespace Go.Proofs.YtfnejdbjekkadaaGreat.PRatePuts
noncomputable section
open Go.RowKit Go.Proofs.YtfnejdbjekkadaaGreatW.PrintWords Go.Proofs.YtfnejdbjekkadaaGreatW.PrintLast Go.Proofs.YtfnejdbjekkadaaGreatW.PrintMore
set_option maxHeartbeats 8000000
set_option maxRecDepth 100000
def errW : Option Int → Value
 | none => .nilIface
 | some c => .iface 0 (.int .i64 c)
theorem qD9 : errW none = .nilIface := rfl
theorem qD8 (c : Int) : errW (some c) = .iface 0 (.int .i64 c) := rfl
theorem info3 : (Tryz.prog.info? 3).map (fun i => (i.zero, i.size, i.bytes)) = some (some (.int .i64 0), 1, 8) := by kernel_rfl
theorem info9 : (Tryz.prog.info? 9).map (fun i => (i.zero, i.size, i.bytes)) = some (some (.string ⟨#[]⟩), 1, 16) := by kernel_rfl
theorem info25 : (Tryz.prog.info? 25).map (fun i => (i.zero, i.size, i.bytes)) = some (some (.agg #[(.string ⟨#[]⟩), (.string ⟨#[]⟩), (.int .i64 0), (.int .i64 0)]), 4, 48) := by kernel_rfl
theorem info59 : (Tryz.prog.info? 59).map (fun i => (i.zero, i.size, i.bytes)) = some (some (.agg #[(.string ⟨#[]⟩), (.string ⟨#[]⟩)]), 2, 32) := by kernel_rfl
theorem info73 : (Tryz.prog.info? 73).map (fun i => (i.zero, i.size, i.bytes)) = some (some (.agg #[(.string ⟨#[]⟩), (.int .i64 0), (.int .i64 0), (.bool false), (.slice none 0 0)]), 5, 64) := by kernel_rfl
theorem info79 : (Tryz.prog.info? 79).map (fun i => (i.zero, i.size, i.bytes)) = some (some (.agg #[(.int .i64 0), (.slice none 0 0), (.int .i64 0), (.int .i64 0), (.string ⟨#[]⟩)]), 5, 64) := by kernel_rfl
structure S69 where
 f0 : Int
 f1 : Int
def z69 : S69 := ⟨(0 : Int), (0 : Int)⟩
def k69 : Kd S69 := Kd.iso (Kd.pair (Kd.int .i64) (Kd.int .i64)) (fun x : S69 => (x.f0, x.f1))
theorem k69_open {w : World} {x : S69} {cs : List Value} (h : k69.K w x cs) : cs = [.int .i64 x.f0, .int .i64 x.f1] := by
 obtain ⟨_, _, rfl, rfl, rfl⟩ := h
 exact rfl
theorem k69_mkM (w : World) (base : Nat) (ok : Nat → Prop) (x : S69)  : k69.M w base ok x [.int .i64 x.f0, .int .i64 x.f1] := ⟨[.int .i64 x.f0], [.int .i64 x.f1], rfl, rfl, rfl⟩
structure S98 where
 f0 : ByteArray
 f1 : Int
 f2 : Bool
 f3 : Int
 f4 : Int
 f5 : S69
def z98 : S98 := ⟨(⟨#[]⟩ : ByteArray), (0 : Int), false, (0 : Int), (0 : Int), z69⟩
def k98 : Kd S98 := Kd.iso (Kd.pair Kd.string (Kd.pair (Kd.int .i64) (Kd.pair Kd.bool (Kd.pair (Kd.int .i64) (Kd.pair (Kd.int .i64) k69))))) (fun x : S98 => (x.f0, x.f1, x.f2, x.f3, x.f4, x.f5))
theorem k98_open {w : World} {x : S98} {cs : List Value} (h : k98.K w x cs) : cs = [.string x.f0, .int .i64 x.f1, .bool x.f2, .int .i64 x.f3, .int .i64 x.f4, .int .i64 x.f5.f0, .int .i64 x.f5.f1] := by
 obtain ⟨_, _, rfl, rfl, ⟨_, _, rfl, rfl, ⟨_, _, rfl, rfl, ⟨_, _, rfl, rfl, ⟨_, _, rfl, rfl, s5⟩⟩⟩⟩⟩ := h
 obtain rfl := k69_open s5
 exact rfl
theorem k98_mkM (w : World) (base : Nat) (ok : Nat → Prop) (x : S98)  : k98.M w base ok x [.string x.f0, .int .i64 x.f1, .bool x.f2, .int .i64 x.f3, .int .i64 x.f4, .int .i64 x.f5.f0, .int .i64 x.f5.f1] := ⟨[.string x.f0], [.int .i64 x.f1, .bool x.f2, .int .i64 x.f3, .int .i64 x.f4, .int .i64 x.f5.f0, .int .i64 x.f5.f1], rfl, rfl, ⟨[.int .i64 x.f1], [.bool x.f2, .int .i64 x.f3, .int .i64 x.f4, .int .i64 x.f5.f0, .int .i64 x.f5.f1], rfl, rfl, ⟨[.bool x.f2], [.int .i64 x.f3, .int .i64 x.f4, .int .i64 x.f5.f0, .int .i64 x.f5.f1], rfl, rfl, ⟨[.int .i64 x.f3], [.int .i64 x.f4, .int .i64 x.f5.f0, .int .i64 x.f5.f1], rfl, rfl, ⟨[.int .i64 x.f4], [.int .i64 x.f5.f0, .int .i64 x.f5.f1], rfl, rfl, (k69_mkM w base ok x.f5 )⟩⟩⟩⟩⟩
def qC4 (xs : List S98) (i : Int) : S98 := xs.getD i.toNat z98
theorem at_T98 {w : World} {A : Option Addr} {n : Nat} {xs : List S98} (h : Kd.C k98 w A n xs) (i : Int) (h0 : 0 ≤ i) (h1 : i < n) : ∃ ad , A = some ad ∧ w.cell? (ad.add (i.toNat * 7)) = some (.string (qC4 xs i).f0) ∧ w.cell? ⟨(ad.add (i.toNat * 7)).block, (ad.add (i.toNat * 7)).off + 1, none⟩ = some (.int .i64 (qC4 xs i).f1) ∧ w.cell? ⟨(ad.add (i.toNat * 7)).block, (ad.add (i.toNat * 7)).off + 2, none⟩ = some (.bool (qC4 xs i).f2) ∧ w.cell? ⟨(ad.add (i.toNat * 7)).block, (ad.add (i.toNat * 7)).off + 3, none⟩ = some (.int .i64 (qC4 xs i).f3) ∧ w.cell? ⟨(ad.add (i.toNat * 7)).block, (ad.add (i.toNat * 7)).off + 4, none⟩ = some (.int .i64 (qC4 xs i).f4) ∧ w.cell? ⟨(ad.add (i.toNat * 7)).block, (ad.add (i.toNat * 7)).off + 5, none⟩ = some (.int .i64 (qC4 xs i).f5.f0) ∧ w.cell? ⟨(ad.add (i.toNat * 7)).block, (ad.add (i.toNat * 7)).off + 6, none⟩ = some (.int .i64 (qC4 xs i).f5.f1) := by
 obtain ⟨ad, c, e, _, hK, hc0⟩ := Kd.C_get h z98 i h0 h1
 have hc : ∀ j u, c[j]? = some u → w.cell? (ad.add (i.toNat * 7 + j)) = some u := hc0
 obtain rfl := k98_open hK
 exact ⟨ad, e, hc 0 _ rfl, by rw [← qBQ _ _ 1 (by omega)]; exact hc 1 _ rfl, by rw [← qBQ _ _ 2 (by omega)]; exact hc 2 _ rfl, by rw [← qBQ _ _ 3 (by omega)]; exact hc 3 _ rfl, by rw [← qBQ _ _ 4 (by omega)]; exact hc 4 _ rfl, by rw [← qBQ _ _ 5 (by omega)]; exact hc 5 _ rfl, by rw [← qBQ _ _ 6 (by omega)]; exact hc 6 _ rfl⟩
structure S75 where
 f0 : Int
 f1 : Int
def z75 : S75 := ⟨(0 : Int), (0 : Int)⟩
def k75 : Kd S75 := Kd.iso (Kd.pair (Kd.int .i64) (Kd.int .i64)) (fun x : S75 => (x.f0, x.f1))
theorem k75_open {w : World} {x : S75} {cs : List Value} (h : k75.K w x cs) : cs = [.int .i64 x.f0, .int .i64 x.f1] := by
 obtain ⟨_, _, rfl, rfl, rfl⟩ := h
 exact rfl
theorem k75_openM {w : World} {base : Nat} {ok : Nat → Prop} {x : S75} {cs : List Value} (h : k75.M w base ok x cs) : cs = [.int .i64 x.f0, .int .i64 x.f1] := by
 obtain ⟨_, _, rfl, rfl, rfl⟩ := h
 exact rfl
theorem k75_mk (w : World) (x : S75)  : k75.K w x [.int .i64 x.f0, .int .i64 x.f1] := ⟨[.int .i64 x.f0], [.int .i64 x.f1], rfl, rfl, rfl⟩
theorem k75_mkM (w : World) (base : Nat) (ok : Nat → Prop) (x : S75)  : k75.M w base ok x [.int .i64 x.f0, .int .i64 x.f1] := ⟨[.int .i64 x.f0], [.int .i64 x.f1], rfl, rfl, rfl⟩
def qD0 (xs : List S75) (i : Int) : S75 := xs.getD i.toNat z75
theorem at_T75 {w : World} {A : Option Addr} {n : Nat} {xs : List S75} (h : Kd.C k75 w A n xs) (i : Int) (h0 : 0 ≤ i) (h1 : i < n) : ∃ ad , A = some ad ∧ w.cell? (ad.add (i.toNat * 2)) = some (.int .i64 (qD0 xs i).f0) ∧ w.cell? ⟨(ad.add (i.toNat * 2)).block, (ad.add (i.toNat * 2)).off + 1, none⟩ = some (.int .i64 (qD0 xs i).f1) := by
 obtain ⟨ad, c, e, _, hK, hc0⟩ := Kd.C_get h z75 i h0 h1
 have hc : ∀ j u, c[j]? = some u → w.cell? (ad.add (i.toNat * 2 + j)) = some u := hc0
 obtain rfl := k75_open hK
 exact ⟨ad, e, hc 0 _ rfl, by rw [← qBQ _ _ 1 (by omega)]; exact hc 1 _ rfl⟩
structure S73 where
 f0 : ByteArray
 f1 : Int
 f2 : Int
 f3 : Bool
 f4 : (List S75)
def z73 : S73 := ⟨(⟨#[]⟩ : ByteArray), (0 : Int), (0 : Int), false, ([] : List S75)⟩
def k73 : Kd S73 := Kd.iso (Kd.pair Kd.string (Kd.pair (Kd.int .i64) (Kd.pair (Kd.int .i64) (Kd.pair Kd.bool (Kd.slice 75 k75))))) (fun x : S73 => (x.f0, x.f1, x.f2, x.f3, x.f4))
theorem k73_open {w : World} {x : S73} {cs : List Value} (h : k73.K w x cs) : ∃ A4 c4, cs = [.string x.f0, .int .i64 x.f1, .int .i64 x.f2, .bool x.f3, .slice A4 x.f4.length c4] ∧ x.f4.length ≤ c4 ∧ k75.C w A4 x.f4.length x.f4 := by
 obtain ⟨_, _, rfl, rfl, ⟨_, _, rfl, rfl, ⟨_, _, rfl, rfl, ⟨_, _, rfl, rfl, ⟨A4, c4, rfl, l4, g4⟩⟩⟩⟩⟩ := h
 exact ⟨A4, c4, rfl, l4, g4⟩
theorem k73_openM {w : World} {base : Nat} {ok : Nat → Prop} {x : S73} {cs : List Value} (h : k73.M w base ok x cs) : ∃ v4, cs = [.string x.f0, .int .i64 x.f1, .int .i64 x.f2, .bool x.f3, v4] ∧ k75.R 75 w base ok v4 x.f4 := by
 obtain ⟨_, _, rfl, rfl, ⟨_, _, rfl, rfl, ⟨_, _, rfl, rfl, ⟨_, _, rfl, rfl, ⟨v4, rfl, g4⟩⟩⟩⟩⟩ := h
 exact ⟨v4, rfl, g4⟩
theorem k73_mk (w : World) (x : S73) {A4 : Option Addr} {c4 : Nat} (l4 : x.f4.length ≤ c4) (g4 : k75.C w A4 x.f4.length x.f4) : k73.K w x [.string x.f0, .int .i64 x.f1, .int .i64 x.f2, .bool x.f3, .slice A4 x.f4.length c4] := ⟨[.string x.f0], [.int .i64 x.f1, .int .i64 x.f2, .bool x.f3, .slice A4 x.f4.length c4], rfl, rfl, ⟨[.int .i64 x.f1], [.int .i64 x.f2, .bool x.f3, .slice A4 x.f4.length c4], rfl, rfl, ⟨[.int .i64 x.f2], [.bool x.f3, .slice A4 x.f4.length c4], rfl, rfl, ⟨[.bool x.f3], [.slice A4 x.f4.length c4], rfl, rfl, ⟨A4, c4, rfl, l4, g4⟩⟩⟩⟩⟩
theorem k73_mkM (w : World) (base : Nat) (ok : Nat → Prop) (x : S73) {v4 : Value} (g4 : k75.R 75 w base ok v4 x.f4) : k73.M w base ok x [.string x.f0, .int .i64 x.f1, .int .i64 x.f2, .bool x.f3, v4] := ⟨[.string x.f0], [.int .i64 x.f1, .int .i64 x.f2, .bool x.f3, v4], rfl, rfl, ⟨[.int .i64 x.f1], [.int .i64 x.f2, .bool x.f3, v4], rfl, rfl, ⟨[.int .i64 x.f2], [.bool x.f3, v4], rfl, rfl, ⟨[.bool x.f3], [v4], rfl, rfl, ⟨v4, rfl, g4⟩⟩⟩⟩⟩
theorem k73_openF {W : World} {ok : Nat → Prop} {x : S73} {cs : List Value} (h : Kd.FK k73 W ok x cs) : ∃ A4 c4, cs = [.string x.f0, .int .i64 x.f1, .int .i64 x.f2, .bool x.f3, .slice A4 x.f4.length c4] ∧ x.f4.length ≤ c4 ∧ Kd.F k75 W ok A4 x.f4.length x.f4 := by
 obtain ⟨A4, c4, rfl, l4, _⟩ := k73_open (Kd.FK_now h)
 exact ⟨A4, c4, rfl, l4, (fun W' hW => by obtain ⟨A4_, c4_, he, l4_, g4_⟩ := k73_open (h W' hW); injection (zy (show some (Value.slice A4 x.f4.length c4) = some (Value.slice A4_ x.f4.length c4_) from congrArg (fun l => l[4]?) he)) with ha_ _ _; rw [ha_]; exact g4_)⟩
def qAK (xs : List S73) (i : Int) : S73 := xs.getD i.toNat z73
theorem at_T73 {w : World} {A : Option Addr} {n : Nat} {xs : List S73} (h : Kd.C k73 w A n xs) (i : Int) (h0 : 0 ≤ i) (h1 : i < n) : ∃ ad A4 c4, A = some ad ∧ w.cell? (ad.add (i.toNat * 5)) = some (.string (qAK xs i).f0) ∧ w.cell? ⟨(ad.add (i.toNat * 5)).block, (ad.add (i.toNat * 5)).off + 1, none⟩ = some (.int .i64 (qAK xs i).f1) ∧ w.cell? ⟨(ad.add (i.toNat * 5)).block, (ad.add (i.toNat * 5)).off + 2, none⟩ = some (.int .i64 (qAK xs i).f2) ∧ w.cell? ⟨(ad.add (i.toNat * 5)).block, (ad.add (i.toNat * 5)).off + 3, none⟩ = some (.bool (qAK xs i).f3) ∧ w.cell? ⟨(ad.add (i.toNat * 5)).block, (ad.add (i.toNat * 5)).off + 4, none⟩ = some (.slice A4 (qAK xs i).f4.length c4) ∧ (qAK xs i).f4.length ≤ c4 ∧ k75.C w A4 (qAK xs i).f4.length (qAK xs i).f4 := by
 obtain ⟨ad, c, e, _, hK, hc0⟩ := Kd.C_get h z73 i h0 h1
 have hc : ∀ j u, c[j]? = some u → w.cell? (ad.add (i.toNat * 5 + j)) = some u := hc0
 obtain ⟨A4, c4, rfl, l4, g4⟩ := k73_open hK
 exact ⟨ad, A4, c4, e, hc 0 _ rfl, by rw [← qBQ _ _ 1 (by omega)]; exact hc 1 _ rfl, by rw [← qBQ _ _ 2 (by omega)]; exact hc 2 _ rfl, by rw [← qBQ _ _ 3 (by omega)]; exact hc 3 _ rfl, by rw [← qBQ _ _ 4 (by omega)]; exact hc 4 _ rfl, l4, g4⟩
structure S79 where
 f0 : Int
 f1 : (List Int)
 f2 : Int
 f3 : Int
 f4 : ByteArray
def z79 : S79 := ⟨(0 : Int), ([] : List Int), (0 : Int), (0 : Int), (⟨#[]⟩ : ByteArray)⟩
def k79 : Kd S79 := Kd.iso (Kd.pair (Kd.int .i64) (Kd.pair (Kd.slice 3 (Kd.int .i64)) (Kd.pair (Kd.int .i64) (Kd.pair (Kd.int .i64) Kd.string)))) (fun x : S79 => (x.f0, x.f1, x.f2, x.f3, x.f4))
theorem k79_heap : Kd.Heap k79 := Kd.heap_iso _ (Kd.heap_pair (Kd.heap_int .i64) (Kd.heap_pair (Kd.heap_slice 3 (Kd.heap_int .i64)) (Kd.heap_pair (Kd.heap_int .i64) (Kd.heap_pair (Kd.heap_int .i64) Kd.heap_string))))
theorem k79_open {w : World} {x : S79} {cs : List Value} (h : k79.K w x cs) : ∃ A1 c1, cs = [.int .i64 x.f0, .slice A1 x.f1.length c1, .int .i64 x.f2, .int .i64 x.f3, .string x.f4] ∧ x.f1.length ≤ c1 ∧ (Kd.int .i64).C w A1 x.f1.length x.f1 := by
 obtain ⟨_, _, rfl, rfl, ⟨_, _, rfl, ⟨A1, c1, rfl, l1, g1⟩, ⟨_, _, rfl, rfl, ⟨_, _, rfl, rfl, rfl⟩⟩⟩⟩ := h
 exact ⟨A1, c1, rfl, l1, g1⟩
theorem k79_openM {w : World} {base : Nat} {ok : Nat → Prop} {x : S79} {cs : List Value} (h : k79.M w base ok x cs) : ∃ v1, cs = [.int .i64 x.f0, v1, .int .i64 x.f2, .int .i64 x.f3, .string x.f4] ∧ (Kd.int .i64).R 3 w base ok v1 x.f1 := by
 obtain ⟨_, _, rfl, rfl, ⟨_, _, rfl, ⟨v1, rfl, g1⟩, ⟨_, _, rfl, rfl, ⟨_, _, rfl, rfl, rfl⟩⟩⟩⟩ := h
 exact ⟨v1, rfl, g1⟩
theorem k79_mk (w : World) (x : S79) {A1 : Option Addr} {c1 : Nat} (l1 : x.f1.length ≤ c1) (g1 : (Kd.int .i64).C w A1 x.f1.length x.f1) : k79.K w x [.int .i64 x.f0, .slice A1 x.f1.length c1, .int .i64 x.f2, .int .i64 x.f3, .string x.f4] := ⟨[.int .i64 x.f0], [.slice A1 x.f1.length c1, .int .i64 x.f2, .int .i64 x.f3, .string x.f4], rfl, rfl, ⟨[.slice A1 x.f1.length c1], [.int .i64 x.f2, .int .i64 x.f3, .string x.f4], rfl, ⟨A1, c1, rfl, l1, g1⟩, ⟨[.int .i64 x.f2], [.int .i64 x.f3, .string x.f4], rfl, rfl, ⟨[.int .i64 x.f3], [.string x.f4], rfl, rfl, rfl⟩⟩⟩⟩
theorem k79_mkM (w : World) (base : Nat) (ok : Nat → Prop) (x : S79) {v1 : Value} (g1 : (Kd.int .i64).R 3 w base ok v1 x.f1) : k79.M w base ok x [.int .i64 x.f0, v1, .int .i64 x.f2, .int .i64 x.f3, .string x.f4] := ⟨[.int .i64 x.f0], [v1, .int .i64 x.f2, .int .i64 x.f3, .string x.f4], rfl, rfl, ⟨[v1], [.int .i64 x.f2, .int .i64 x.f3, .string x.f4], rfl, ⟨v1, rfl, g1⟩, ⟨[.int .i64 x.f2], [.int .i64 x.f3, .string x.f4], rfl, rfl, ⟨[.int .i64 x.f3], [.string x.f4], rfl, rfl, rfl⟩⟩⟩⟩
theorem k79_mkF (W : World) (ok : Nat → Prop) (x : S79) {A1 : Option Addr} {c1 : Nat} (l1 : x.f1.length ≤ c1) (g1 : Kd.F (Kd.int .i64) W ok A1 x.f1.length x.f1) : Kd.FK k79 W ok x [.int .i64 x.f0, .slice A1 x.f1.length c1, .int .i64 x.f2, .int .i64 x.f3, .string x.f4] := fun W2 hW => k79_mk W2 x l1 (g1 W2 hW)
def qA3 (xs : List S79) (i : Int) : S79 := xs.getD i.toNat z79
theorem at_T79 {w : World} {A : Option Addr} {n : Nat} {xs : List S79} (h : Kd.C k79 w A n xs) (i : Int) (h0 : 0 ≤ i) (h1 : i < n) : ∃ ad A1 c1, A = some ad ∧ w.cell? (ad.add (i.toNat * 5)) = some (.int .i64 (qA3 xs i).f0) ∧ w.cell? ⟨(ad.add (i.toNat * 5)).block, (ad.add (i.toNat * 5)).off + 1, none⟩ = some (.slice A1 (qA3 xs i).f1.length c1) ∧ w.cell? ⟨(ad.add (i.toNat * 5)).block, (ad.add (i.toNat * 5)).off + 2, none⟩ = some (.int .i64 (qA3 xs i).f2) ∧ w.cell? ⟨(ad.add (i.toNat * 5)).block, (ad.add (i.toNat * 5)).off + 3, none⟩ = some (.int .i64 (qA3 xs i).f3) ∧ w.cell? ⟨(ad.add (i.toNat * 5)).block, (ad.add (i.toNat * 5)).off + 4, none⟩ = some (.string (qA3 xs i).f4) ∧ (qA3 xs i).f1.length ≤ c1 ∧ (Kd.int .i64).C w A1 (qA3 xs i).f1.length (qA3 xs i).f1 := by
 obtain ⟨ad, c, e, _, hK, hc0⟩ := Kd.C_get h z79 i h0 h1
 have hc : ∀ j u, c[j]? = some u → w.cell? (ad.add (i.toNat * 5 + j)) = some u := hc0
 obtain ⟨A1, c1, rfl, l1, g1⟩ := k79_open hK
 exact ⟨ad, A1, c1, e, hc 0 _ rfl, by rw [← qBQ _ _ 1 (by omega)]; exact hc 1 _ rfl, by rw [← qBQ _ _ 2 (by omega)]; exact hc 2 _ rfl, by rw [← qBQ _ _ 3 (by omega)]; exact hc 3 _ rfl, by rw [← qBQ _ _ 4 (by omega)]; exact hc 4 _ rfl, l1, g1⟩
structure S59 where
 f0 : ByteArray
 f1 : ByteArray
def z59 : S59 := ⟨(⟨#[]⟩ : ByteArray), (⟨#[]⟩ : ByteArray)⟩
def k59 : Kd S59 := Kd.iso (Kd.pair Kd.string Kd.string) (fun x : S59 => (x.f0, x.f1))
theorem k59_open {w : World} {x : S59} {cs : List Value} (h : k59.K w x cs) : cs = [.string x.f0, .string x.f1] := by
 obtain ⟨_, _, rfl, rfl, rfl⟩ := h
 exact rfl
theorem k59_mkM (w : World) (base : Nat) (ok : Nat → Prop) (x : S59)  : k59.M w base ok x [.string x.f0, .string x.f1] := ⟨[.string x.f0], [.string x.f1], rfl, rfl, rfl⟩
def qBB (xs : List S59) (i : Int) : S59 := xs.getD i.toNat z59
theorem at_T59 {w : World} {A : Option Addr} {n : Nat} {xs : List S59} (h : Kd.C k59 w A n xs) (i : Int) (h0 : 0 ≤ i) (h1 : i < n) : ∃ ad , A = some ad ∧ w.cell? (ad.add (i.toNat * 2)) = some (.string (qBB xs i).f0) ∧ w.cell? ⟨(ad.add (i.toNat * 2)).block, (ad.add (i.toNat * 2)).off + 1, none⟩ = some (.string (qBB xs i).f1) := by
 obtain ⟨ad, c, e, _, hK, hc0⟩ := Kd.C_get h z59 i h0 h1
 have hc : ∀ j u, c[j]? = some u → w.cell? (ad.add (i.toNat * 2 + j)) = some u := hc0
 obtain rfl := k59_open hK
 exact ⟨ad, e, hc 0 _ rfl, by rw [← qBQ _ _ 1 (by omega)]; exact hc 1 _ rfl⟩
structure S55 where
 f0 : ByteArray
 f1 : ByteArray
 f2 : (List S79)
 f3 : (List S79)
 f4 : (List S59)
 f5 : Int
def z55 : S55 := ⟨(⟨#[]⟩ : ByteArray), (⟨#[]⟩ : ByteArray), ([] : List S79), ([] : List S79), ([] : List S59), (0 : Int)⟩
def k55 : Kd S55 := Kd.iso (Kd.pair Kd.string (Kd.pair Kd.string (Kd.pair (Kd.slice 79 k79) (Kd.pair (Kd.slice 79 k79) (Kd.pair (Kd.slice 59 k59) (Kd.int .i64)))))) (fun x : S55 => (x.f0, x.f1, x.f2, x.f3, x.f4, x.f5))
theorem k55_open {w : World} {x : S55} {cs : List Value} (h : k55.K w x cs) : ∃ A2 c2 A3 c3 A4 c4, cs = [.string x.f0, .string x.f1, .slice A2 x.f2.length c2, .slice A3 x.f3.length c3, .slice A4 x.f4.length c4, .int .i64 x.f5] ∧ x.f2.length ≤ c2 ∧ k79.C w A2 x.f2.length x.f2 ∧ x.f3.length ≤ c3 ∧ k79.C w A3 x.f3.length x.f3 ∧ x.f4.length ≤ c4 ∧ k59.C w A4 x.f4.length x.f4 := by
 obtain ⟨_, _, rfl, rfl, ⟨_, _, rfl, rfl, ⟨_, _, rfl, ⟨A2, c2, rfl, l2, g2⟩, ⟨_, _, rfl, ⟨A3, c3, rfl, l3, g3⟩, ⟨_, _, rfl, ⟨A4, c4, rfl, l4, g4⟩, rfl⟩⟩⟩⟩⟩ := h
 exact ⟨A2, c2, A3, c3, A4, c4, rfl, l2, g2, l3, g3, l4, g4⟩
theorem k55_mk (w : World) (x : S55) {A2 : Option Addr} {c2 : Nat} (l2 : x.f2.length ≤ c2) (g2 : k79.C w A2 x.f2.length x.f2) {A3 : Option Addr} {c3 : Nat} (l3 : x.f3.length ≤ c3) (g3 : k79.C w A3 x.f3.length x.f3) {A4 : Option Addr} {c4 : Nat} (l4 : x.f4.length ≤ c4) (g4 : k59.C w A4 x.f4.length x.f4) : k55.K w x [.string x.f0, .string x.f1, .slice A2 x.f2.length c2, .slice A3 x.f3.length c3, .slice A4 x.f4.length c4, .int .i64 x.f5] := ⟨[.string x.f0], [.string x.f1, .slice A2 x.f2.length c2, .slice A3 x.f3.length c3, .slice A4 x.f4.length c4, .int .i64 x.f5], rfl, rfl, ⟨[.string x.f1], [.slice A2 x.f2.length c2, .slice A3 x.f3.length c3, .slice A4 x.f4.length c4, .int .i64 x.f5], rfl, rfl, ⟨[.slice A2 x.f2.length c2], [.slice A3 x.f3.length c3, .slice A4 x.f4.length c4, .int .i64 x.f5], rfl, ⟨A2, c2, rfl, l2, g2⟩, ⟨[.slice A3 x.f3.length c3], [.slice A4 x.f4.length c4, .int .i64 x.f5], rfl, ⟨A3, c3, rfl, l3, g3⟩, ⟨[.slice A4 x.f4.length c4], [.int .i64 x.f5], rfl, ⟨A4, c4, rfl, l4, g4⟩, rfl⟩⟩⟩⟩⟩
theorem k55_mkF (W : World) (ok : Nat → Prop) (x : S55) {A2 : Option Addr} {c2 : Nat} (l2 : x.f2.length ≤ c2) (g2 : Kd.F k79 W ok A2 x.f2.length x.f2) {A3 : Option Addr} {c3 : Nat} (l3 : x.f3.length ≤ c3) (g3 : Kd.F k79 W ok A3 x.f3.length x.f3) {A4 : Option Addr} {c4 : Nat} (l4 : x.f4.length ≤ c4) (g4 : Kd.F k59 W ok A4 x.f4.length x.f4) : Kd.FK k55 W ok x [.string x.f0, .string x.f1, .slice A2 x.f2.length c2, .slice A3 x.f3.length c3, .slice A4 x.f4.length c4, .int .i64 x.f5] := fun W2 hW => k55_mk W2 x l2 (g2 W2 hW) l3 (g3 W2 hW) l4 (g4 W2 hW)
def qAY (xs : List S55) (i : Int) : S55 := xs.getD i.toNat z55
theorem at_T55 {w : World} {A : Option Addr} {n : Nat} {xs : List S55} (h : Kd.C k55 w A n xs) (i : Int) (h0 : 0 ≤ i) (h1 : i < n) : ∃ ad A2 c2 A3 c3 A4 c4, A = some ad ∧ w.cell? (ad.add (i.toNat * 6)) = some (.string (qAY xs i).f0) ∧ w.cell? ⟨(ad.add (i.toNat * 6)).block, (ad.add (i.toNat * 6)).off + 1, none⟩ = some (.string (qAY xs i).f1) ∧ w.cell? ⟨(ad.add (i.toNat * 6)).block, (ad.add (i.toNat * 6)).off + 2, none⟩ = some (.slice A2 (qAY xs i).f2.length c2) ∧ w.cell? ⟨(ad.add (i.toNat * 6)).block, (ad.add (i.toNat * 6)).off + 3, none⟩ = some (.slice A3 (qAY xs i).f3.length c3) ∧ w.cell? ⟨(ad.add (i.toNat * 6)).block, (ad.add (i.toNat * 6)).off + 4, none⟩ = some (.slice A4 (qAY xs i).f4.length c4) ∧ w.cell? ⟨(ad.add (i.toNat * 6)).block, (ad.add (i.toNat * 6)).off + 5, none⟩ = some (.int .i64 (qAY xs i).f5) ∧ (qAY xs i).f2.length ≤ c2 ∧ k79.C w A2 (qAY xs i).f2.length (qAY xs i).f2 ∧ (qAY xs i).f3.length ≤ c3 ∧ k79.C w A3 (qAY xs i).f3.length (qAY xs i).f3 ∧ (qAY xs i).f4.length ≤ c4 ∧ k59.C w A4 (qAY xs i).f4.length (qAY xs i).f4 := by
 obtain ⟨ad, c, e, _, hK, hc0⟩ := Kd.C_get h z55 i h0 h1
 have hc : ∀ j u, c[j]? = some u → w.cell? (ad.add (i.toNat * 6 + j)) = some u := hc0
 obtain ⟨A2, c2, A3, c3, A4, c4, rfl, l2, g2, l3, g3, l4, g4⟩ := k55_open hK
 exact ⟨ad, A2, c2, A3, c3, A4, c4, e, hc 0 _ rfl, by rw [← qBQ _ _ 1 (by omega)]; exact hc 1 _ rfl, by rw [← qBQ _ _ 2 (by omega)]; exact hc 2 _ rfl, by rw [← qBQ _ _ 3 (by omega)]; exact hc 3 _ rfl, by rw [← qBQ _ _ 4 (by omega)]; exact hc 4 _ rfl, by rw [← qBQ _ _ 5 (by omega)]; exact hc 5 _ rfl, l2, g2, l3, g3, l4, g4⟩
structure S49 where
 f0 : ByteArray
 f1 : Int
 f2 : Int
 f3 : (List S98)
 f4 : (List S73)
 f5 : (List S55)
def z49 : S49 := ⟨(⟨#[]⟩ : ByteArray), (0 : Int), (0 : Int), ([] : List S98), ([] : List S73), ([] : List S55)⟩
def k49 : Kd S49 := Kd.iso (Kd.pair Kd.string (Kd.pair (Kd.int .i64) (Kd.pair (Kd.int .i64) (Kd.pair (Kd.slice 98 k98) (Kd.pair (Kd.slice 73 k73) (Kd.slice 55 k55)))))) (fun x : S49 => (x.f0, x.f1, x.f2, x.f3, x.f4, x.f5))
theorem k49_open {w : World} {x : S49} {cs : List Value} (h : k49.K w x cs) : ∃ A3 c3 A4 c4 A5 c5, cs = [.string x.f0, .int .i64 x.f1, .int .i64 x.f2, .slice A3 x.f3.length c3, .slice A4 x.f4.length c4, .slice A5 x.f5.length c5] ∧ x.f3.length ≤ c3 ∧ k98.C w A3 x.f3.length x.f3 ∧ x.f4.length ≤ c4 ∧ k73.C w A4 x.f4.length x.f4 ∧ x.f5.length ≤ c5 ∧ k55.C w A5 x.f5.length x.f5 := by
 obtain ⟨_, _, rfl, rfl, ⟨_, _, rfl, rfl, ⟨_, _, rfl, rfl, ⟨_, _, rfl, ⟨A3, c3, rfl, l3, g3⟩, ⟨_, _, rfl, ⟨A4, c4, rfl, l4, g4⟩, ⟨A5, c5, rfl, l5, g5⟩⟩⟩⟩⟩⟩ := h
 exact ⟨A3, c3, A4, c4, A5, c5, rfl, l3, g3, l4, g4, l5, g5⟩
theorem k49_mk (w : World) (x : S49) {A3 : Option Addr} {c3 : Nat} (l3 : x.f3.length ≤ c3) (g3 : k98.C w A3 x.f3.length x.f3) {A4 : Option Addr} {c4 : Nat} (l4 : x.f4.length ≤ c4) (g4 : k73.C w A4 x.f4.length x.f4) {A5 : Option Addr} {c5 : Nat} (l5 : x.f5.length ≤ c5) (g5 : k55.C w A5 x.f5.length x.f5) : k49.K w x [.string x.f0, .int .i64 x.f1, .int .i64 x.f2, .slice A3 x.f3.length c3, .slice A4 x.f4.length c4, .slice A5 x.f5.length c5] := ⟨[.string x.f0], [.int .i64 x.f1, .int .i64 x.f2, .slice A3 x.f3.length c3, .slice A4 x.f4.length c4, .slice A5 x.f5.length c5], rfl, rfl, ⟨[.int .i64 x.f1], [.int .i64 x.f2, .slice A3 x.f3.length c3, .slice A4 x.f4.length c4, .slice A5 x.f5.length c5], rfl, rfl, ⟨[.int .i64 x.f2], [.slice A3 x.f3.length c3, .slice A4 x.f4.length c4, .slice A5 x.f5.length c5], rfl, rfl, ⟨[.slice A3 x.f3.length c3], [.slice A4 x.f4.length c4, .slice A5 x.f5.length c5], rfl, ⟨A3, c3, rfl, l3, g3⟩, ⟨[.slice A4 x.f4.length c4], [.slice A5 x.f5.length c5], rfl, ⟨A4, c4, rfl, l4, g4⟩, ⟨A5, c5, rfl, l5, g5⟩⟩⟩⟩⟩⟩
theorem k49_mkF (W : World) (ok : Nat → Prop) (x : S49) {A3 : Option Addr} {c3 : Nat} (l3 : x.f3.length ≤ c3) (g3 : Kd.F k98 W ok A3 x.f3.length x.f3) {A4 : Option Addr} {c4 : Nat} (l4 : x.f4.length ≤ c4) (g4 : Kd.F k73 W ok A4 x.f4.length x.f4) {A5 : Option Addr} {c5 : Nat} (l5 : x.f5.length ≤ c5) (g5 : Kd.F k55 W ok A5 x.f5.length x.f5) : Kd.FK k49 W ok x [.string x.f0, .int .i64 x.f1, .int .i64 x.f2, .slice A3 x.f3.length c3, .slice A4 x.f4.length c4, .slice A5 x.f5.length c5] := fun W2 hW => k49_mk W2 x l3 (g3 W2 hW) l4 (g4 W2 hW) l5 (g5 W2 hW)
def qA4 (xs : List S49) (i : Int) : S49 := xs.getD i.toNat z49
theorem qEY {w : World} {A : Option Addr} {n : Nat} {xs : List S49} (h : Kd.C k49 w A n xs) (i : Int) (h0 : 0 ≤ i) (h1 : i < n) : ∃ ad A3 c3 A4 c4 A5 c5, A = some ad ∧ w.cell? (ad.add (i.toNat * 6)) = some (.string (qA4 xs i).f0) ∧ w.cell? ⟨(ad.add (i.toNat * 6)).block, (ad.add (i.toNat * 6)).off + 1, none⟩ = some (.int .i64 (qA4 xs i).f1) ∧ w.cell? ⟨(ad.add (i.toNat * 6)).block, (ad.add (i.toNat * 6)).off + 2, none⟩ = some (.int .i64 (qA4 xs i).f2) ∧ w.cell? ⟨(ad.add (i.toNat * 6)).block, (ad.add (i.toNat * 6)).off + 3, none⟩ = some (.slice A3 (qA4 xs i).f3.length c3) ∧ w.cell? ⟨(ad.add (i.toNat * 6)).block, (ad.add (i.toNat * 6)).off + 4, none⟩ = some (.slice A4 (qA4 xs i).f4.length c4) ∧ w.cell? ⟨(ad.add (i.toNat * 6)).block, (ad.add (i.toNat * 6)).off + 5, none⟩ = some (.slice A5 (qA4 xs i).f5.length c5) ∧ (qA4 xs i).f3.length ≤ c3 ∧ k98.C w A3 (qA4 xs i).f3.length (qA4 xs i).f3 ∧ (qA4 xs i).f4.length ≤ c4 ∧ k73.C w A4 (qA4 xs i).f4.length (qA4 xs i).f4 ∧ (qA4 xs i).f5.length ≤ c5 ∧ k55.C w A5 (qA4 xs i).f5.length (qA4 xs i).f5 := by
 obtain ⟨ad, c, e, _, hK, hc0⟩ := Kd.C_get h z49 i h0 h1
 have hc : ∀ j u, c[j]? = some u → w.cell? (ad.add (i.toNat * 6 + j)) = some u := hc0
 obtain ⟨A3, c3, A4, c4, A5, c5, rfl, l3, g3, l4, g4, l5, g5⟩ := k49_open hK
 exact ⟨ad, A3, c3, A4, c4, A5, c5, e, hc 0 _ rfl, by rw [← qBQ _ _ 1 (by omega)]; exact hc 1 _ rfl, by rw [← qBQ _ _ 2 (by omega)]; exact hc 2 _ rfl, by rw [← qBQ _ _ 3 (by omega)]; exact hc 3 _ rfl, by rw [← qBQ _ _ 4 (by omega)]; exact hc 4 _ rfl, by rw [← qBQ _ _ 5 (by omega)]; exact hc 5 _ rfl, l3, g3, l4, g4, l5, g5⟩
structure S25 where
 f0 : ByteArray
 f1 : ByteArray
 f2 : Int
 f3 : Int
def z25 : S25 := ⟨(⟨#[]⟩ : ByteArray), (⟨#[]⟩ : ByteArray), (0 : Int), (0 : Int)⟩
def k25 : Kd S25 := Kd.iso (Kd.pair Kd.string (Kd.pair Kd.string (Kd.pair (Kd.int .i64) (Kd.int .i64)))) (fun x : S25 => (x.f0, x.f1, x.f2, x.f3))
theorem k25_open {w : World} {x : S25} {cs : List Value} (h : k25.K w x cs) : cs = [.string x.f0, .string x.f1, .int .i64 x.f2, .int .i64 x.f3] := by
 obtain ⟨_, _, rfl, rfl, ⟨_, _, rfl, rfl, ⟨_, _, rfl, rfl, rfl⟩⟩⟩ := h
 exact rfl
theorem k25_mkM (w : World) (base : Nat) (ok : Nat → Prop) (x : S25)  : k25.M w base ok x [.string x.f0, .string x.f1, .int .i64 x.f2, .int .i64 x.f3] := ⟨[.string x.f0], [.string x.f1, .int .i64 x.f2, .int .i64 x.f3], rfl, rfl, ⟨[.string x.f1], [.int .i64 x.f2, .int .i64 x.f3], rfl, rfl, ⟨[.int .i64 x.f2], [.int .i64 x.f3], rfl, rfl, rfl⟩⟩⟩
def qBS (xs : List S25) (i : Int) : S25 := xs.getD i.toNat z25
theorem at_T25 {w : World} {A : Option Addr} {n : Nat} {xs : List S25} (h : Kd.C k25 w A n xs) (i : Int) (h0 : 0 ≤ i) (h1 : i < n) : ∃ ad , A = some ad ∧ w.cell? (ad.add (i.toNat * 4)) = some (.string (qBS xs i).f0) ∧ w.cell? ⟨(ad.add (i.toNat * 4)).block, (ad.add (i.toNat * 4)).off + 1, none⟩ = some (.string (qBS xs i).f1) ∧ w.cell? ⟨(ad.add (i.toNat * 4)).block, (ad.add (i.toNat * 4)).off + 2, none⟩ = some (.int .i64 (qBS xs i).f2) ∧ w.cell? ⟨(ad.add (i.toNat * 4)).block, (ad.add (i.toNat * 4)).off + 3, none⟩ = some (.int .i64 (qBS xs i).f3) := by
 obtain ⟨ad, c, e, _, hK, hc0⟩ := Kd.C_get h z25 i h0 h1
 have hc : ∀ j u, c[j]? = some u → w.cell? (ad.add (i.toNat * 4 + j)) = some u := hc0
 obtain rfl := k25_open hK
 exact ⟨ad, e, hc 0 _ rfl, by rw [← qBQ _ _ 1 (by omega)]; exact hc 1 _ rfl, by rw [← qBQ _ _ 2 (by omega)]; exact hc 2 _ rfl, by rw [← qBQ _ _ 3 (by omega)]; exact hc 3 _ rfl⟩
theorem eqA25 (d : Nat) (w : World) (x0 y0 : ByteArray) (x1 y1 : ByteArray) (x2 y2 : Int) (x3 y3 : Int) :
  (Op.equalIn (d + 2) 25 (.agg #[.string x0, .string x1, .int .i64 x2, .int .i64 x3]) (.agg #[.string y0, .string y1, .int .i64 y2, .int .i64 y3])).run Tryz.prog w = .ok (x0.toList == y0.toList && (x1.toList == y1.toList && (x2 == y2 && (x3 == y3)))) w := by
 refine eqA_of Tryz.underlying25 (by kernel_rfl) ?_
 refine eqf_cons (by rfl) (by go_simp; rfl) (by go_simp; rfl) (by go_simp) ?_
 refine eqf_cons (by rfl) (by go_simp; rfl) (by go_simp; rfl) (by go_simp) ?_
 refine eqf_cons (by rfl) (by go_simp; rfl) (by go_simp; rfl) (by go_simp) ?_
 exact eqf_last (by rfl) (by go_simp; rfl) (by go_simp; rfl) (by go_simp)
def qB9.l0 : Nat → List (S49) → Int → List (S49) → Int → Int → Option (Int)
 | 0, _, _, _, _, _ => none
 | k + 1, x0, x3, x6, x7, x8 => if x8 < x7 then (if 0 ≤ x8 then (if x8 < (x6.length : Int) then (if (((qA4 x6 x8).f5).length : Int) > 60 then (some 2) else (if (((qA4 x6 x8).f4).length : Int) > 8 then (some 2) else (qB9.l0 k x0 (wrap64 (x3 + (((qA4 x6 x8).f3).length : Int))) x6 x7 (wrap64 (x8 + 1))))) else (none)) else (none)) else (if (x0.length : Int) > 8 then (some 2) else (if x3 > 40 then (some 2) else (some 0)))
def qB9.f (k : Nat) (l0 : List (S49)) : Option (Int) := qB9.l0 k l0 0 l0 (l0.length : Int) 0
theorem qB9.qBT : ∀ k, (∀ y0 y1 y2 y3 y4, LeO (qB9.l0 k y0 y1 y2 y3 y4) (qB9.l0 (k + 1) y0 y1 y2 y3 y4))
 | 0 => fun _ _ _ _ _ r h => by simp [qB9.l0] at h
 | k + 1 => by
  have ih0 := qB9.qBT k
  ·intro y0 y1 y2 y3 y4
   unfold qB9.l0
   exact zm
theorem qB9.mono : ∀ a0 k, LeO (qB9.f k a0) (qB9.f (k + 1) a0) := by
 intro a0 k
 have ih0 := qB9.qBT k
 unfold qB9.f
 exact zm
theorem qB9.calls (k : Nat) (A0 : Option Addr) (c0 : Nat) (l0 : List (S49)) (r : Int) (w : World) (hr0 : Kd.C k49 w A0 l0.length l0) (hc0 : l0.length ≤ c0) (h : qB9.f k l0 = some r) :
  Calls Tryz.prog 13 #[.slice A0 l0.length c0] w fun e w' => e = .returned (.int .i64 r) ∧ Below w.heap.size w w' := by
 have hu49 := Tryz.underlying49
 have HR0 := zq hr0
 have HC0 := zq hc0
 clear hr0 hc0
 have HB := zq (Below.refl w.heap.size w)
 have H := h
 unfold qB9.f at H
 clear h
 have H' := zq H
 clear H
 go_enter Tryz.func13, Tryz.ntmps13
 go_wp2
 go_loopg [3, 8] k (fun kq v3 v8 w' => ∃ (x3_1 : Int) (x8_1 : Int), v3 = .int .i64 x3_1 ∧ v8 = .int .i64 x8_1 ∧ qA0 (qB9.l0 kq l0 x3_1 l0 (l0.length : Int) x8_1 = some r) ∧ qA0 (kq ≤ k) ∧ qA0 (Below w.heap.size w w'))
 case atStart => exact ⟨(0), (0), zs, zs, H', ⟨Nat.le_refl _⟩, ⟨zb⟩⟩
 clear H'
 obtain ⟨x3_1, x8_1, rfl, rfl, HA, HK1, HB⟩ := hrel
 obtain _ | k1 := gk
 ·exact absurd HA.out (by simp [qB9.l0])
 have H := HA.out
 clear HA
 simp only [qB9.l0] at H
 obtain ⟨-, c2b0, H⟩ | ⟨-, c2b0, H⟩ := y3 H
 rotate_left
 ·obtain ⟨c13, c13b0, H⟩ | ⟨c13, c13b0, H⟩ := y3 H
  ·have c13b1 : decide (8 < l0.length) = true := decide_eq_true (by omega)
   clear c13
   obtain rfl := zy H
   go_wp2
   go_ret
   exact ⟨zf, zb⟩
  have c13b1 : decide (8 < l0.length) = false := decide_eq_false (by omega)
  clear c13
  obtain ⟨-, c14b0, H⟩ | ⟨-, c14b0, H⟩ := y3 H
  rotate_left
  ·obtain rfl := zy H
   go_wp2
   go_ret
   exact ⟨zf, zb⟩
  obtain rfl := zy H
  go_wp2
  go_ret
  exact ⟨zf, zb⟩
 obtain ⟨-, c3b0, H⟩ := y1 H
 obtain ⟨-, c4b0, H⟩ := y1 H
 obtain ⟨c5, c5b0, H⟩ | ⟨c5, c5b0, H⟩ := y3 H
 ·have c5b1 : decide (60 < ((qA4 l0 x8_1).f5).length) = true := decide_eq_true (by omega)
  clear c5
  obtain rfl := zy H
  obtain ⟨p101, q101, ad101, A101_3, c101_3, A101_4, c101_4, A101_5, c101_5, e101, hx101_0, hx101_1, hx101_2, hx101_3, hx101_4, hx101_5, hl101_3, hi101_3, hl101_4, hi101_4, hl101_5, hi101_5⟩ := yp (qEY HR0.out x8_1)
  cases e101
  (try replace hx101_0 := zh hx101_0)
  replace hx101_1 := zh hx101_1
  replace hx101_2 := zh hx101_2
  replace hx101_3 := zh hx101_3
  replace hx101_4 := zh hx101_4
  replace hx101_5 := zh hx101_5
  have HR101_3 := zq hi101_3
  have HC101_3 := zq hl101_3
  clear hi101_3 hl101_3
  have HR101_4 := zq hi101_4
  have HC101_4 := zq hl101_4
  clear hi101_4 hl101_4
  have HR101_5 := zq hi101_5
  have HC101_5 := zq hl101_5
  clear hi101_5 hl101_5
  go_wp2_with (((with_reducible refine qAS (N := 5) rfl ?_); (try (refine qC1 (by rfl) ?_; dsimp only)); refine boxZ 5 #[.string (⟨#[]⟩ : ByteArray), .int .i64 0, .int .i64 0, .slice none 0 0, .slice none 0 0, .slice none 0 0] 49 ?_; intro gb102 hg w6 hbox hb; have BK102 := zq (hbox); have GW102 := zg w gb102; replace HB := zB hb; clear hb hbox hg; have hcz7 := bc6 BK102.out))
  go_ret
  exact ⟨zf, zb⟩
 have c5b1 : decide (60 < ((qA4 l0 x8_1).f5).length) = false := decide_eq_false (by omega)
 clear c5
 obtain ⟨c8, c8b0, H⟩ | ⟨c8, c8b0, H⟩ := y3 H
 ·have c8b1 : decide (8 < ((qA4 l0 x8_1).f4).length) = true := decide_eq_true (by omega)
  clear c8
  obtain rfl := zy H
  obtain ⟨p101, q101, ad101, A101_3, c101_3, A101_4, c101_4, A101_5, c101_5, e101, hx101_0, hx101_1, hx101_2, hx101_3, hx101_4, hx101_5, hl101_3, hi101_3, hl101_4, hi101_4, hl101_5, hi101_5⟩ := yp (qEY HR0.out x8_1)
  cases e101
  (try replace hx101_0 := zh hx101_0)
  replace hx101_1 := zh hx101_1
  replace hx101_2 := zh hx101_2
  replace hx101_3 := zh hx101_3
  replace hx101_4 := zh hx101_4
  replace hx101_5 := zh hx101_5
  have HR101_3 := zq hi101_3
  have HC101_3 := zq hl101_3
  clear hi101_3 hl101_3
  have HR101_4 := zq hi101_4
  have HC101_4 := zq hl101_4
  clear hi101_4 hl101_4
  have HR101_5 := zq hi101_5
  have HC101_5 := zq hl101_5
  clear hi101_5 hl101_5
  go_wp2_with (((with_reducible refine qAS (N := 5) rfl ?_); (try (refine qC1 (by rfl) ?_; dsimp only)); refine boxZ 5 #[.string (⟨#[]⟩ : ByteArray), .int .i64 0, .int .i64 0, .slice none 0 0, .slice none 0 0, .slice none 0 0] 49 ?_; intro gb102 hg w9 hbox hb; have BK102 := zq (hbox); have GW102 := zg w gb102; replace HB := zB hb; clear hb hbox hg; have hcz10 := bc6 BK102.out))
  go_ret
  exact ⟨zf, zb⟩
 have c8b1 : decide (8 < ((qA4 l0 x8_1).f4).length) = false := decide_eq_false (by omega)
 clear c8
 have H' := zq H
 clear H
 obtain ⟨p101, q101, ad101, A101_3, c101_3, A101_4, c101_4, A101_5, c101_5, e101, hx101_0, hx101_1, hx101_2, hx101_3, hx101_4, hx101_5, hl101_3, hi101_3, hl101_4, hi101_4, hl101_5, hi101_5⟩ := yp (qEY HR0.out x8_1)
 cases e101
 (try replace hx101_0 := zh hx101_0)
 replace hx101_1 := zh hx101_1
 replace hx101_2 := zh hx101_2
 replace hx101_3 := zh hx101_3
 replace hx101_4 := zh hx101_4
 replace hx101_5 := zh hx101_5
 have HR101_3 := zq hi101_3
 have HC101_3 := zq hl101_3
 clear hi101_3 hl101_3
 have HR101_4 := zq hi101_4
 have HC101_4 := zq hl101_4
 clear hi101_4 hl101_4
 have HR101_5 := zq hi101_5
 have HC101_5 := zq hl101_5
 clear hi101_5 hl101_5
 go_wp2_with (((with_reducible refine qAS (N := 5) rfl ?_); (try (refine qC1 (by rfl) ?_; dsimp only)); refine boxZ 5 #[.string (⟨#[]⟩ : ByteArray), .int .i64 0, .int .i64 0, .slice none 0 0, .slice none 0 0, .slice none 0 0] 49 ?_; intro gb102 hg w11 hbox hb; have BK102 := zq (hbox); have GW102 := zg w gb102; replace HB := zB hb; clear hb hbox hg; have hcz12 := bc6 BK102.out))
 go_roundg k1
 case measure => have := HK1.out; omega
 case rel => exact ⟨(wrap64 (x3_1 + (((qA4 l0 x8_1).f3).length : Int))), (wrap64 (x8_1 + 1)), zs, zs, H', ⟨by have := HK1.out; omega⟩, ⟨zb⟩⟩
def qCF.f (a0 : Int) : Option (Bool) := if a0 ≥ 97 then (some (decide (a0 ≤ 122))) else (some false)
theorem qCF.calls (a0 : Int) (r : Bool) (w : World) (h : qCF.f a0 = some r) :
  Calls Tryz.prog 63 #[.int .u8 a0] w fun e w' => e = .returned (.bool r) ∧ qB8 w w' := by
 have H := h
 unfold qCF.f at H
 clear h
 obtain ⟨-, c2b0, H⟩ | ⟨-, c2b0, H⟩ := y3 H
 rotate_left
 ·obtain rfl := zy H
  go_enter Tryz.func63, Tryz.ntmps63
  go_wp2
  go_ret
  exact ⟨zs, zD⟩
 obtain rfl := zy H
 go_enter Tryz.func63, Tryz.ntmps63
 go_wp2
 go_ret
 exact ⟨zs, zD⟩
def qEA.f (a0 : Int) : Option (Bool) := if a0 ≥ 48 then (some (decide (a0 ≤ 57))) else (some false)
theorem qEA.calls (a0 : Int) (r : Bool) (w : World) (h : qEA.f a0 = some r) :
  Calls Tryz.prog 86 #[.int .u8 a0] w fun e w' => e = .returned (.bool r) ∧ qB8 w w' := by
 have H := h
 unfold qEA.f at H
 clear h
 obtain ⟨-, c2b0, H⟩ | ⟨-, c2b0, H⟩ := y3 H
 rotate_left
 ·obtain rfl := zy H
  go_enter Tryz.func86, Tryz.ntmps86
  go_wp2
  go_ret
  exact ⟨zs, zD⟩
 obtain rfl := zy H
 go_enter Tryz.func86, Tryz.ntmps86
 go_wp2
 go_ret
 exact ⟨zs, zD⟩
def qDR.f (a0 : Int) : Option (Bool) := (qCF.f a0).bind fun t103 => (if t103 = true then (some true) else ((qEA.f a0).bind fun t104 => (if t104 = true then (some true) else (some (a0 == 45)))))
theorem qDR.calls (a0 : Int) (r : Bool) (w : World) (h : qDR.f a0 = some r) :
  Calls Tryz.prog 64 #[.int .u8 a0] w fun e w' => e = .returned (.bool r) ∧ qB8 w w' := by
 have H := h
 unfold qDR.f at H
 clear h
 replace H := zi H
 obtain ⟨t103, A20, H⟩ := H
 have A2 := zq A20
 clear A20
 by_cases c3 : t103 = true
 ·subst c3
  rw [if_pos rfl] at H
  obtain rfl := zy H
  go_enter Tryz.func64, Tryz.ntmps64
  go_wp2_with ((refine qBY (some 4) Tryz.func63 #[.int .u8 a0] ?_; (with_reducible refine (qCF.calls a0 true _ A2.out).mono ?_); rintro e w' ⟨rfl, ⟨nd, rfl⟩⟩; refine ⟨_, rfl, ?_⟩))
  go_ret
  exact ⟨zs, zD⟩
 replace c3 := Bool.eq_false_iff.mpr c3
 subst c3
 rw [zj] at H
 replace H := zi H
 obtain ⟨t104, A40, H⟩ := H
 have A4 := zq A40
 clear A40
 by_cases c5 : t104 = true
 ·subst c5
  rw [if_pos rfl] at H
  obtain rfl := zy H
  go_enter Tryz.func64, Tryz.ntmps64
  go_wp2_with (first | (refine qBY (some 4) Tryz.func63 #[.int .u8 a0] ?_; (with_reducible refine (qCF.calls a0 false _ A2.out).mono ?_); rintro e w' ⟨rfl, ⟨nd, rfl⟩⟩; refine ⟨_, rfl, ?_⟩) | (go_at_call 86; (with_reducible refine (qEA.calls a0 true _ A4.out).mono ?_); rintro e w' ⟨rfl, ⟨nd, rfl⟩⟩))
  go_ret
  exact ⟨zs, zD⟩
 replace c5 := Bool.eq_false_iff.mpr c5
 subst c5
 rw [zj] at H
 obtain rfl := zy H
 go_enter Tryz.func64, Tryz.ntmps64
 go_wp2_with (first | (refine qBY (some 4) Tryz.func63 #[.int .u8 a0] ?_; (with_reducible refine (qCF.calls a0 false _ A2.out).mono ?_); rintro e w' ⟨rfl, ⟨nd, rfl⟩⟩; refine ⟨_, rfl, ?_⟩) | (go_at_call 86; (with_reducible refine (qEA.calls a0 false _ A4.out).mono ?_); rintro e w' ⟨rfl, ⟨nd, rfl⟩⟩))
 go_ret
 exact ⟨zs, zD⟩
def cmp_isNaN_string.f (a0 : ByteArray) : Option (Bool) := some (a0.toList != a0.toList)
theorem cmp_isNaN_string.calls (a0 : ByteArray) (r : Bool) (w : World) (h : cmp_isNaN_string.f a0 = some r) :
  Calls Tryz.prog 99 #[.string a0] w fun e w' => e = .returned (.bool r) ∧ qB8 w w' := by
 have H : (some (a0.toList != a0.toList)) = some r := h
 clear h
 obtain rfl := zy H
 go_enter Tryz.func99, Tryz.ntmps99
 go_wp2
 go_ret
 exact ⟨zs, zD⟩
def cmp_Less_string.f (a0 : ByteArray) (a1 : ByteArray) : Option (Bool) := (cmp_isNaN_string.f a0).bind fun t105 => (if t105 = true then ((cmp_isNaN_string.f a1).bind fun t106 => (if t106 = true then (some (Op.bytesLess a0.toList a1.toList)) else (some true))) else (some (Op.bytesLess a0.toList a1.toList)))
theorem cmp_Less_string.calls (a0 : ByteArray) (a1 : ByteArray) (r : Bool) (w : World) (h : cmp_Less_string.f a0 a1 = some r) :
  Calls Tryz.prog 87 #[.string a0, .string a1] w fun e w' => e = .returned (.bool r) ∧ qB8 w w' := by
 have H := h
 unfold cmp_Less_string.f at H
 clear h
 replace H := zi H
 obtain ⟨t105, A30, H⟩ := H
 have A3 := zq A30
 clear A30
 by_cases c4 : t105 = true
 rotate_left
 ·replace c4 := Bool.eq_false_iff.mpr c4
  subst c4
  rw [zj] at H
  obtain rfl := zy H
  go_enter Tryz.func87, Tryz.ntmps87
  go_wp2_with ((refine qBY (some 6) Tryz.func99 #[.string a0] ?_; (with_reducible refine (cmp_isNaN_string.calls a0 false _ A3.out).mono ?_); rintro e w' ⟨rfl, ⟨nd, rfl⟩⟩; refine ⟨_, rfl, ?_⟩))
  go_ret
  exact ⟨zs, zD⟩
 subst c4
 rw [if_pos rfl] at H
 replace H := zi H
 obtain ⟨t106, A50, H⟩ := H
 have A5 := zq A50
 clear A50
 by_cases c6 : t106 = true
 ·subst c6
  rw [if_pos rfl] at H
  obtain rfl := zy H
  go_enter Tryz.func87, Tryz.ntmps87
  go_wp2_with (first | (refine qBY (some 6) Tryz.func99 #[.string a0] ?_; (with_reducible refine (cmp_isNaN_string.calls a0 true _ A3.out).mono ?_); rintro e w' ⟨rfl, ⟨nd, rfl⟩⟩; refine ⟨_, rfl, ?_⟩) | (go_at_call 99; (with_reducible refine (cmp_isNaN_string.calls a1 true _ A5.out).mono ?_); rintro e w' ⟨rfl, ⟨nd, rfl⟩⟩))
  go_ret
  exact ⟨zs, zD⟩
 replace c6 := Bool.eq_false_iff.mpr c6
 subst c6
 rw [zj] at H
 obtain rfl := zy H
 go_enter Tryz.func87, Tryz.ntmps87
 go_wp2_with (first | (refine qBY (some 6) Tryz.func99 #[.string a0] ?_; (with_reducible refine (cmp_isNaN_string.calls a0 true _ A3.out).mono ?_); rintro e w' ⟨rfl, ⟨nd, rfl⟩⟩; refine ⟨_, rfl, ?_⟩) | (go_at_call 99; (with_reducible refine (cmp_isNaN_string.calls a1 false _ A5.out).mono ?_); rintro e w' ⟨rfl, ⟨nd, rfl⟩⟩))
 go_ret
 exact ⟨zs, zD⟩
def slices_isNaN_string.f (a0 : ByteArray) : Option (Bool) := some (a0.toList != a0.toList)
theorem slices_isNaN_string.calls (a0 : ByteArray) (r : Bool) (w : World) (h : slices_isNaN_string.f a0 = some r) :
  Calls Tryz.prog 88 #[.string a0] w fun e w' => e = .returned (.bool r) ∧ qB8 w w' := by
 have H : (some (a0.toList != a0.toList)) = some r := h
 clear h
 obtain rfl := zy H
 go_enter Tryz.func88, Tryz.ntmps88
 go_wp2
 go_ret
 exact ⟨zs, zD⟩
def qA5.l0 : Nat → List ByteArray → ByteArray → Int → Int → Int → Option (Int × Bool)
 | 0, _, _, _, _, _ => none
 | k + 1, x0, x1, x6, x7, x8 => if x7 < x8 then (if 0 ≤ (wrap64 ((IntKind.u64.wrap (wrap64 (x7 + x8))) / 2)) then (if (wrap64 ((IntKind.u64.wrap (wrap64 (x7 + x8))) / 2)) < (x0.length : Int) then ((cmp_Less_string.f (rdOf ByteArray.empty x0 (wrap64 ((IntKind.u64.wrap (wrap64 (x7 + x8))) / 2))) x1).bind fun t108 => (if t108 = true then (qA5.l0 k x0 x1 x6 (wrap64 ((wrap64 ((IntKind.u64.wrap (wrap64 (x7 + x8))) / 2)) + 1)) x8) else (qA5.l0 k x0 x1 x6 x7 (wrap64 ((IntKind.u64.wrap (wrap64 (x7 + x8))) / 2))))) else (none)) else (none)) else (if x7 < x6 then (if 0 ≤ x7 then (if x7 < (x0.length : Int) then (if (rdOf ByteArray.empty x0 x7).toList = x1.toList then (some (x7, true)) else ((slices_isNaN_string.f (rdOf ByteArray.empty x0 x7)).bind fun t111 => (if t111 = true then ((slices_isNaN_string.f x1).bind fun t112 => (some (x7, t112))) else (some (x7, false))))) else (none)) else (none)) else (some (x7, false)))
def qA5.f (k : Nat) (l0 : List ByteArray) (a1 : ByteArray) : Option (Int × Bool) := qA5.l0 k l0 a1 (l0.length : Int) 0 (l0.length : Int)
theorem qA5.qBT : ∀ k, (∀ y0 y1 y2 y3 y4, LeO (qA5.l0 k y0 y1 y2 y3 y4) (qA5.l0 (k + 1) y0 y1 y2 y3 y4))
 | 0 => fun _ _ _ _ _ r h => by simp [qA5.l0] at h
 | k + 1 => by
  have ih0 := qA5.qBT k
  ·intro y0 y1 y2 y3 y4
   unfold qA5.l0
   exact zm
theorem qA5.mono : ∀ a0 a1 k, LeO (qA5.f k a0 a1) (qA5.f (k + 1) a0 a1) := by
 intro a0 a1 k
 have ih0 := qA5.qBT k
 unfold qA5.f
 exact zm
theorem qA5.calls (k : Nat) (A0 : Option Addr) (c0 : Nat) (l0 : List ByteArray) (a1 : ByteArray) (r1 : Int) (r2 : Bool) (w : World) (hr0 : Kd.C Kd.string w A0 l0.length l0) (hc0 : l0.length ≤ c0) (h : qA5.f k l0 a1 = some (r1, r2)) :
  Calls Tryz.prog 65 #[.slice A0 l0.length c0, .string a1] w fun e w' => e = .returned (.tuple #[.int .i64 r1, .bool r2]) ∧ qB8 w w' := by
 have HR0 := zq hr0
 have HC0 := zq hc0
 clear hr0 hc0
 have H := h
 unfold qA5.f at H
 clear h
 have H' := zq H
 clear H
 go_enter Tryz.func65, Tryz.ntmps65
 go_wp2
 go_loopg [7, 8] k (fun kq v7 v8 w' => ∃ (x7_1 : Int) (x8_1 : Int), v7 = .int .i64 x7_1 ∧ v8 = .int .i64 x8_1 ∧ qA0 (qA5.l0 kq l0 a1 (l0.length : Int) x7_1 x8_1 = some (r1, r2)) ∧ qA0 (kq ≤ k) ∧ qB8 w w')
 case atStart => exact ⟨(0), ((l0.length : Int)), zs, zs, H', ⟨Nat.le_refl _⟩, by repeat (first | exact qB8.refl _ | apply qB8.step)⟩
 clear H'
 obtain ⟨x7_1, x8_1, rfl, rfl, HA, HK1, ⟨m1, rfl⟩⟩ := hrel
 obtain _ | k1 := gk
 ·exact absurd HA.out (by simp [qA5.l0])
 have H := HA.out
 clear HA
 simp only [qA5.l0] at H
 obtain ⟨-, c3b0, H⟩ | ⟨-, c3b0, H⟩ := y3 H
 ·obtain ⟨ji4, hji4⟩ : ∃ j_ : Int, (wrap64 ((IntKind.u64.wrap (wrap64 (x7_1 + x8_1))) / 2)) = j_ := ⟨_, rfl⟩
  replace H : (if 0 ≤ (ji4) then (if (ji4) < (l0.length : Int) then ((cmp_Less_string.f (rdOf ByteArray.empty l0 (ji4)) a1).bind fun t108 => (if t108 = true then (qA5.l0 k1 l0 a1 (l0.length : Int) (wrap64 ((ji4) + 1)) x8_1) else (qA5.l0 k1 l0 a1 (l0.length : Int) x7_1 ji4))) else (none)) else (none)) = some (r1, r2) := by first | (rw [hji4] at H; exact H) | (simp only [hji4] at H ⊢; exact H)
  have hji4w : (IntKind.i64.wrap ((IntKind.u64.wrap (wrap64 (x7_1 + x8_1))) / 2)) = ji4 := (qCI _).trans hji4
  obtain ⟨-, c5b0, H⟩ := y1 H
  obtain ⟨-, c6b0, H⟩ := y1 H
  replace H := zi H
  obtain ⟨t108, A70, H⟩ := H
  have A7 := zq A70
  clear A70
  by_cases c8 : t108 = true
  ·subst c8
   rw [if_pos rfl] at H
   have H' := zq H
   clear H
   obtain ⟨p107, q107, ad107, e107, hx107_0⟩ := yp (Kd.qET HR0.out (ji4))
   cases e107
   go_wp2_with (((with_reducible refine qCV (f := 87) rfl ?_); refine goesL_ (some 27) rfl rfl Tryz.func87 (by kernel_rfl) rfl #[.string (rdOf ByteArray.empty l0 (ji4)), .string a1] rfl (by (try simp only [List.map_toArray, List.map_cons, List.map_nil]); first | done | (simp only [hji4]; rfl) | rfl | (simp only [List.length_drop, List.length_take]; rfl)) ?_; (with_reducible refine (cmp_Less_string.calls (rdOf ByteArray.empty l0 (ji4)) a1 true _ A7.out).mono ?_); rintro e w' ⟨rfl, ⟨nd, rfl⟩⟩; refine ⟨_, rfl, ?_⟩))
   go_roundg k1
   case measure => have := HK1.out; omega
   case rel => exact ⟨(wrap64 ((ji4) + 1)), (x8_1), (by first | rfl | (simp; done) | (simp only [← hji4] <;> (first | rfl | simp)) | (simp [*]; done)), zs, H', ⟨by have := HK1.out; omega⟩, by repeat (first | exact qB8.refl _ | apply qB8.step)⟩
  replace c8 := Bool.eq_false_iff.mpr c8
  subst c8
  rw [zj] at H
  have H' := zq H
  clear H
  obtain ⟨p107, q107, ad107, e107, hx107_0⟩ := yp (Kd.qET HR0.out (ji4))
  cases e107
  go_wp2_with (((with_reducible refine qCV (f := 87) rfl ?_); refine goesL_ (some 27) rfl rfl Tryz.func87 (by kernel_rfl) rfl #[.string (rdOf ByteArray.empty l0 (ji4)), .string a1] rfl (by (try simp only [List.map_toArray, List.map_cons, List.map_nil]); first | done | (simp only [hji4]; rfl) | rfl | (simp only [List.length_drop, List.length_take]; rfl)) ?_; (with_reducible refine (cmp_Less_string.calls (rdOf ByteArray.empty l0 (ji4)) a1 false _ A7.out).mono ?_); rintro e w' ⟨rfl, ⟨nd, rfl⟩⟩; refine ⟨_, rfl, ?_⟩))
  go_roundg k1
  case measure => have := HK1.out; omega
  case rel => exact ⟨(x7_1), (ji4), zs, (by first | rfl | (simp; done) | (simp only [← hji4] <;> (first | rfl | simp)) | (simp [*]; done)), H', ⟨by have := HK1.out; omega⟩, by repeat (first | exact qB8.refl _ | apply qB8.step)⟩
 obtain ⟨-, c9b0, H⟩ | ⟨-, c9b0, H⟩ := y3 H
 rotate_left
 ·simp only [Option.some.injEq, Prod.mk.injEq] at H
  obtain ⟨rfl, rfl⟩ := H
  go_wp2
  go_ret2
  exact ⟨zs, zD⟩
 obtain ⟨-, c10b0, H⟩ := y1 H
 obtain ⟨-, c11b0, H⟩ := y1 H
 obtain ⟨-, c12b0, c12b1, H⟩ | ⟨c12, c12b0, c12b1, H⟩ := y4 H
 ·simp only [Option.some.injEq, Prod.mk.injEq] at H
  obtain ⟨rfl, rfl⟩ := H
  obtain ⟨p109, q109, ad109, e109, hx109_0⟩ := yp (Kd.qET HR0.out x7_1)
  cases e109
  go_wp2
  go_ret2
  exact ⟨zs, zD⟩
 replace H := zi H
 obtain ⟨t111, A130, H⟩ := H
 have A13 := zq A130
 clear A130
 by_cases c14 : t111 = true
 rotate_left
 ·replace c14 := Bool.eq_false_iff.mpr c14
  subst c14
  rw [zj] at H
  simp only [Option.some.injEq, Prod.mk.injEq] at H
  obtain ⟨rfl, rfl⟩ := H
  obtain ⟨p109, q109, ad109, e109, hx109_0⟩ := yp (Kd.qET HR0.out x7_1)
  cases e109
  obtain ⟨p110, q110, ad110, e110, hx110_0⟩ := yp (Kd.qET HR0.out x7_1)
  obtain rfl : ad109 = ad110 := (by injection e110)
  go_wp2_with ((go_at_call 88; (with_reducible refine (slices_isNaN_string.calls (rdOf ByteArray.empty l0 x7_1) false _ A13.out).mono ?_); rintro e w' ⟨rfl, ⟨nd, rfl⟩⟩))
  go_ret2
  exact ⟨zs, zD⟩
 subst c14
 rw [if_pos rfl] at H
 replace H := zi H
 obtain ⟨t112, A150, H⟩ := H
 have A15 := zq A150
 clear A150
 simp only [Option.some.injEq, Prod.mk.injEq] at H
 obtain ⟨rfl, rfl⟩ := H
 obtain ⟨p109, q109, ad109, e109, hx109_0⟩ := yp (Kd.qET HR0.out x7_1)
 cases e109
 obtain ⟨p110, q110, ad110, e110, hx110_0⟩ := yp (Kd.qET HR0.out x7_1)
 obtain rfl : ad109 = ad110 := (by injection e110)
 go_wp2_with (first | (go_at_call 88; (with_reducible refine (slices_isNaN_string.calls (rdOf ByteArray.empty l0 x7_1) true _ A13.out).mono ?_); rintro e w' ⟨rfl, ⟨nd, rfl⟩⟩) | (go_at_call 88; (with_reducible refine (slices_isNaN_string.calls a1 t112 _ A15.out).mono ?_); rintro e w' ⟨rfl, ⟨nd, rfl⟩⟩))
 go_ret2
 exact ⟨zs, zD⟩
def qCH.l : List ByteArray := [⟨#[97, 99, 116]⟩, ⟨#[97, 110, 100]⟩, ⟨#[97, 114, 116, 105, 99, 108, 101]⟩, ⟨#[97, 116, 45, 109, 111, 115, 116]⟩, ⟨#[97, 116, 116, 114, 105, 98, 117, 116, 101]⟩, ⟨#[98, 97, 115, 101]⟩, ⟨#[98, 101, 108, 111, 119]⟩, ⟨#[98, 111, 111, 108]⟩, ⟨#[99, 111, 117, 110, 116]⟩, ⟨#[100, 97, 116, 101]⟩, ⟨#[100, 97, 121, 115]⟩, ⟨#[100, 111, 119, 110]⟩, ⟨#[101, 108, 115, 101]⟩, ⟨#[101, 110, 97, 99, 116, 101, 100]⟩, ⟨#[101, 113, 117, 97, 108, 115]⟩, ⟨#[102, 97, 108, 115, 101]⟩, ⟨#[102, 114, 111, 109]⟩, ⟨#[103, 105, 118, 101, 115]⟩, ⟨#[103, 114, 101, 97, 116, 101, 115, 116]⟩, ⟨#[104, 97, 108, 102]⟩, ⟨#[104, 97, 108, 102, 45, 111, 117, 116]⟩, ⟨#[104, 97, 108, 102, 45, 116, 119, 111]⟩, ⟨#[105, 102]⟩, ⟨#[105, 110, 112, 117, 116]⟩, ⟨#[105, 115]⟩, ⟨#[108, 101, 97, 115, 116]⟩, ⟨#[108, 101, 118, 101, 108]⟩, ⟨#[109, 105, 110, 117, 115]⟩, ⟨#[109, 111, 110, 101, 121]⟩, ⟨#[110, 111, 116]⟩, ⟨#[110, 117, 109, 98, 101, 114]⟩, ⟨#[111, 102]⟩, ⟨#[111, 114]⟩, ⟨#[111, 118, 101, 114]⟩, ⟨#[112, 108, 117, 115]⟩, ⟨#[114, 111, 117, 110, 100]⟩, ⟨#[115, 99, 97, 108, 101]⟩, ⟨#[115, 104, 97, 114, 101]⟩, ⟨#[115, 108, 105, 99, 101, 115]⟩, ⟨#[116, 97, 98, 108, 101]⟩, ⟨#[116, 104, 101, 110]⟩, ⟨#[116, 105, 109, 101, 115]⟩, ⟨#[116, 111]⟩, ⟨#[116, 111, 116, 97, 108]⟩, ⟨#[116, 114, 117, 101]⟩, ⟨#[117, 112]⟩, ⟨#[119, 101, 105, 103, 104, 116]⟩, ⟨#[119, 104, 101, 110]⟩, ⟨#[121, 101, 97, 114, 115]⟩]
def qCH.f : Option (List ByteArray) := some qCH.l
theorem qCH.reps (w : World) (base : Nat) (ok : Nat → Prop) : ∀ l : List ByteArray, Reps (Kd.M Kd.string w base ok) 1 l (l.map Value.string)
 | [] => Reps.none _ _
 | p :: l => Reps.one (show Kd.M Kd.string w base ok p [.string p] from rfl) (qCH.reps w base ok l)
theorem qCH.calls  (r : List ByteArray) (w : World) (h : qCH.f  = some r) :
  Calls Tryz.prog 66 #[] w fun e w' => ∃ v0_ : Value, e = .returned (v0_) ∧ Kd.R Kd.string 9 w' w.heap.size (fun _ => True) v0_ r ∧ Below w.heap.size w w' := by
 have HB := zq (Below.refl w.heap.size w)
 have H := h
 unfold qCH.f at H
 clear h
 obtain ⟨y113, hy_⟩ : ∃ y_ : List ByteArray, y_ = qCH.l := ⟨_, rfl⟩
 replace H : (some y113) = some r := zr
 have Ny113 := zq hy_
 clear hy_
 obtain rfl := zy H
 go_enter Tryz.func66, Tryz.ntmps66
 go_wp2_with (((with_reducible refine qAS (N := 1) rfl ?_); refine Kd.qFV Kd.string _ 9 ?hg (N := 1) ?hd (xs := qCH.l) (inner := qCH.l.map Value.string) (ok := fun _ => True) (okp := fun _ => True) ?hr ?hp (fun _ hk => hk) trivial (Below.refl _ _) (Nat.le_refl _) (by unfold qCH.l; simp) ?_; (case hd => rfl); (case hg => rfl); (case hr => go_simp; exact ⟨rfl, rfl⟩); (case hp => exact qCH.reps _ _ _ _); intro v114 w1 ho2 hb hg_ hnew_; clear hg_ hnew_; (first | rw [← Ny113.out] at ho2 | (simp only [Int.reduceToNat] at ho2; rw [← Ny113.out] at ho2)); have HO115 := zq (Kd.qC3 ho2 (qAH zb)); replace HB := zB hb; clear hb ho2))
 go_ret
 exact ⟨_, zf, by (with_reducible repeat refine sR ?_); exact HO115.out, zb⟩
mutual
def qB4.j0 : Nat → ByteArray → Bool → Option (Bool)
 | 0, _, _ => none
 | k + 1, x0, x18 => if x18 = true then (some false) else (qB4.l0 k x0 (x0.size : Int) 0)
def qB4.l0 : Nat → ByteArray → Int → Int → Option (Bool)
 | 0, _, _, _ => none
 | k + 1, x0, x20, x21 => if x21 < x20 then (if 0 ≤ x21 then (if x21 < (x0.size : Int) then ((qDR.f (bt x0 x21)).bind fun t117 => (if t117 = true then (qB4.l0 k x0 x20 (wrap64 (x21 + 1))) else (some false))) else (none)) else (none)) else ((qCH.f).bind fun t118 => ((qA5.f k t118 x0).bind fun bt121 => (some (!bt121.2))))
end
def qB4.f (k : Nat) (a0 : ByteArray) : Option (Bool) := if a0.toList = ([] : List UInt8) then (qB4.j0 k a0 true) else (if (a0.size : Int) > 20 then (qB4.j0 k a0 true) else (if 0 < (a0.size : Int) then ((qCF.f (bt a0 0)).bind fun t116 => (qB4.j0 k a0 (!t116))) else (none)))
theorem qB4.calls (k : Nat) (a0 : ByteArray) (r : Bool) (w : World) (h : qB4.f k a0 = some r) :
  Calls Tryz.prog 45 #[.string a0] w fun e w' => e = .returned (.bool r) ∧ Below w.heap.size w w' := by
 have HB := zq (Below.refl w.heap.size w)
 have H := h
 unfold qB4.f at H
 clear h
 have HC2 := zq H
 clear H
 go_enter Tryz.func45, Tryz.ntmps45
 go_upto_region 1 with (fail)
 go_cut [18] (fun v18 wc => ∃ (kq : Nat) (x18_1 : Bool), v18 = .bool x18_1 ∧ qA0 (qB4.j0 kq a0 x18_1 = some r) ∧ qA0 (kq ≤ k) ∧ qA0 (Below w.heap.size w wc))
 case first =>
  have H := HC2.out
  clear HC2
  obtain ⟨-, c3b0, c3b1, H⟩ | ⟨c3, c3b0, c3b1, H⟩ := y4 H
  ·(first | rw [c3b0] | (simp only [qCI, qCO]; rw [c3b0]) | skip)
   have H' := zq H
   clear H
   go_wp2
   go_meet
   case rel => exact ⟨_, (true), zs, H', ⟨by first | omega | exact Nat.le_refl _⟩, ⟨zb⟩⟩
  (first | rw [c3b0] | (simp only [qCI, qCO]; rw [c3b0]) | skip)
  obtain ⟨c4, c4b0, H⟩ | ⟨c4, c4b0, H⟩ := y3 H
  ·have c4b1 : decide (20 < a0.size) = true := decide_eq_true (by omega)
   clear c4
   have H' := zq H
   clear H
   go_wp2
   go_meet
   case rel => exact ⟨_, (true), zs, H', ⟨by first | omega | exact Nat.le_refl _⟩, ⟨zb⟩⟩
  have c4b1 : decide (20 < a0.size) = false := decide_eq_false (by omega)
  clear c4
  obtain ⟨c5, c5b0, H⟩ := y1 H
  have c5b1 : decide (0 < a0.size) = true := decide_eq_true (by omega)
  clear c5
  replace H := zi H
  obtain ⟨t116, A70, H⟩ := H
  have A7 := zq A70
  clear A70
  have H' := zq H
  clear H
  have p6 : 0 ≤ (0 : Int) := (by omega)
  have q6 : 0 < a0.size := (by have : (0 : Int) < (a0.size : Int) := zd; omega)
  have hx6 : ∀ h : 0 < a0.size, ((a0[0]'h).toNat : Int) = bt a0 0 := bt_at a0 0
  clear p6
  have qi6 : (0 < (a0.size : Int)) = True := eq_true (zd)
  replace q6 := eq_true q6
  go_wp2_with ((go_at_call 63; (with_reducible refine (qCF.calls (bt a0 0) t116 _ A7.out).mono ?_); rintro e w' ⟨rfl, ⟨nd, rfl⟩⟩))
  go_meet
  case rel => exact ⟨_, (!t116), zs, H', ⟨by first | omega | exact Nat.le_refl _⟩, ⟨zb⟩⟩
 clear HC2
 obtain ⟨kq, x18_1, rfl, HA, HJ1, HB⟩ := hcut
 obtain _ | kj1 := kq
 ·exact absurd HA.out (by simp [qB4.j0])
 have H := HA.out
 clear HA
 simp only [qB4.j0] at H
 by_cases c8 : x18_1 = true
 ·subst c8
  rw [if_pos rfl] at H
  obtain rfl := zy H
  go_wp2
  go_ret
  exact ⟨zf, zb⟩
 replace c8 := Bool.eq_false_iff.mpr c8
 subst c8
 rw [zj] at H
 have H' := zq H
 clear H
 go_wp2
 go_loopg [21] kj1 (fun kq v21 w' => ∃ (x21_2 : Int), v21 = .int .i64 x21_2 ∧ qA0 (qB4.l0 kq a0 (a0.size : Int) x21_2 = some r) ∧ qA0 (kq ≤ kj1) ∧ qA0 (Below w.heap.size w w'))
 case atStart => exact ⟨(0), zs, H', ⟨Nat.le_refl _⟩, ⟨zb⟩⟩
 clear H'
 obtain ⟨x21_2, rfl, HA, HK2, HB⟩ := hrel
 obtain _ | k2 := gk
 ·exact absurd HA.out (by simp [qB4.l0])
 have H := HA.out
 clear HA
 simp only [qB4.l0] at H
 obtain ⟨-, c9b0, H⟩ | ⟨-, c9b0, H⟩ := y3 H
 rotate_left
 ·replace H := zi H
  obtain ⟨t118, A150, H⟩ := H
  have A15 := zq A150
  clear A150
  replace H := zi H
  obtain ⟨⟨t121, t122⟩, A160, H⟩ := H
  replace H : (some (!t122)) = some r := H
  have A16 := zq A160
  clear A160
  obtain rfl := zy H
  go_wp2_with (first | (refine qBY (some 31) Tryz.func66 #[] ?_; (with_reducible refine (qCH.calls  t118 _ A15.out).mono ?_); rintro e w17 ⟨v119, rfl, ho0, hb⟩; refine ⟨_, rfl, ?_⟩; have HO120 := zq (Kd.qC3 ho0 (qAH zb)); replace HB := zB hb; (try clear hb hk); (try clear hb); (try clear ho0); obtain ⟨Ao18, co18, eo18⟩ := Kd.qBX HO120.out; subst eo18) | (refine qBY (some 33) Tryz.func65 #[.slice Ao18 t118.length co18, .string a0] ?_; (with_reducible refine (qA5.calls k2 _ _ t118 a0 t121 t122 _ ?side1 ?side2 A16.out).mono ?_); (case side1 => repeat (first | exact (Kd.qAR HO120.out).2.2 | refine sC ?_)); (case side2 => exact (Kd.qAR HO120.out).2.1); rintro e w' ⟨rfl, ⟨nd, rfl⟩⟩; refine ⟨_, rfl, ?_⟩))
  go_ret
  exact ⟨zf, zb⟩
 obtain ⟨-, c10b0, H⟩ := y1 H
 obtain ⟨-, c11b0, H⟩ := y1 H
 replace H := zi H
 obtain ⟨t117, A130, H⟩ := H
 have A13 := zq A130
 clear A130
 by_cases c14 : t117 = true
 rotate_left
 ·replace c14 := Bool.eq_false_iff.mpr c14
  subst c14
  rw [zj] at H
  obtain rfl := zy H
  have p12 : 0 ≤ (x21_2 : Int) := zd
  have q12 : x21_2 < (a0.size : Int) := zd
  have hx12 := bt_at a0 x21_2
  replace p12 := eq_true p12
  replace q12 := eq_true q12
  go_wp2_with ((refine qBY (some 27) Tryz.func64 #[.int .u8 (bt a0 x21_2)] ?_; (with_reducible refine (qDR.calls (bt a0 x21_2) false _ A13.out).mono ?_); rintro e w' ⟨rfl, ⟨nd, rfl⟩⟩; refine ⟨_, rfl, ?_⟩))
  go_ret
  exact ⟨zf, zb⟩
 subst c14
 rw [if_pos rfl] at H
 have H' := zq H
 clear H
 have p12 : 0 ≤ (x21_2 : Int) := zd
 have q12 : x21_2 < (a0.size : Int) := zd
 have hx12 := bt_at a0 x21_2
 replace p12 := eq_true p12
 replace q12 := eq_true q12
 go_wp2_with ((refine qBY (some 27) Tryz.func64 #[.int .u8 (bt a0 x21_2)] ?_; (with_reducible refine (qDR.calls (bt a0 x21_2) true _ A13.out).mono ?_); rintro e w' ⟨rfl, ⟨nd, rfl⟩⟩; refine ⟨_, rfl, ?_⟩))
 go_roundg k2
 case measure => have := HJ1.out; have := HK2.out; omega
 case rel => exact ⟨(wrap64 (x21_2 + 1)), zs, H', ⟨by have := HJ1.out; have := HK2.out; omega⟩, ⟨zb⟩⟩
theorem less_ev (a b : ByteArray) : cmp_Less_string.f a b = some (Op.bytesLess a.toList b.toList) := by
 simp [cmp_Less_string.f, cmp_isNaN_string.f]
theorem half_w {i j : Nat} (h : i + j ≤ 1000000) : wrap64 ((IntKind.u64.wrap (wrap64 ((i : Int) + (j : Int)))) / 2) = (((i + j) / 2 : Nat) : Int) := by
 have e : wrap64 ((i : Int) + (j : Int)) = ((i + j : Nat) : Int) := by unfold wrap64; omega
 rw [e]
 have e2 : IntKind.u64.wrap ((i + j : Nat) : Int) = ((i + j : Nat) : Int) := IntWalk.u64_in _ (by omega)
 rw [e2]
 unfold wrap64
 omega
theorem bs_ev (keys : List ByteArray) (x : ByteArray) (hl : keys.length ≤ 1000) : ∀ (d i j : Nat), i ≤ j → j ≤ keys.length → j - i ≤ d → ∃ r, ∀ k, d < k → qA5.l0 k keys x (keys.length : Int) (i : Int) (j : Int) = some r := by
 intro d
 induction d with
 | zero =>
  intro i j h1 h2 h3
  obtain rfl : i = j := by omega
  by_cases h4 : i < keys.length
  rotate_left
  ·refine ⟨((i : Int), false), fun k hk => ?_⟩
   obtain ⟨k, rfl⟩ : ∃ m, k = m + 1 := ⟨k - 1, by omega⟩
   simp only [qA5.l0]
   rw [if_neg (by omega), if_neg (by omega)]
  by_cases h5 : (rdOf ByteArray.empty keys (i : Int)).toList = x.toList
  ·refine ⟨((i : Int), true), fun k hk => ?_⟩
   obtain ⟨k, rfl⟩ : ∃ m, k = m + 1 := ⟨k - 1, by omega⟩
   simp only [qA5.l0]
   rw [if_neg (by omega), if_pos (by omega), if_pos (by omega), if_pos (by omega), if_pos h5]
  refine ⟨((i : Int), false), fun k hk => ?_⟩
  obtain ⟨k, rfl⟩ : ∃ m, k = m + 1 := ⟨k - 1, by omega⟩
  simp only [qA5.l0]
  rw [if_neg (by omega), if_pos (by omega), if_pos (by omega), if_pos (by omega), if_neg h5]
  simp [slices_isNaN_string.f]
 | succ d ih =>
  intro i j h1 h2 h3
  by_cases h4 : i < j
  rotate_left
  ·obtain ⟨r, hr⟩ := ih i j h1 h2 (by omega)
   exact ⟨r, fun k hk => hr k (by omega)⟩
  have hw := half_w (i := i) (j := j) (by omega)
  have hm1 : i ≤ (i + j) / 2 := by omega
  have hm2 : (i + j) / 2 < j := by omega
  by_cases h5 : Op.bytesLess (rdOf ByteArray.empty keys (((i + j) / 2 : Nat) : Int)).toList x.toList = true
  rotate_left
  ·obtain ⟨r, hr⟩ := ih i ((i + j) / 2) (by omega) (by omega) (by omega)
   refine ⟨r, fun k hk => ?_⟩
   obtain ⟨k, rfl⟩ : ∃ m, k = m + 1 := ⟨k - 1, by omega⟩
   simp only [qA5.l0]
   rw [if_pos (by omega), hw, if_pos (by omega), if_pos (by omega), less_ev, Option.bind_some, if_neg h5]
   exact hr k (by omega)
  obtain ⟨r, hr⟩ := ih ((i + j) / 2 + 1) j (by omega) h2 (by omega)
  refine ⟨r, fun k hk => ?_⟩
  obtain ⟨k, rfl⟩ : ∃ m, k = m + 1 := ⟨k - 1, by omega⟩
  simp only [qA5.l0]
  rw [if_pos (by omega), hw, if_pos (by omega), if_pos (by omega), less_ev, Option.bind_some, if_pos h5]
  rw [show wrap64 ((((i + j) / 2 : Nat) : Int) + 1) = (((i + j) / 2 + 1 : Nat) : Int) from by unfold wrap64; omega]
  exact hr k (by omega)
theorem inner_ev (c : Int) : ∃ b, qDR.f c = some b := by
 unfold qDR.f qCF.f qEA.f
 by_cases h1 : c ≥ 97 <;> by_cases h2 : c ≥ 48 <;> by_cases h3 : c ≤ 122 <;> by_cases h4 : c ≤ 57 <;> simp [h1, h2, h3, h4]
theorem name_l (s : ByteArray) (hs : s.size ≤ 20) : ∀ (d i : Nat), i ≤ s.size → s.size - i ≤ d → ∃ r, ∀ k, d + 60 < k → qB4.l0 k s (s.size : Int) (i : Int) = some r := by
 intro d
 induction d with
 | zero =>
  intro i h1 h2
  obtain rfl : i = s.size := by omega
  have hk : qCH.f = some ((qCH.f).getD []) := rfl
  have hl : ((qCH.f).getD []).length = 49 := rfl
  generalize (qCH.f).getD [] = keys at hk hl
  obtain ⟨r, hr⟩ := bs_ev keys s (by omega) 49 0 keys.length (by omega) (by omega) (by omega)
  refine ⟨!r.2, fun k hk' => ?_⟩
  obtain ⟨k, rfl⟩ : ∃ m, k = m + 1 := ⟨k - 1, by omega⟩
  simp only [qB4.l0]
  rw [if_neg (by omega), hk, Option.bind_some]
  unfold qA5.f
  have := hr k (by omega)
  simp only [Int.natCast_zero] at this
  rw [this, Option.bind_some]
 | succ d ih =>
  intro i h1 h2
  by_cases h3 : i < s.size
  rotate_left
  ·obtain ⟨r, hr⟩ := ih i h1 (by omega)
   exact ⟨r, fun k hk => hr k (by omega)⟩
  obtain ⟨b, hb⟩ := inner_ev (bt s (i : Int))
  cases b
  ·refine ⟨false, fun k hk => ?_⟩
   obtain ⟨k, rfl⟩ : ∃ m, k = m + 1 := ⟨k - 1, by omega⟩
   simp only [qB4.l0]
   rw [if_pos (by omega), if_pos (by omega), if_pos (by omega), hb]
   rfl
  ·obtain ⟨r, hr⟩ := ih (i + 1) (by omega) (by omega)
   refine ⟨r, fun k hk => ?_⟩
   obtain ⟨k, rfl⟩ : ∃ m, k = m + 1 := ⟨k - 1, by omega⟩
   simp only [qB4.l0]
   rw [if_pos (by omega), if_pos (by omega), if_pos (by omega), hb, Option.bind_some, if_pos rfl]
   rw [show wrap64 ((i : Int) + 1) = ((i + 1 : Nat) : Int) from by unfold wrap64; omega]
   exact hr k (by omega)
def nameB (s : ByteArray) : Bool := (qB4.f 200 s).getD false
theorem name_some (s : ByteArray) : ∃ r, qB4.f 200 s = some r := by
 by_cases h1 : s.toList = []
 ·refine ⟨false, ?_⟩
  unfold qB4.f
  rw [if_pos h1]
  rfl
 by_cases h2 : (s.size : Int) > 20
 ·refine ⟨false, ?_⟩
  unfold qB4.f
  rw [if_neg h1, if_pos h2]
  rfl
 have h3 : 0 < (s.size : Int) := by
  rcases Nat.eq_zero_or_pos s.size with e | e
  ·exfalso
   apply h1
   have e2 : s = ⟨#[]⟩ := by
    cases s with
    | mk d => have : d.size = 0 := e; rw [Array.size_eq_zero_iff] at this; rw [this]
   rw [e2]; simp [ByteArray.toList, ByteArray.toList.loop, ByteArray.size]
  ·omega
 obtain ⟨r, hr⟩ := name_l s (by omega) s.size 0 (by omega) (by omega)
 by_cases h4 : qCF.f (bt s 0) = some true
 ·refine ⟨r, ?_⟩
  unfold qB4.f
  rw [if_neg h1, if_neg h2, if_pos h3, h4, Option.bind_some]
  simp only [qB4.j0, Bool.not_true]
  rw [if_neg (by decide)]
  exact hr _ (by omega)
 refine ⟨false, ?_⟩
 have h5 : qCF.f (bt s 0) = some false := by
  unfold qCF.f at h4 ⊢
  by_cases h6 : bt s 0 ≥ 97
  rotate_left
  ·rw [if_neg h6]
  rw [if_pos h6] at h4 ⊢
  by_cases h7 : bt s 0 ≤ 122
  rotate_left
  ·simp [h7]
  exact absurd (by simp [h7]) h4
 unfold qB4.f
 rw [if_neg h1, if_neg h2, if_pos h3, h5]
 rfl
theorem name_ev (s : ByteArray) : qB4.f 200 s = some (nameB s) := by
 obtain ⟨r, h⟩ := name_some s
 unfold nameB
 rw [h]
 rfl
theorem nameB_size {s : ByteArray} (h : nameB s = true) : s.size ≤ 20 := by
 have hk := name_ev s
 rw [h] at hk
 rcases Nat.lt_or_ge 20 s.size with hs | hs
 ·exfalso
  have hj : qB4.j0 200 s true = some true := by
   unfold qB4.f at hk
   by_cases h1 : s.toList = []
   rotate_left
   ·rwa [if_neg h1, if_pos (by omega)] at hk
   rwa [if_pos h1] at hk
  simp [qB4.j0] at hj
 ·exact hs
structure Names (w : World) (b : Nat) (L : List ByteArray) : Prop where
 own : ∃ n D, n ≤ L.length ∧ w.ownsMap (H := Unit) Tryz.prog 9 (plainElem Tryz.prog 4) b n D ∧ ∀ s : ByteArray, D.atKey (.string s.data.toList) (.lit (.bool false)) = .lit (.bool (decide (s ∈ L)))
theorem keyed9 : Maps.Keyed Tryz.prog 9 := Maps.string_keyed Tryz.underlying9
theorem bool_of {v : Value} {x : Bool} {ps : List MemPlace} (h : plainElem (H := Unit) Tryz.prog 4 v = some (.lit (.bool x), ps)) : v = .bool x := by
 unfold plainElem at h
 rw [Tryz.underlying4] at h
 cases v <;> simp at h
 rw [h.1]
theorem Names.look {w : World} {b : Nat} {L : List ByteArray} (h : Names w b L) {s : ByteArray} (hs : s.size ≤ maxLen) : (Instr.lookup 51 (.map (some b)) (.string s) false).run Tryz.prog w = .ok (.bool (decide (s ∈ L))) w := by
 obtain ⟨n, D, _, own, at_⟩ := h.own
 obtain ⟨v, ps, hrun, hR⟩ := own.lookup keyed9 Tryz.underlying51 (z := .bool false) (Tryz.zeroValue4 w) (zd := .lit (.bool false)) (zp := []) (plainElem_bool Tryz.underlying4 false) (WideMaps.keyOf_string_mk Tryz.underlying9 hs)
 rw [at_] at hR
 rw [hrun, bool_of hR]
theorem str_inj {s t : ByteArray} (h : s.data.toList = t.data.toList) : s = t := by
 cases s; cases t
 simp at h
 rw [h]
theorem Names.put {w : World} {b : Nat} {L : List ByteArray} (h : Names w b L) (hl : L.length < maxLen) {s : ByteArray} (hs : s.size ≤ maxLen) :
  ∃ w2, (Instr.mapUpdate 51 (.map (some b)) (.string s) (.bool true)).run Tryz.prog w = .ok () w2 ∧ Names w2 b (s :: L) ∧ w.grownBy w2 (some b) := by
 obtain ⟨n, D, hn, own, at_⟩ := h.own
 obtain ⟨w2, hrun, ho, hg⟩ := own.update keyed9 Tryz.underlying51 (Nat.lt_of_le_of_lt hn hl) (WideMaps.keyOf_string_mk Tryz.underlying9 hs) (val := .bool true) (d := .lit (.bool true)) (ps := []) (plainElem_bool Tryz.underlying4 true)
 refine ⟨w2, hrun, ⟨n + 1, _, by simp; omega, ho, fun t => ?_⟩, hg⟩
 by_cases e : t = s
 ·subst e
  rw [Maps.atKey_put_same own.isMap (show WideAt.IsKeyLit (.string t.data.toList) from trivial)]
  simp
 ·rw [Maps.atKey_put_other (fun e' => e (str_inj (by injection e'))), at_]
  simp [e]
theorem Names.lt {w : World} {b : Nat} {L : List ByteArray} (h : Names w b L) : b < w.heap.size := by
 obtain ⟨n, D, _, own, _⟩ := h.own
 exact own.lt
theorem Names.kept {w w' : World} {b : Nat} {L : List ByteArray} {row : Option Nat} (h : Names w b L) (hg : w.grownBy w' row) (hne : some b ≠ row) : Names w' b L := by
 obtain ⟨n, D, hn, own, at_⟩ := h.own
 exact ⟨n, D, hn, own.kept hg hne, at_⟩
theorem Names.below {w w' : World} {b : Nat} {L : List ByteArray} (h : Names w b L) (hB : Below w.heap.size w w') : Names w' b L := h.kept (row := none) (qAN hB none) (by simp)
theorem Names.made (w : World) : Names (w.alloc (.map #[] 0)) w.heap.size [] := ⟨0, _, Nat.le_refl _, World.ownsMap_made w _ _ _, fun s => rfl⟩
def addR (L : List ByteArray) (s : ByteArray) : Int := if nameB s = true then (if s ∈ L then 5 else 0) else 15
theorem names_add.walk (b : Nat) (L : List ByteArray) (s : ByteArray) (w : World) (hN : Names w b L) (hl : L.length < maxLen) :
  Calls Tryz.prog 15 #[.map (some b), .string s] w fun e w' => e = .returned (.int .i64 (addR L s)) ∧ Names w' b (if addR L s = 0 then s :: L else L) ∧ w.grownBy w' (some b) := by
 have hk := name_ev s
 have HN := zq hN
 have HL := zq hl
 clear hN hl
 cases hn : nameB s with
 | false =>
  have ha : addR L s = 15 := by unfold addR; rw [hn]; rfl
  rw [ha]
  rw [hn] at hk
  have HK := zq hk
  clear hk hn ha
  go_enter Tryz.func15, Tryz.ntmps15
  go_wp2_with fail
  refine (qB4.calls 200 s false _ HK.out).mono ?_
  rintro e w1 ⟨rfl, hb⟩
  have HB := zq hb
  clear hb
  go_wp2_with fail
  go_ret
  exact ⟨rfl, by simpa using HN.out.below HB.out, qAN HB.out _⟩
 | true =>
  have hs := nameB_size hn
  rw [hn] at hk
  have HK := zq hk
  by_cases hm : s ∈ L
  ·have ha : addR L s = 5 := by unfold addR; rw [hn, if_pos rfl, if_pos hm]
   rw [ha]
   have HM := zq hm
   clear hk hn ha hm
   go_enter Tryz.func15, Tryz.ntmps15
   go_wp2_with fail
   refine (qB4.calls 200 s true _ HK.out).mono ?_
   rintro e w1 ⟨rfl, hb⟩
   have HB := zq hb
   have hlk := (HN.out.below hb).look (s := s) (by simp only [maxLen]; omega)
   rw [decide_eq_true HM.out] at hlk
   clear hb
   go_wp2_with fail
   go_ret
   exact ⟨rfl, by simpa using HN.out.below HB.out, qAN HB.out _⟩
  have ha : addR L s = 0 := by unfold addR; rw [hn, if_pos rfl, if_neg hm]
  rw [ha]
  have HM := zq hm
  clear hk hn ha hm
  go_enter Tryz.func15, Tryz.ntmps15
  go_wp2_with fail
  refine (qB4.calls 200 s true _ HK.out).mono ?_
  rintro e w1 ⟨rfl, hb⟩
  have HB := zq hb
  have hN1 := HN.out.below hb
  have hlk := hN1.look (s := s) (by simp only [maxLen]; omega)
  rw [decide_eq_false HM.out] at hlk
  obtain ⟨w2, hup, hN2, hg2⟩ := hN1.put HL.out (s := s) (by simp only [maxLen]; omega)
  have HN2 := zq hN2
  have HG2 := zq ((qAN hb (some b)).trans hg2)
  clear hb hN1 hN2 hg2
  go_wp2_with fail
  go_ret
  exact ⟨rfl, HN2.out, HG2.out⟩
def qCS.f (a0 : Int) : Option (Int × Int) := if a0 = 1 then (some (0, 1)) else (if a0 = 2 then (some ((-1099511627776), 1099511627776)) else (if a0 = 3 then (some ((-1048576), 1048576)) else (if a0 = 4 then (some (0, 1048575)) else (if a0 = 5 then (some ((-1048576), 1048576)) else (if a0 = 6 then (some ((-1000000000), 1000000000)) else (some (0, 0)))))))
theorem qCS.calls (a0 : Int) (r1 : Int) (r2 : Int) (w : World) (h : qCS.f a0 = some (r1, r2)) :
  Calls Tryz.prog 62 #[.int .i64 a0] w fun e w' => e = .returned (.tuple #[.int .i64 r1, .int .i64 r2]) ∧ qB8 w w' := by
 have H := h
 unfold qCS.f at H
 clear h
 obtain ⟨-, c2b0, c2b1, H⟩ | ⟨c2, c2b0, c2b1, H⟩ := y4 H
 ·simp only [Option.some.injEq, Prod.mk.injEq] at H
  obtain ⟨rfl, rfl⟩ := H
  go_enter Tryz.func62, Tryz.ntmps62
  go_wp2
  go_ret2
  exact ⟨zs, zD⟩
 obtain ⟨-, c3b0, c3b1, H⟩ | ⟨c3, c3b0, c3b1, H⟩ := y4 H
 ·simp only [Option.some.injEq, Prod.mk.injEq] at H
  obtain ⟨rfl, rfl⟩ := H
  go_enter Tryz.func62, Tryz.ntmps62
  go_wp2
  go_ret2
  exact ⟨zs, zD⟩
 obtain ⟨-, c4b0, c4b1, H⟩ | ⟨c4, c4b0, c4b1, H⟩ := y4 H
 ·simp only [Option.some.injEq, Prod.mk.injEq] at H
  obtain ⟨rfl, rfl⟩ := H
  go_enter Tryz.func62, Tryz.ntmps62
  go_wp2
  go_ret2
  exact ⟨zs, zD⟩
 obtain ⟨-, c5b0, c5b1, H⟩ | ⟨c5, c5b0, c5b1, H⟩ := y4 H
 ·simp only [Option.some.injEq, Prod.mk.injEq] at H
  obtain ⟨rfl, rfl⟩ := H
  go_enter Tryz.func62, Tryz.ntmps62
  go_wp2
  go_ret2
  exact ⟨zs, zD⟩
 obtain ⟨-, c6b0, c6b1, H⟩ | ⟨c6, c6b0, c6b1, H⟩ := y4 H
 ·simp only [Option.some.injEq, Prod.mk.injEq] at H
  obtain ⟨rfl, rfl⟩ := H
  go_enter Tryz.func62, Tryz.ntmps62
  go_wp2
  go_ret2
  exact ⟨zs, zD⟩
 obtain ⟨-, c7b0, c7b1, H⟩ | ⟨c7, c7b0, c7b1, H⟩ := y4 H
 rotate_left
 ·simp only [Option.some.injEq, Prod.mk.injEq] at H
  obtain ⟨rfl, rfl⟩ := H
  go_enter Tryz.func62, Tryz.ntmps62
  go_wp2
  go_ret2
  exact ⟨zs, zD⟩
 simp only [Option.some.injEq, Prod.mk.injEq] at H
 obtain ⟨rfl, rfl⟩ := H
 go_enter Tryz.func62, Tryz.ntmps62
 go_wp2
 go_ret2
 exact ⟨zs, zD⟩
def qE0.f (a0 : Int) : Option (Bool) := if a0 ≥ 0 then (some (decide (a0 ≤ 6))) else (some false)
theorem qE0.calls (a0 : Int) (r : Bool) (w : World) (h : qE0.f a0 = some r) :
  Calls Tryz.prog 85 #[.int .i64 a0] w fun e w' => e = .returned (.bool r) ∧ qB8 w w' := by
 have H := h
 unfold qE0.f at H
 clear h
 obtain ⟨-, c2b0, H⟩ | ⟨-, c2b0, H⟩ := y3 H
 rotate_left
 ·obtain rfl := zy H
  go_enter Tryz.func85, Tryz.ntmps85
  go_wp2
  go_ret
  exact ⟨zs, zD⟩
 obtain rfl := zy H
 go_enter Tryz.func85, Tryz.ntmps85
 go_wp2
 go_ret
 exact ⟨zs, zD⟩
def qCM.f (a0_0 : Int) (a0_1 : Int) : Option (Int) := (qCS.f a0_0).bind fun bt124 => ((qE0.f a0_0).bind fun t126 => (if t126 = true then (if a0_1 < bt124.1 then (some 2) else (if a0_1 > bt124.2 then (some 2) else (some 0))) else (some 8)))
theorem qCM.calls (a0_0 : Int) (a0_1 : Int) (r : Int) (w : World) (h : qCM.f a0_0 a0_1 = some r) :
  Calls Tryz.prog 59 #[.agg #[.int .i64 a0_0, .int .i64 a0_1]] w fun e w' => e = .returned (.int .i64 r) ∧ Below w.heap.size w w' := by
 have hu69 := Tryz.underlying69
 have HB := zq (Below.refl w.heap.size w)
 have H := h
 unfold qCM.f at H
 clear h
 replace H := zi H
 obtain ⟨⟨t124, t125⟩, A20, H⟩ := H
 dsimp only at H
 have A2 := zq A20
 clear A20
 replace H := zi H
 obtain ⟨t126, A30, H⟩ := H
 have A3 := zq A30
 clear A30
 by_cases c4 : t126 = true
 rotate_left
 ·replace c4 := Bool.eq_false_iff.mpr c4
  subst c4
  rw [zj] at H
  obtain rfl := zy H
  go_enter Tryz.func59, Tryz.ntmps59
  go_wp2_with (first | (refine boxY 1 #[.int .i64 a0_0, .int .i64 a0_1] 69 ?_; intro gb123 hg w13 BK123 hb; have GW123 := zg w gb123; replace HB := zB hb; clear hb hg; have hcz14 := bc2 BK123.out) | (refine qBY (some 8) Tryz.func62 #[.int .i64 a0_0] ?_; (with_reducible refine (qCS.calls a0_0 t124 t125 _ A2.out).mono ?_); rintro e w' ⟨rfl, ⟨nd, rfl⟩⟩; refine ⟨_, rfl, ?_⟩) | (refine qBY (some 14) Tryz.func85 #[.int .i64 a0_0] ?_; (with_reducible refine (qE0.calls a0_0 false _ A3.out).mono ?_); rintro e w' ⟨rfl, ⟨nd, rfl⟩⟩; refine ⟨_, rfl, ?_⟩))
  go_ret
  exact ⟨zf, zb⟩
 subst c4
 rw [if_pos rfl] at H
 obtain ⟨-, c5b0, H⟩ | ⟨-, c5b0, H⟩ := y3 H
 ·obtain rfl := zy H
  go_enter Tryz.func59, Tryz.ntmps59
  go_wp2_with (first | (refine boxY 1 #[.int .i64 a0_0, .int .i64 a0_1] 69 ?_; intro gb123 hg w6 BK123 hb; have GW123 := zg w gb123; replace HB := zB hb; clear hb hg; have hcz7 := bc2 BK123.out) | (refine qBY (some 8) Tryz.func62 #[.int .i64 a0_0] ?_; (with_reducible refine (qCS.calls a0_0 t124 t125 _ A2.out).mono ?_); rintro e w' ⟨rfl, ⟨nd, rfl⟩⟩; refine ⟨_, rfl, ?_⟩) | (refine qBY (some 14) Tryz.func85 #[.int .i64 a0_0] ?_; (with_reducible refine (qE0.calls a0_0 true _ A3.out).mono ?_); rintro e w' ⟨rfl, ⟨nd, rfl⟩⟩; refine ⟨_, rfl, ?_⟩))
  go_ret
  exact ⟨zf, zb⟩
 obtain ⟨-, c8b0, H⟩ | ⟨-, c8b0, H⟩ := y3 H
 rotate_left
 ·obtain rfl := zy H
  go_enter Tryz.func59, Tryz.ntmps59
  go_wp2_with (first | (refine boxY 1 #[.int .i64 a0_0, .int .i64 a0_1] 69 ?_; intro gb123 hg w11 BK123 hb; have GW123 := zg w gb123; replace HB := zB hb; clear hb hg; have hcz12 := bc2 BK123.out) | (refine qBY (some 8) Tryz.func62 #[.int .i64 a0_0] ?_; (with_reducible refine (qCS.calls a0_0 t124 t125 _ A2.out).mono ?_); rintro e w' ⟨rfl, ⟨nd, rfl⟩⟩; refine ⟨_, rfl, ?_⟩) | (refine qBY (some 14) Tryz.func85 #[.int .i64 a0_0] ?_; (with_reducible refine (qE0.calls a0_0 true _ A3.out).mono ?_); rintro e w' ⟨rfl, ⟨nd, rfl⟩⟩; refine ⟨_, rfl, ?_⟩))
  go_ret
  exact ⟨zf, zb⟩
 obtain rfl := zy H
 go_enter Tryz.func59, Tryz.ntmps59
 go_wp2_with (first | (refine boxY 1 #[.int .i64 a0_0, .int .i64 a0_1] 69 ?_; intro gb123 hg w9 BK123 hb; have GW123 := zg w gb123; replace HB := zB hb; clear hb hg; have hcz10 := bc2 BK123.out) | (refine qBY (some 8) Tryz.func62 #[.int .i64 a0_0] ?_; (with_reducible refine (qCS.calls a0_0 t124 t125 _ A2.out).mono ?_); rintro e w' ⟨rfl, ⟨nd, rfl⟩⟩; refine ⟨_, rfl, ?_⟩) | (refine qBY (some 14) Tryz.func85 #[.int .i64 a0_0] ?_; (with_reducible refine (qE0.calls a0_0 true _ A3.out).mono ?_); rintro e w' ⟨rfl, ⟨nd, rfl⟩⟩; refine ⟨_, rfl, ?_⟩))
 go_ret
 exact ⟨zf, zb⟩
theorem eqA69 (d : Nat) (w : World) (x0 y0 : Int) (x1 y1 : Int) :
  (Op.equalIn (d + 2) 69 (.agg #[.int .i64 x0, .int .i64 x1]) (.agg #[.int .i64 y0, .int .i64 y1])).run Tryz.prog w = .ok (x0 == y0 && (x1 == y1)) w := by
 refine eqA_of Tryz.underlying69 (by kernel_rfl) ?_
 refine eqf_cons (by rfl) (by go_simp; rfl) (by go_simp; rfl) (by go_simp) ?_
 exact eqf_last (by rfl) (by go_simp; rfl) (by go_simp; rfl) (by go_simp)
theorem eqA59 (d : Nat) (w : World) (x0 y0 : ByteArray) (x1 y1 : ByteArray) :
  (Op.equalIn (d + 2) 59 (.agg #[.string x0, .string x1]) (.agg #[.string y0, .string y1])).run Tryz.prog w = .ok (x0.toList == y0.toList && (x1.toList == y1.toList)) w := by
 refine eqA_of Tryz.underlying59 (by kernel_rfl) ?_
 refine eqf_cons (by rfl) (by go_simp; rfl) (by go_simp; rfl) (by go_simp) ?_
 exact eqf_last (by rfl) (by go_simp; rfl) (by go_simp; rfl) (by go_simp)
end
end Go.Proofs.YtfnejdbjekkadaaGreat.PRatePuts
end
