/- A part of the proof of RateFinds: texts that were printed, words, walks. No condition. -/
import Derived.Test.YtnliaialemfcaaaC0
import Derived.Test.YtnliaialemfcaaaProg
import Derived.BigQuiet
import Derived.Laws.StructEq
import Derived.Below
import Derived.Deep.Draws
import Derived.Deep.AppendLies
import Derived.Maps.AppendAt
import Derived.OwnWalk
import Derived.Laws.BytesArg
import Derived.Laws.MakeOwn
import Derived.Laws.OwnMore
import Derived.Deep.OwnRows
import Derived.Tactics
import Derived.Lib.ConvBytes
import Derived.Laws.Slices
import Derived.WalkKit
import Derived.KernelRfl
import Derived.RowKit3
import Derived.Deep.LoopGhost
import Derived.Deep.QuietTactic
import Derived.WideLaws
import Derived.Deep.DeepCutAuto
import Derived.Deep.CutBlock
import Derived.Deep.RegionHeld3
import Derived.Laws.Rows
import Derived.Lib.AppendStr
import Derived.ArgAppend
import Derived.Laws.IdiomCopy
import Derived.OrdersHeld
import Derived.Laws.BitsLemmas
import Derived.RowKit
import Derived.Maps.OwnOps
import Derived.Maps.RangeWalk
set_option linter.unusedVariables false
set_option linter.unusedSimpArgs false
section
namespace Go.Proofs.YtnliaialemfcaaaW.PrintWords
open Go.RowKit Go.Proofs.YtnliaialemfcaaaW.PrintLast
class Gr (w : outParam World) (W : World) : Prop where
 b : Below w.heap.size w W
instance (w : World) (o : Obj) : Gr w (w.alloc o) := ⟨qAG (Below.refl _ _) o⟩
instance (w : World) : Gr w w.drew := ⟨qBO (Below.refl _ _)⟩
instance (w : World) (n : Nat) : Gr w (w.drewN n) := ⟨qA8 (Below.refl _ _) n⟩
theorem st {w W : World} [h : Gr w W] {g : Nat} {o : Obj} (hh : w.heap[g]? = some o) : W.heap[g]? = some o := qA5 hh h.b
theorem sR {α : Type} {d : Kd α} {e : Nat} {w W : World} [h : Gr w W] {base : Nat} {ok : Nat → Prop} {v : Value} {xs : List α} (hh : d.R e w base ok v xs) : d.R e W base ok v xs := Kd.qBC hh h.b
theorem sC {α : Type} {d : Kd α} {w W : World} [h : Gr w W] {A : Option Addr} {n : Nat} {xs : List α} (hh : d.C w A n xs) : d.C W A n xs := Kd.qAQ hh h.b
theorem zb {base : Nat} {w W : World} (h : Below base w W := by repeat (first | (with_reducible first | exact HB.out | apply qAG | apply qA8 | apply qBO | refine qDN ?_ (qA0.out (by assumption))) | exact HB.out)) : Below base w W := h
theorem zk {W W' : World} {g : Nat} {o : Obj} (h : qA0 (W.heap[g]? = some o)) (t : W.heap[g]? = some o → W'.heap[g]? = some o := by intro h_; (with_reducible repeat (first | refine qDU ?_ _ | refine qBX ?_ | refine qD3 ?_ _)); exact h_) : W'.heap[g]? = some o := t h.out
theorem zR {α : Type} {d : Kd α} {e : Nat} {w W : World} {base : Nat} {ok : Nat → Prop} {v : Value} {xs : List α} (h : qA0 (d.R e w base ok v xs)) (t : d.R e w base ok v xs → d.R e W base ok v xs := by intro h_; (with_reducible repeat (first | apply Kd.qDG | apply Kd.qDF | apply Kd.qDJ)); exact h_) : qA0 (d.R e W base ok v xs) := ⟨t h.out⟩
theorem zs {α : Type} {a b : α} (h : a = b := by first | rfl | (simp; done) | (simp [*]; done)) : a = b := h
theorem ze {α : Type} [BEq α] [LawfulBEq α] {a b : α} (h : a = b) : (a == b) = true ∧ (a != b) = false := ⟨beq_iff_eq.mpr h, bne_eq_false_iff_eq.mpr h⟩
theorem zn {α : Type} [BEq α] [LawfulBEq α] {a b : α} (h : ¬ a = b) : (a == b) = false ∧ (a != b) = true := ⟨beq_eq_false_iff_ne.mpr h, bne_iff_ne.mpr h⟩
theorem zf {P : Prop} (h : P := by first | rfl | (simp [qBU, qBT] <;> rfl) | (simp [*, qBU, qBT] <;> rfl)) : P := h
theorem zm {α : Type} {a b : Option α} (h : LeO a b := by repeat' (first | (with_reducible first | apply ih0 | apply ih1 | apply ih2 | apply ih3 | apply ih4 | apply ih5 | apply ih6 | apply ih7 | apply im0 | apply im1 | apply im2 | apply im3 | apply im4 | apply im5 | apply im6 | apply im7 | exact LeO.refl _ | exact LeO.none _ | refine LeO.ite ?_ ?_ | refine LeO.bind ?_ (fun _ => ?_)) | (first | apply ih0 | apply ih1 | apply ih2 | apply ih3 | apply ih4 | apply ih5 | apply ih6 | apply ih7 | apply im0 | apply im1 | apply im2 | apply im3 | apply im4 | apply im5 | apply im6 | apply im7 | exact LeO.none _ | refine LeO.ite ?_ ?_ | refine LeO.bind ?_ (fun _ => ?_)))) : LeO a b := h
theorem sS {α : Type} {d : Kd α} {e : Nat} {w W : World} [h : Gr w W] {base : Nat} {ok : Nat → Prop} {v : Value} {xs : List α} (hh : d.S e w base ok v xs) : d.S e W base ok v xs := Kd.qDO hh h.b
theorem zf_ {w W : World} {g : Nat} {t : TypeId} {cs : Array Value} {p : Addr} {u : Value} (h : w.heap[g]? = some (.cells cs t (0, 0))) (hp : qA0 (g ≠ p.block)) (c : (w.setCell p u).heap[g]? = some (.cells cs t (0, 0)) → W.heap[g]? = some (.cells cs t (0, 0)) := by intro h_; (with_reducible repeat (first | refine qDU ?_ _ | refine qBX ?_ | refine qD3 ?_ _)); exact h_) : W.heap[g]? = some (.cells cs t (0, 0)) := c (qF9 h hp.out u)
theorem zp_ {w W : World} {g : Nat} {t : TypeId} {cs cs' : Array Value} {u : Value} (h : w.heap[g]? = some (.cells cs t (0, 0))) (i : Nat) (c : (w.setCell ⟨g, i, none⟩ u).heap[g]? = some (.cells cs' t (0, 0)) → W.heap[g]? = some (.cells cs' t (0, 0)) := by intro h_; (with_reducible repeat (first | refine qDU ?_ _ | refine qBX ?_ | refine qD3 ?_ _)); exact h_) (e : cs.setIfInBounds i u = cs' := by exact rfl) : W.heap[g]? = some (.cells cs' t (0, 0)) := c (qAJ h i u e)
theorem zr {p : Prop} (h : p := by first | (rw [hy_]; with_reducible exact H) | (have H2_ := (Option.bind_some _ _).symm.trans H; rw [hy_]; with_reducible exact H2_) | (have H2_ := (Option.bind_some _ _).symm.trans H; with_reducible exact H2_) | with_reducible exact H | (rw [hy_]; exact H) | exact H) : p := h
def bs (n m : Nat) : Array Bool := ((List.range n).map fun i => m.testBit i).toArray
theorem zd {p : Prop} [Decidable p] (h : decide p = true := by first | (with_reducible assumption) | assumption) : p := of_decide_eq_true h
theorem zh {w W W' : World} {a : Addr} {v : Value} (h : w.cell? a = some v) (hb : qA0 (Below w.heap.size w W) := by exact HB) (e : W.cell? a = some v → W'.cell? a = some v := by exact id) : W'.cell? a = some v := e ((hb.out.cell (World.block_lt_of_cell? w _ h)).trans h)
theorem zg (w : World) (g : Nat) (h : w.heap.size ≤ g := by rw [hg]; exact qAM zb) : qA0 (w.heap.size ≤ g) := ⟨h⟩
theorem zl {W : World} {g : Nat} {o : Obj} (h : qA0 (W.heap[g]? = some o)) (g' : Nat) (e : qA0 (W.heap[g]? = some o) → g ≠ g' := by intro h_; rw [hg]; exact Nat.ne_of_lt (qD0 (zk h_))) : qA0 (g ≠ g') := ⟨e h⟩
theorem zu {W : World} {g : Nat} {o : Obj} (h : qA0 (W.heap[g]? = some o)) (g' : Nat) (e : qA0 (W.heap[g]? = some o) → g' ≠ g := by intro h_; rw [hg]; exact Nat.ne_of_gt (qD0 (zk h_))) : qA0 (g' ≠ g) := ⟨e h⟩
section
variable {P : Program} {ops : Array Oper} {Q : Exit → Act → World → Prop}
theorem qC2 {rest : List Oper} {oi : Oper} {a : Act} {w : World} (N : Option Tmp) {f : FuncId} {fn : Func} {aa : Array Operand} {ts : Array TypeId} (hf : P.funcs[f]? = some fn) (args : Array Value)
  (h : Calls P f args w fun e w' => ∃ v, e = .returned v ∧ wpList P ops Q rest (a.put N v) w')
  (hd : oi.dst = N := by exact rfl) (hg : oi.guard = none := by exact rfl) (hname : (fn.name == "runtime.NumGoroutine") = false := by kernel_rfl) (hb : fn.body.isSome = true := by exact rfl) (hop : oi.op = .call { callee := .value (.func f), args := aa, argTypes := ts } := by exact rfl)
  (hargs : aa.map a.eval = args := by (try simp only [List.map_toArray, List.map_cons, List.map_nil]); first | done | rfl | (simp only [List.length_drop, List.length_take]; rfl)) : wpList P ops Q (oi :: rest) a w :=
 goesL_ N hd hg hf hname hb args hop hargs h
end
section
variable {P : Program} {md : Region.Mode} {ops : Array Oper} {Q : Exit → Act → World → Prop} {S : World → Prop} {ds : List Nat}
theorem qBP {i : Nat} {N : Option Tmp} {oi : Oper} {v : Value} {fuel : Nat} {l : Array Bool} {a a' : Act} {w : World} (l' : Array Bool) (h : qBL P md ops Q S ds fuel l' a' w)
  (hi : ops[i]? = some oi := by exact rfl) (hN : oi.dst = N := by exact rfl) (hc : anyB md ops l l' i = true := by exact any_of HT_.out (by kernel_rfl))
  (hQ : ∀ c a w, Q (.panic c) (a.put oi.dst v) w → Q (.panic c) a w := by exact fun _ _ _ h => h) (hy : Yields P ops oi v a := by refine Or.inl ⟨by rfl, ?_⟩; intro w'; go_simp; with_reducible rfl)
  (ha : a.put N v = a' := by simp only [Act.put, List.setIfInBounds_toArray, List.set_cons_zero, List.set_cons_succ, qCE, qCJ]; rfl) : qBL P md ops Q S ds (fuel + 1) l a w := pure_ l' hi hN hc hQ hy ha h
theorem qF1 {fuel : Nat} {l : Array Bool} {a a' : Act} {w : World} (h : qBL P md ops Q S ds fuel l a' w) (ha : a = a' := by show Act.put _ (some _) _ = _; simp only [Act.put, List.setIfInBounds_toArray, List.set_cons_zero, List.set_cons_succ, qCE, qCJ]; rfl) : qBL P md ops Q S ds fuel l a w := norm_ ha h
theorem qE7 {i : Nat} {N : Option Tmp} {oi : Oper} {v : Value} {fuel : Nat} {l : Array Bool} {a a' : Act} {w : World} (l' : Array Bool) (h : qBL P md ops Q S ds fuel l' a' w)
  (hi : ops[i]? = some oi := by exact rfl) (hN : oi.dst = N := by exact rfl) (hc : takeB md ops ds l l' i = true := by exact take_ofW HT_.out HW_.out (by kernel_rfl))
  (hQ : ∀ c a w, Q (.panic c) (a.put oi.dst v) w → Q (.panic c) a w := by exact fun _ _ _ h => h) (hy : YieldsIf P ops S oi v a := by refine Or.inl ⟨by rfl, ?_⟩; intro w' hs_; (try obtain ⟨s0, hs_⟩ := hs_); (try obtain ⟨s1, hs_⟩ := hs_); (try obtain ⟨s2, hs_⟩ := hs_); (try obtain ⟨s3, hs_⟩ := hs_); (try obtain ⟨s4, hs_⟩ := hs_); go_simp; with_reducible rfl)
  (hS : S w := by exact hHeld)
  (ha : a.put N v = a' := by simp only [Act.put, List.setIfInBounds_toArray, List.set_cons_zero, List.set_cons_succ, qCE, qCJ]; rfl) : qBL P md ops Q S ds (fuel + 1) l a w := take_ l' hi hN hc hQ hy hS ha h
end
theorem bc2 {w : World} {g : Nat} {t : TypeId} {a0 a1 : Value} (h : w.heap[g]? = some (.cells #[a0, a1] t (0, 0))) : w.cell? ⟨g, 0, none⟩ = some a0 ∧ w.cell? ⟨g, 1, none⟩ = some a1 ∧ w.frozen? ⟨g, 0, none⟩ = false ∧ w.frozen? ⟨g, 1, none⟩ = false := ⟨(qA4 h 0).trans rfl, (qA4 h 1).trans rfl, qB9 h 0, qB9 h 1⟩
theorem bc4 {w : World} {g : Nat} {t : TypeId} {a0 a1 a2 a3 : Value} (h : w.heap[g]? = some (.cells #[a0, a1, a2, a3] t (0, 0))) : w.cell? ⟨g, 0, none⟩ = some a0 ∧ w.cell? ⟨g, 1, none⟩ = some a1 ∧ w.cell? ⟨g, 2, none⟩ = some a2 ∧ w.cell? ⟨g, 3, none⟩ = some a3 ∧ w.frozen? ⟨g, 0, none⟩ = false ∧ w.frozen? ⟨g, 1, none⟩ = false ∧ w.frozen? ⟨g, 2, none⟩ = false ∧ w.frozen? ⟨g, 3, none⟩ = false := ⟨(qA4 h 0).trans rfl, (qA4 h 1).trans rfl, (qA4 h 2).trans rfl, (qA4 h 3).trans rfl, qB9 h 0, qB9 h 1, qB9 h 2, qB9 h 3⟩
theorem bc5 {w : World} {g : Nat} {t : TypeId} {a0 a1 a2 a3 a4 : Value} (h : w.heap[g]? = some (.cells #[a0, a1, a2, a3, a4] t (0, 0))) : w.cell? ⟨g, 0, none⟩ = some a0 ∧ w.cell? ⟨g, 1, none⟩ = some a1 ∧ w.cell? ⟨g, 2, none⟩ = some a2 ∧ w.cell? ⟨g, 3, none⟩ = some a3 ∧ w.cell? ⟨g, 4, none⟩ = some a4 ∧ w.frozen? ⟨g, 0, none⟩ = false ∧ w.frozen? ⟨g, 1, none⟩ = false ∧ w.frozen? ⟨g, 2, none⟩ = false ∧ w.frozen? ⟨g, 3, none⟩ = false ∧ w.frozen? ⟨g, 4, none⟩ = false := ⟨(qA4 h 0).trans rfl, (qA4 h 1).trans rfl, (qA4 h 2).trans rfl, (qA4 h 3).trans rfl, (qA4 h 4).trans rfl, qB9 h 0, qB9 h 1, qB9 h 2, qB9 h 3, qB9 h 4⟩
theorem bc6 {w : World} {g : Nat} {t : TypeId} {a0 a1 a2 a3 a4 a5 : Value} (h : w.heap[g]? = some (.cells #[a0, a1, a2, a3, a4, a5] t (0, 0))) : w.cell? ⟨g, 0, none⟩ = some a0 ∧ w.cell? ⟨g, 1, none⟩ = some a1 ∧ w.cell? ⟨g, 2, none⟩ = some a2 ∧ w.cell? ⟨g, 3, none⟩ = some a3 ∧ w.cell? ⟨g, 4, none⟩ = some a4 ∧ w.cell? ⟨g, 5, none⟩ = some a5 ∧ w.frozen? ⟨g, 0, none⟩ = false ∧ w.frozen? ⟨g, 1, none⟩ = false ∧ w.frozen? ⟨g, 2, none⟩ = false ∧ w.frozen? ⟨g, 3, none⟩ = false ∧ w.frozen? ⟨g, 4, none⟩ = false ∧ w.frozen? ⟨g, 5, none⟩ = false := ⟨(qA4 h 0).trans rfl, (qA4 h 1).trans rfl, (qA4 h 2).trans rfl, (qA4 h 3).trans rfl, (qA4 h 4).trans rfl, (qA4 h 5).trans rfl, qB9 h 0, qB9 h 1, qB9 h 2, qB9 h 3, qB9 h 4, qB9 h 5⟩
theorem bc7 {w : World} {g : Nat} {t : TypeId} {a0 a1 a2 a3 a4 a5 a6 : Value} (h : w.heap[g]? = some (.cells #[a0, a1, a2, a3, a4, a5, a6] t (0, 0))) : w.cell? ⟨g, 0, none⟩ = some a0 ∧ w.cell? ⟨g, 1, none⟩ = some a1 ∧ w.cell? ⟨g, 2, none⟩ = some a2 ∧ w.cell? ⟨g, 3, none⟩ = some a3 ∧ w.cell? ⟨g, 4, none⟩ = some a4 ∧ w.cell? ⟨g, 5, none⟩ = some a5 ∧ w.cell? ⟨g, 6, none⟩ = some a6 ∧ w.frozen? ⟨g, 0, none⟩ = false ∧ w.frozen? ⟨g, 1, none⟩ = false ∧ w.frozen? ⟨g, 2, none⟩ = false ∧ w.frozen? ⟨g, 3, none⟩ = false ∧ w.frozen? ⟨g, 4, none⟩ = false ∧ w.frozen? ⟨g, 5, none⟩ = false ∧ w.frozen? ⟨g, 6, none⟩ = false := ⟨(qA4 h 0).trans rfl, (qA4 h 1).trans rfl, (qA4 h 2).trans rfl, (qA4 h 3).trans rfl, (qA4 h 4).trans rfl, (qA4 h 5).trans rfl, (qA4 h 6).trans rfl, qB9 h 0, qB9 h 1, qB9 h 2, qB9 h 3, qB9 h 4, qB9 h 5, qB9 h 6⟩
end Go.Proofs.YtnliaialemfcaaaW.PrintWords
end
section
namespace Go.Proofs.Ytnliaialemfcaaa.Gen
open Go.RowKit Go.Proofs.YtnliaialemfcaaaW.PrintWords
noncomputable def lim {α : Type} (F : Nat → Option α) : Option α := open Classical in if h : ∃ r, ∃ k, F k = some r then some h.choose else none
theorem lim_some {α : Type} {F : Nat → Option α} {r : α} (h : lim F = some r) : ∃ k, F k = some r := by
 unfold lim at h
 split at h
 ·rename_i g
  obtain rfl := Option.some.inj h
  exact g.choose_spec
 ·cases h
theorem mono_le {α : Type} {F : Nat → Option α} (hm : ∀ k, LeO (F k) (F (k + 1))) {r : α} {k : Nat} (h : F k = some r) : ∀ d, F (k + d) = some r
 | 0 => h
 | d + 1 => hm (k + d) r (mono_le hm h d)
theorem lim_eq {α : Type} {F : Nat → Option α} (hm : ∀ k, LeO (F k) (F (k + 1))) {r : α} {k : Nat} (h : F k = some r) : lim F = some r := by
 have g : ∃ r, ∃ k, F k = some r := ⟨r, k, h⟩
 unfold lim
 rw [dif_pos g]
 obtain ⟨k', h'⟩ := g.choose_spec
 have h1 := mono_le hm h k'
 have h2 := mono_le hm h' k
 rw [Nat.add_comm] at h2
 rw [h1] at h2
 exact h2.symm
theorem flat_len {α β : Type} (f : α → List β) (s : Nat) (hs : ∀ x, (f x).length = s) : ∀ l : List α, (l.flatMap f).length = l.length * s
 | [] => by simp
 | x :: r => by rw [List.flatMap_cons, List.length_append, hs, flat_len f s hs r, List.length_cons, Nat.add_mul, Nat.one_mul, Nat.add_comm]
theorem flat_drop {α β : Type} (f : α → List β) (s : Nat) (hs : ∀ x, (f x).length = s) : ∀ (l : List α) (j : Nat), (l.flatMap f).drop (j * s) = (l.drop j).flatMap f
 | l, 0 => by simp
 | [], j + 1 => by simp
 | x :: r, j + 1 => by
  have e : (j + 1) * s = (f x).length + j * s := by rw [hs, Nat.add_mul, Nat.one_mul, Nat.add_comm]
  rw [List.drop_succ_cons, ← flat_drop f s hs r j, e, List.flatMap_cons, List.drop_append, List.drop_of_length_le (by omega), List.nil_append, Nat.add_sub_cancel_left]
theorem flat_take {α β : Type} (f : α → List β) (s : Nat) (hs : ∀ x, (f x).length = s) {l : List α} {j : Nat} {p : α} (h : l[j]? = some p) : ((l.flatMap f).drop (j * s)).take s = f p := by
 rw [flat_drop f s hs]
 have hj : j < l.length := by
  rcases Nat.lt_or_ge j l.length with h' | h'
  ·exact h'
  ·rw [List.getElem?_eq_none h'] at h; cases h
 rw [List.drop_eq_getElem_cons hj, List.flatMap_cons, List.take_append_of_le_length (by rw [hs]; exact Nat.le_refl _), List.take_of_length_le (by rw [hs]; exact Nat.le_refl _)]
 rw [List.getElem?_eq_getElem hj] at h
 rw [Option.some.inj h]
theorem flat_reps {α : Type} (R : α → List Value → Prop) (f : α → List Value) (s : Nat) (hs : ∀ x, (f x).length = s) (l : List α) (hR : ∀ p, R p (f p)) : Reps R s l (l.flatMap f) :=
 ⟨flat_len f s hs l, fun j p hj => by rw [flat_take f s hs hj]; exact hR p⟩
theorem flat_get {α β : Type} (f : α → List β) (s : Nat) (h0 : 0 < s) (hs : ∀ x, (f x).length = s) {l : List α} {q : Nat} {u : β} (h : (l.flatMap f)[q]? = some u) : ∃ p, l[q / s]? = some p ∧ (f p)[q % s]? = some u := by
 have hq : q < (l.flatMap f).length := by
  rcases Nat.lt_or_ge q (l.flatMap f).length with h' | h'
  ·exact h'
  ·rw [List.getElem?_eq_none h'] at h; cases h
 rw [flat_len f s hs] at hq
 have hj : q / s < l.length := by rw [Nat.div_lt_iff_lt_mul h0]; exact hq
 refine ⟨_, List.getElem?_eq_getElem hj, ?_⟩
 rw [← flat_take f s hs (List.getElem?_eq_getElem hj), List.getElem?_take_of_lt (Nat.mod_lt _ h0), List.getElem?_drop, Nat.mul_comm, Nat.div_add_mod]
 exact h
theorem flat_cells {α : Type} {R : α → List Value → Prop} {w : World} {ad : Addr} {n : Nat} {l : List α} (f : α → List Value) (s : Nat) (h0 : 0 < s) (hs : ∀ x, (f x).length = s) (hf : ∀ p c, R p c → c = f p) (h : qDC R s w (some ad) n l) : ∀ q u, (l.flatMap f)[q]? = some u → w.cell? (ad.add q) = some u := fun q u hu => by
 obtain ⟨p, hp, hu'⟩ := flat_get f s h0 hs hu
 have hn : 0 < n := by
  rw [← h.1]
  rcases Nat.lt_or_ge (q / s) l.length with h' | h'
  ·exact Nat.lt_of_le_of_lt (Nat.zero_le _) h'
  ·rw [List.getElem?_eq_none h'] at hp; cases hp
 obtain ⟨ad', e, hc⟩ := h.2.2 hn
 obtain rfl := Option.some.inj e
 obtain ⟨c, _, hR, hcell⟩ := hc _ _ hp
 rw [hf _ _ hR] at hcell
 have := hcell _ _ hu'
 rwa [Nat.mul_comm, Nat.div_add_mod] at this
instance decBA : DecidableEq ByteArray := fun a b => if h : a.data = b.data then isTrue (by cases a; cases b; simp at h; rw [h]) else isFalse (fun e => h (by rw [e]))
instance decMemBA (s : ByteArray) (L : List ByteArray) : Decidable (s ∈ L) := @List.instDecidableMemOfLawfulBEq ByteArray instBEqOfDecidableEq _ s L
theorem qBH {w : World} {g : Nat} {o : Obj} (h : w.heap[g]? = some o) : g < w.heap.size := by
 rcases Nat.lt_or_ge g w.heap.size with h' | h'
 ·exact h'
 ·rw [Array.getElem?_eq_none h'] at h; cases h
theorem qDZ {i n : Nat} (h : i < n) (hn : n ≤ 9223372036854775807) : IntKind.i64.wrap ((i : Int) + 1) = ((i + 1 : Nat) : Int) := by rw [IntKind.wrap_i64]; omega
end Go.Proofs.Ytnliaialemfcaaa.Gen
end
section
namespace Go.Proofs.YtnliaialemfcaaaW.PrintLast
section
variable {P : Program} {ops : Array Oper} {Q : Exit → Act → World → Prop} {md : Region.Mode} {S : World → Prop} {ds : List Nat} {T : Bool × List (List Nat × List Nat)}
end
end Go.Proofs.YtnliaialemfcaaaW.PrintLast
end
section
namespace Go.Proofs.YtnliaialemfcaaaW.PrintWords
open Go.RowKit
namespace Kd
section
variable {α : Type} {d : Kd α} {W : World} {g n : Nat} {S ok : Nat → Prop} {A : Option Addr} {ad : Addr} {xs : List α}
end
end Kd
end Go.Proofs.YtnliaialemfcaaaW.PrintWords
end
section
namespace Go.Proofs.YtnliaialemfcaaaW.PrintWords
open Go.RowKit
section
variable {w w' u : World} {m B g : Nat} {o : Obj} {row : Option Nat} {S : Nat → Prop} {a : Addr} {v : Value}
end
namespace Kd
section
variable {α : Type} {d : Kd α} {e base n m : Nat} {ok : Nat → Prop} {w w' : World} {v : Value} {A : Option Addr} {xs : List α}
end
end Kd
end Go.Proofs.YtnliaialemfcaaaW.PrintWords
end
section
namespace Go.Proofs.YtnliaialemfcaaaW.PrintWords
open Go.RowKit
section
variable {P : Program} {d : Nat} {xs ys : Array Value} {f : Field} {fs : List Field} {a b : Value} {r s : Bool} {w : World}
theorem eqf_last (hn : (f.name == "_") = false) (ha : (part f.type xs f.offset).run P w = .ok a w) (hb : (part f.type ys f.offset).run P w = .ok b w) (he : (Op.equalIn d f.type a b).run P w = .ok r w) : (Op.eqFields d xs ys [f]).run P w = .ok r w := by
 have hn' : f.name ≠ "_" := by simpa using hn
 simp only [Op.eqFields, if_pos hn', Sem.run_bind, ha, hb, he, Result.andThen_ok]
 cases r <;> simp
theorem eqf_cons (hn : (f.name == "_") = false) (ha : (part f.type xs f.offset).run P w = .ok a w) (hb : (part f.type ys f.offset).run P w = .ok b w) (he : (Op.equalIn d f.type a b).run P w = .ok r w) (hr : (Op.eqFields d xs ys fs).run P w = .ok s w) : (Op.eqFields d xs ys (f :: fs)).run P w = .ok (r && s) w := by
 have hn' : f.name ≠ "_" := by simpa using hn
 rw [Op.eqFields]
 simp only [if_pos hn', Sem.run_bind, ha, hb, he, Result.andThen_ok]
 cases r
 ·simp
 ·simpa using hr
theorem eqA_of {t : TypeId} {fs : Array Field} (hu : P.underlying t = some (.struct fs)) (hp : P.stoodInHeld t = false) (h : (Op.eqFields d xs ys fs.toList).run P w = .ok r w) : (Op.equalIn (d + 1) t (.agg xs) (.agg ys)).run P w = .ok r w := by
 have hf : P.fieldsOf t = fs := by simp [Program.fieldsOf, hu]
 rw [run_equalIn_struct (P := P) w d t xs ys (by rw [hf]; exact hu) hp, hf]
 exact h
end
end Go.Proofs.YtnliaialemfcaaaW.PrintWords
end
section
namespace Go.Proofs.YtnliaialemfcaaaW.PrintWords
theorem Reps.one {α : Type} {R : α → List Value → Prop} {ps : List α} {cs : List Value} {p : α} {v : Value} (hp : R p [v]) (h : Reps R 1 ps cs) : Reps R 1 (p :: ps) (v :: cs) := by
 refine ⟨by simp [h.1], fun j q hq => ?_⟩
 cases j with
 | zero =>
  simp only [List.getElem?_cons_zero, Option.some.injEq] at hq
  subst hq
  simpa using hp
 | succ j =>
  simp only [List.getElem?_cons_succ] at hq
  have h1 := h.2 j q hq
  simpa [Nat.mul_one] using h1
theorem Reps.front {α : Type} {R : α → List Value → Prop} {size : Nat} {ps : List α} {cs c all : List Value} {p : α} (hp : R p c) (hc : c.length = size) (h : Reps R size ps cs) (ha : c ++ cs = all) : Reps R size (p :: ps) all := by
 subst ha
 refine ⟨by rw [List.length_append, hc, h.1, List.length_cons, Nat.succ_mul, Nat.add_comm], fun j q hq => ?_⟩
 cases j with
 | zero =>
  simp only [List.getElem?_cons_zero, Option.some.injEq] at hq
  subst hq
  rw [Nat.zero_mul, List.drop_zero, List.take_append_of_le_length (by omega), List.take_of_length_le (by omega)]
  exact hp
 | succ j =>
  simp only [List.getElem?_cons_succ] at hq
  have h1 := h.2 j q hq
  rw [Nat.succ_mul, List.drop_append, List.drop_of_length_le (by rw [hc]; exact Nat.le_add_left _ _), List.nil_append, hc, Nat.add_sub_cancel]
  exact h1
theorem Reps.c4 {α : Type} {R : α → List Value → Prop} {ps : List α} {cs : List Value} {p : α} {va vb vc vd : Value} (hp : R p [va, vb, vc, vd]) (h : Reps R 4 ps cs) : Reps R 4 (p :: ps) (va :: vb :: vc :: vd :: cs) := Reps.front hp rfl h rfl
theorem Reps.c5 {α : Type} {R : α → List Value → Prop} {ps : List α} {cs : List Value} {p : α} {va vb vc vd ve : Value} (hp : R p [va, vb, vc, vd, ve]) (h : Reps R 5 ps cs) : Reps R 5 (p :: ps) (va :: vb :: vc :: vd :: ve :: cs) := Reps.front hp rfl h rfl
theorem Reps.c6 {α : Type} {R : α → List Value → Prop} {ps : List α} {cs : List Value} {p : α} {va vb vc vd ve vf : Value} (hp : R p [va, vb, vc, vd, ve, vf]) (h : Reps R 6 ps cs) : Reps R 6 (p :: ps) (va :: vb :: vc :: vd :: ve :: vf :: cs) := Reps.front hp rfl h rfl
theorem Reps.c7 {α : Type} {R : α → List Value → Prop} {ps : List α} {cs : List Value} {p : α} {va vb vc vd ve vf vg : Value} (hp : R p [va, vb, vc, vd, ve, vf, vg]) (h : Reps R 7 ps cs) : Reps R 7 (p :: ps) (va :: vb :: vc :: vd :: ve :: vf :: vg :: cs) := Reps.front hp rfl h rfl
end Go.Proofs.YtnliaialemfcaaaW.PrintWords
end
section
namespace Go.Proofs.YtnliaialemfcaaaW.PrintLast
section
variable {P : Program} {ops : Array Oper} {Q : Exit → Act → World → Prop} {md : Region.Mode} {T : Bool × List (List Nat × List Nat)} {B : List Nat} {O : List Nat} {b : Nat → Bool} {i j n : Nat}
end
end Go.Proofs.YtnliaialemfcaaaW.PrintLast
end
section
namespace Go.Proofs.YtnliaialemfcaaaW.PrintWords
open Go.RowKit
end Go.Proofs.YtnliaialemfcaaaW.PrintWords
namespace Go.Proofs.YtnliaialemfcaaaW.PrintLast
section
variable {ops : Array Oper} {a : Act} {o og : Oper} {g : Nat} {t : Tmp} {u : Bool}
end
end Go.Proofs.YtnliaialemfcaaaW.PrintLast
end
section
namespace Go.Proofs.YtnliaialemfcaaaW.PrintWords
open Go.RowKit
section
variable {P : Program} {ops : Array Oper} {rest : List Oper} {o : Oper} {a : Act} {Q : Exit → Act → World → Prop} {W : World}
theorem qC5 (hw : Region.wanted o (yielded ops a.tmps) = true) (h : wpList P ops Q ({ o with guard := none } :: rest) a W) : wpList P ops Q (o :: rest) a W := by
 have h1 : Region.wanted { o with guard := none } (yielded ops a.tmps) = true := rfl
 unfold wpList at h ⊢
 rw [if_pos h1] at h
 rw [if_pos hw]
 exact h
end
end Go.Proofs.YtnliaialemfcaaaW.PrintWords
end
section
namespace Go.Proofs.Ytnliaialemfcaaa.PRateFinds
noncomputable section
open Go.RowKit Go.Proofs.YtnliaialemfcaaaW.PrintWords Go.Proofs.YtnliaialemfcaaaW.PrintLast Go.Proofs.YtnliaialemfcaaaW.PrintMore
def errW : Option Int → Value
 | none => .nilIface
 | some c => .iface 0 (.int .i64 c)
theorem qBU : errW none = .nilIface := rfl
theorem qBT (c : Int) : errW (some c) = .iface 0 (.int .i64 c) := rfl
theorem info3 : (Try.prog.info? 3).map (fun i => (i.zero, i.size, i.bytes)) = some (some (.int .i64 0), 1, 8) := by kernel_rfl
theorem info9 : (Try.prog.info? 9).map (fun i => (i.zero, i.size, i.bytes)) = some (some (.string ⟨#[]⟩), 1, 16) := by kernel_rfl
theorem info25 : (Try.prog.info? 25).map (fun i => (i.zero, i.size, i.bytes)) = some (some (.agg #[(.string ⟨#[]⟩), (.string ⟨#[]⟩), (.int .i64 0), (.int .i64 0)]), 4, 48) := by kernel_rfl
theorem info58 : (Try.prog.info? 58).map (fun i => (i.zero, i.size, i.bytes)) = some (some (.agg #[(.string ⟨#[]⟩), (.string ⟨#[]⟩)]), 2, 32) := by kernel_rfl
theorem info69 : (Try.prog.info? 69).map (fun i => (i.zero, i.size, i.bytes)) = some (some (.agg #[(.string ⟨#[]⟩), (.int .i64 0), (.int .i64 0), (.bool false), (.slice none 0 0)]), 5, 64) := by kernel_rfl
theorem info80 : (Try.prog.info? 80).map (fun i => (i.zero, i.size, i.bytes)) = some (some (.agg #[(.int .i64 0), (.slice none 0 0), (.int .i64 0), (.int .i64 0), (.string ⟨#[]⟩)]), 5, 64) := by kernel_rfl
structure S32 where
 f0 : Int
 f1 : Int
def z32 : S32 := ⟨(0 : Int), (0 : Int)⟩
def k32 : Kd S32 := Kd.iso (Kd.pair (Kd.int .i64) (Kd.int .i64)) (fun x : S32 => (x.f0, x.f1))
theorem k32_open {w : World} {x : S32} {cs : List Value} (h : k32.K w x cs) : cs = [.int .i64 x.f0, .int .i64 x.f1] := by
 obtain ⟨_, _, rfl, rfl, rfl⟩ := h
 exact rfl
theorem k32_mkM (w : World) (base : Nat) (ok : Nat → Prop) (x : S32)  : k32.M w base ok x [.int .i64 x.f0, .int .i64 x.f1] := ⟨[.int .i64 x.f0], [.int .i64 x.f1], rfl, rfl, rfl⟩
def rd_T32 (xs : List S32) (i : Int) : S32 := xs.getD i.toNat z32
theorem at_T32 {w : World} {A : Option Addr} {n : Nat} {xs : List S32} (h : Kd.C k32 w A n xs) (i : Int) (h0 : 0 ≤ i) (h1 : i < n) : ∃ ad , A = some ad ∧ w.cell? (ad.add (i.toNat * 2)) = some (.int .i64 (rd_T32 xs i).f0) ∧ w.cell? ⟨(ad.add (i.toNat * 2)).block, (ad.add (i.toNat * 2)).off + 1, none⟩ = some (.int .i64 (rd_T32 xs i).f1) := by
 obtain ⟨ad, c, e, _, hK, hc0⟩ := Kd.C_get h z32 i h0 h1
 have hc : ∀ j u, c[j]? = some u → w.cell? (ad.add (i.toNat * 2 + j)) = some u := hc0
 obtain rfl := k32_open hK
 exact ⟨ad, e, hc 0 _ rfl, by rw [← qBV _ _ 1 (by omega)]; exact hc 1 _ rfl⟩
structure S83 where
 f0 : ByteArray
 f1 : Int
 f2 : Bool
 f3 : Int
 f4 : Int
 f5 : S32
def z83 : S83 := ⟨(⟨#[]⟩ : ByteArray), (0 : Int), false, (0 : Int), (0 : Int), z32⟩
def k83 : Kd S83 := Kd.iso (Kd.pair Kd.string (Kd.pair (Kd.int .i64) (Kd.pair Kd.bool (Kd.pair (Kd.int .i64) (Kd.pair (Kd.int .i64) k32))))) (fun x : S83 => (x.f0, x.f1, x.f2, x.f3, x.f4, x.f5))
theorem k83_open {w : World} {x : S83} {cs : List Value} (h : k83.K w x cs) : cs = [.string x.f0, .int .i64 x.f1, .bool x.f2, .int .i64 x.f3, .int .i64 x.f4, .int .i64 x.f5.f0, .int .i64 x.f5.f1] := by
 obtain ⟨_, _, rfl, rfl, ⟨_, _, rfl, rfl, ⟨_, _, rfl, rfl, ⟨_, _, rfl, rfl, ⟨_, _, rfl, rfl, s5⟩⟩⟩⟩⟩ := h
 obtain rfl := k32_open s5
 exact rfl
theorem k83_mkM (w : World) (base : Nat) (ok : Nat → Prop) (x : S83)  : k83.M w base ok x [.string x.f0, .int .i64 x.f1, .bool x.f2, .int .i64 x.f3, .int .i64 x.f4, .int .i64 x.f5.f0, .int .i64 x.f5.f1] := ⟨[.string x.f0], [.int .i64 x.f1, .bool x.f2, .int .i64 x.f3, .int .i64 x.f4, .int .i64 x.f5.f0, .int .i64 x.f5.f1], rfl, rfl, ⟨[.int .i64 x.f1], [.bool x.f2, .int .i64 x.f3, .int .i64 x.f4, .int .i64 x.f5.f0, .int .i64 x.f5.f1], rfl, rfl, ⟨[.bool x.f2], [.int .i64 x.f3, .int .i64 x.f4, .int .i64 x.f5.f0, .int .i64 x.f5.f1], rfl, rfl, ⟨[.int .i64 x.f3], [.int .i64 x.f4, .int .i64 x.f5.f0, .int .i64 x.f5.f1], rfl, rfl, ⟨[.int .i64 x.f4], [.int .i64 x.f5.f0, .int .i64 x.f5.f1], rfl, rfl, (k32_mkM w base ok x.f5 )⟩⟩⟩⟩⟩
def qC6 (xs : List S83) (i : Int) : S83 := xs.getD i.toNat z83
theorem at_T83 {w : World} {A : Option Addr} {n : Nat} {xs : List S83} (h : Kd.C k83 w A n xs) (i : Int) (h0 : 0 ≤ i) (h1 : i < n) : ∃ ad , A = some ad ∧ w.cell? (ad.add (i.toNat * 7)) = some (.string (qC6 xs i).f0) ∧ w.cell? ⟨(ad.add (i.toNat * 7)).block, (ad.add (i.toNat * 7)).off + 1, none⟩ = some (.int .i64 (qC6 xs i).f1) ∧ w.cell? ⟨(ad.add (i.toNat * 7)).block, (ad.add (i.toNat * 7)).off + 2, none⟩ = some (.bool (qC6 xs i).f2) ∧ w.cell? ⟨(ad.add (i.toNat * 7)).block, (ad.add (i.toNat * 7)).off + 3, none⟩ = some (.int .i64 (qC6 xs i).f3) ∧ w.cell? ⟨(ad.add (i.toNat * 7)).block, (ad.add (i.toNat * 7)).off + 4, none⟩ = some (.int .i64 (qC6 xs i).f4) ∧ w.cell? ⟨(ad.add (i.toNat * 7)).block, (ad.add (i.toNat * 7)).off + 5, none⟩ = some (.int .i64 (qC6 xs i).f5.f0) ∧ w.cell? ⟨(ad.add (i.toNat * 7)).block, (ad.add (i.toNat * 7)).off + 6, none⟩ = some (.int .i64 (qC6 xs i).f5.f1) := by
 obtain ⟨ad, c, e, _, hK, hc0⟩ := Kd.C_get h z83 i h0 h1
 have hc : ∀ j u, c[j]? = some u → w.cell? (ad.add (i.toNat * 7 + j)) = some u := hc0
 obtain rfl := k83_open hK
 exact ⟨ad, e, hc 0 _ rfl, by rw [← qBV _ _ 1 (by omega)]; exact hc 1 _ rfl, by rw [← qBV _ _ 2 (by omega)]; exact hc 2 _ rfl, by rw [← qBV _ _ 3 (by omega)]; exact hc 3 _ rfl, by rw [← qBV _ _ 4 (by omega)]; exact hc 4 _ rfl, by rw [← qBV _ _ 5 (by omega)]; exact hc 5 _ rfl, by rw [← qBV _ _ 6 (by omega)]; exact hc 6 _ rfl⟩
structure S76 where
 f0 : Int
 f1 : Int
def z76 : S76 := ⟨(0 : Int), (0 : Int)⟩
def k76 : Kd S76 := Kd.iso (Kd.pair (Kd.int .i64) (Kd.int .i64)) (fun x : S76 => (x.f0, x.f1))
theorem k76_open {w : World} {x : S76} {cs : List Value} (h : k76.K w x cs) : cs = [.int .i64 x.f0, .int .i64 x.f1] := by
 obtain ⟨_, _, rfl, rfl, rfl⟩ := h
 exact rfl
theorem k76_mkM (w : World) (base : Nat) (ok : Nat → Prop) (x : S76)  : k76.M w base ok x [.int .i64 x.f0, .int .i64 x.f1] := ⟨[.int .i64 x.f0], [.int .i64 x.f1], rfl, rfl, rfl⟩
def qCK (xs : List S76) (i : Int) : S76 := xs.getD i.toNat z76
theorem at_T76 {w : World} {A : Option Addr} {n : Nat} {xs : List S76} (h : Kd.C k76 w A n xs) (i : Int) (h0 : 0 ≤ i) (h1 : i < n) : ∃ ad , A = some ad ∧ w.cell? (ad.add (i.toNat * 2)) = some (.int .i64 (qCK xs i).f0) ∧ w.cell? ⟨(ad.add (i.toNat * 2)).block, (ad.add (i.toNat * 2)).off + 1, none⟩ = some (.int .i64 (qCK xs i).f1) := by
 obtain ⟨ad, c, e, _, hK, hc0⟩ := Kd.C_get h z76 i h0 h1
 have hc : ∀ j u, c[j]? = some u → w.cell? (ad.add (i.toNat * 2 + j)) = some u := hc0
 obtain rfl := k76_open hK
 exact ⟨ad, e, hc 0 _ rfl, by rw [← qBV _ _ 1 (by omega)]; exact hc 1 _ rfl⟩
structure S69 where
 f0 : ByteArray
 f1 : Int
 f2 : Int
 f3 : Bool
 f4 : (List S76)
def z69 : S69 := ⟨(⟨#[]⟩ : ByteArray), (0 : Int), (0 : Int), false, ([] : List S76)⟩
def k69 : Kd S69 := Kd.iso (Kd.pair Kd.string (Kd.pair (Kd.int .i64) (Kd.pair (Kd.int .i64) (Kd.pair Kd.bool (Kd.slice 76 k76))))) (fun x : S69 => (x.f0, x.f1, x.f2, x.f3, x.f4))
theorem k69_open {w : World} {x : S69} {cs : List Value} (h : k69.K w x cs) : ∃ A4 c4, cs = [.string x.f0, .int .i64 x.f1, .int .i64 x.f2, .bool x.f3, .slice A4 x.f4.length c4] ∧ x.f4.length ≤ c4 ∧ k76.C w A4 x.f4.length x.f4 := by
 obtain ⟨_, _, rfl, rfl, ⟨_, _, rfl, rfl, ⟨_, _, rfl, rfl, ⟨_, _, rfl, rfl, ⟨A4, c4, rfl, l4, g4⟩⟩⟩⟩⟩ := h
 exact ⟨A4, c4, rfl, l4, g4⟩
theorem k69_mkM (w : World) (base : Nat) (ok : Nat → Prop) (x : S69) {v4 : Value} (g4 : k76.R 76 w base ok v4 x.f4) : k69.M w base ok x [.string x.f0, .int .i64 x.f1, .int .i64 x.f2, .bool x.f3, v4] := ⟨[.string x.f0], [.int .i64 x.f1, .int .i64 x.f2, .bool x.f3, v4], rfl, rfl, ⟨[.int .i64 x.f1], [.int .i64 x.f2, .bool x.f3, v4], rfl, rfl, ⟨[.int .i64 x.f2], [.bool x.f3, v4], rfl, rfl, ⟨[.bool x.f3], [v4], rfl, rfl, ⟨v4, rfl, g4⟩⟩⟩⟩⟩
theorem k69_openF {W : World} {ok : Nat → Prop} {x : S69} {cs : List Value} (h : Kd.FK k69 W ok x cs) : ∃ A4 c4, cs = [.string x.f0, .int .i64 x.f1, .int .i64 x.f2, .bool x.f3, .slice A4 x.f4.length c4] ∧ x.f4.length ≤ c4 ∧ Kd.F k76 W ok A4 x.f4.length x.f4 := by
 obtain ⟨A4, c4, rfl, l4, _⟩ := k69_open (Kd.FK_now h)
 exact ⟨A4, c4, rfl, l4, (fun W' hW => by obtain ⟨A4_, c4_, he, l4_, g4_⟩ := k69_open (h W' hW); injection (Option.some.inj (show some (Value.slice A4 x.f4.length c4) = some (Value.slice A4_ x.f4.length c4_) from congrArg (fun l => l[4]?) he)) with ha_ _ _; rw [ha_]; exact g4_)⟩
def qAL (xs : List S69) (i : Int) : S69 := xs.getD i.toNat z69
theorem at_T69 {w : World} {A : Option Addr} {n : Nat} {xs : List S69} (h : Kd.C k69 w A n xs) (i : Int) (h0 : 0 ≤ i) (h1 : i < n) : ∃ ad A4 c4, A = some ad ∧ w.cell? (ad.add (i.toNat * 5)) = some (.string (qAL xs i).f0) ∧ w.cell? ⟨(ad.add (i.toNat * 5)).block, (ad.add (i.toNat * 5)).off + 1, none⟩ = some (.int .i64 (qAL xs i).f1) ∧ w.cell? ⟨(ad.add (i.toNat * 5)).block, (ad.add (i.toNat * 5)).off + 2, none⟩ = some (.int .i64 (qAL xs i).f2) ∧ w.cell? ⟨(ad.add (i.toNat * 5)).block, (ad.add (i.toNat * 5)).off + 3, none⟩ = some (.bool (qAL xs i).f3) ∧ w.cell? ⟨(ad.add (i.toNat * 5)).block, (ad.add (i.toNat * 5)).off + 4, none⟩ = some (.slice A4 (qAL xs i).f4.length c4) ∧ (qAL xs i).f4.length ≤ c4 ∧ k76.C w A4 (qAL xs i).f4.length (qAL xs i).f4 := by
 obtain ⟨ad, c, e, _, hK, hc0⟩ := Kd.C_get h z69 i h0 h1
 have hc : ∀ j u, c[j]? = some u → w.cell? (ad.add (i.toNat * 5 + j)) = some u := hc0
 obtain ⟨A4, c4, rfl, l4, g4⟩ := k69_open hK
 exact ⟨ad, A4, c4, e, hc 0 _ rfl, by rw [← qBV _ _ 1 (by omega)]; exact hc 1 _ rfl, by rw [← qBV _ _ 2 (by omega)]; exact hc 2 _ rfl, by rw [← qBV _ _ 3 (by omega)]; exact hc 3 _ rfl, by rw [← qBV _ _ 4 (by omega)]; exact hc 4 _ rfl, l4, g4⟩
structure S80 where
 f0 : Int
 f1 : (List Int)
 f2 : Int
 f3 : Int
 f4 : ByteArray
def z80 : S80 := ⟨(0 : Int), ([] : List Int), (0 : Int), (0 : Int), (⟨#[]⟩ : ByteArray)⟩
def k80 : Kd S80 := Kd.iso (Kd.pair (Kd.int .i64) (Kd.pair (Kd.slice 3 (Kd.int .i64)) (Kd.pair (Kd.int .i64) (Kd.pair (Kd.int .i64) Kd.string)))) (fun x : S80 => (x.f0, x.f1, x.f2, x.f3, x.f4))
theorem k80_heap : Kd.Heap k80 := Kd.heap_iso _ (Kd.heap_pair (Kd.heap_int .i64) (Kd.heap_pair (Kd.heap_slice 3 (Kd.heap_int .i64)) (Kd.heap_pair (Kd.heap_int .i64) (Kd.heap_pair (Kd.heap_int .i64) Kd.heap_string))))
theorem k80_open {w : World} {x : S80} {cs : List Value} (h : k80.K w x cs) : ∃ A1 c1, cs = [.int .i64 x.f0, .slice A1 x.f1.length c1, .int .i64 x.f2, .int .i64 x.f3, .string x.f4] ∧ x.f1.length ≤ c1 ∧ (Kd.int .i64).C w A1 x.f1.length x.f1 := by
 obtain ⟨_, _, rfl, rfl, ⟨_, _, rfl, ⟨A1, c1, rfl, l1, g1⟩, ⟨_, _, rfl, rfl, ⟨_, _, rfl, rfl, rfl⟩⟩⟩⟩ := h
 exact ⟨A1, c1, rfl, l1, g1⟩
theorem k80_mk (w : World) (x : S80) {A1 : Option Addr} {c1 : Nat} (l1 : x.f1.length ≤ c1) (g1 : (Kd.int .i64).C w A1 x.f1.length x.f1) : k80.K w x [.int .i64 x.f0, .slice A1 x.f1.length c1, .int .i64 x.f2, .int .i64 x.f3, .string x.f4] := ⟨[.int .i64 x.f0], [.slice A1 x.f1.length c1, .int .i64 x.f2, .int .i64 x.f3, .string x.f4], rfl, rfl, ⟨[.slice A1 x.f1.length c1], [.int .i64 x.f2, .int .i64 x.f3, .string x.f4], rfl, ⟨A1, c1, rfl, l1, g1⟩, ⟨[.int .i64 x.f2], [.int .i64 x.f3, .string x.f4], rfl, rfl, ⟨[.int .i64 x.f3], [.string x.f4], rfl, rfl, rfl⟩⟩⟩⟩
theorem k80_mkM (w : World) (base : Nat) (ok : Nat → Prop) (x : S80) {v1 : Value} (g1 : (Kd.int .i64).R 3 w base ok v1 x.f1) : k80.M w base ok x [.int .i64 x.f0, v1, .int .i64 x.f2, .int .i64 x.f3, .string x.f4] := ⟨[.int .i64 x.f0], [v1, .int .i64 x.f2, .int .i64 x.f3, .string x.f4], rfl, rfl, ⟨[v1], [.int .i64 x.f2, .int .i64 x.f3, .string x.f4], rfl, ⟨v1, rfl, g1⟩, ⟨[.int .i64 x.f2], [.int .i64 x.f3, .string x.f4], rfl, rfl, ⟨[.int .i64 x.f3], [.string x.f4], rfl, rfl, rfl⟩⟩⟩⟩
theorem k80_mkF (W : World) (ok : Nat → Prop) (x : S80) {A1 : Option Addr} {c1 : Nat} (l1 : x.f1.length ≤ c1) (g1 : Kd.F (Kd.int .i64) W ok A1 x.f1.length x.f1) : Kd.FK k80 W ok x [.int .i64 x.f0, .slice A1 x.f1.length c1, .int .i64 x.f2, .int .i64 x.f3, .string x.f4] := fun W2 hW => k80_mk W2 x l1 (g1 W2 hW)
def qA2 (xs : List S80) (i : Int) : S80 := xs.getD i.toNat z80
theorem at_T80 {w : World} {A : Option Addr} {n : Nat} {xs : List S80} (h : Kd.C k80 w A n xs) (i : Int) (h0 : 0 ≤ i) (h1 : i < n) : ∃ ad A1 c1, A = some ad ∧ w.cell? (ad.add (i.toNat * 5)) = some (.int .i64 (qA2 xs i).f0) ∧ w.cell? ⟨(ad.add (i.toNat * 5)).block, (ad.add (i.toNat * 5)).off + 1, none⟩ = some (.slice A1 (qA2 xs i).f1.length c1) ∧ w.cell? ⟨(ad.add (i.toNat * 5)).block, (ad.add (i.toNat * 5)).off + 2, none⟩ = some (.int .i64 (qA2 xs i).f2) ∧ w.cell? ⟨(ad.add (i.toNat * 5)).block, (ad.add (i.toNat * 5)).off + 3, none⟩ = some (.int .i64 (qA2 xs i).f3) ∧ w.cell? ⟨(ad.add (i.toNat * 5)).block, (ad.add (i.toNat * 5)).off + 4, none⟩ = some (.string (qA2 xs i).f4) ∧ (qA2 xs i).f1.length ≤ c1 ∧ (Kd.int .i64).C w A1 (qA2 xs i).f1.length (qA2 xs i).f1 := by
 obtain ⟨ad, c, e, _, hK, hc0⟩ := Kd.C_get h z80 i h0 h1
 have hc : ∀ j u, c[j]? = some u → w.cell? (ad.add (i.toNat * 5 + j)) = some u := hc0
 obtain ⟨A1, c1, rfl, l1, g1⟩ := k80_open hK
 exact ⟨ad, A1, c1, e, hc 0 _ rfl, by rw [← qBV _ _ 1 (by omega)]; exact hc 1 _ rfl, by rw [← qBV _ _ 2 (by omega)]; exact hc 2 _ rfl, by rw [← qBV _ _ 3 (by omega)]; exact hc 3 _ rfl, by rw [← qBV _ _ 4 (by omega)]; exact hc 4 _ rfl, l1, g1⟩
structure S58 where
 f0 : ByteArray
 f1 : ByteArray
def z58 : S58 := ⟨(⟨#[]⟩ : ByteArray), (⟨#[]⟩ : ByteArray)⟩
def k58 : Kd S58 := Kd.iso (Kd.pair Kd.string Kd.string) (fun x : S58 => (x.f0, x.f1))
theorem k58_open {w : World} {x : S58} {cs : List Value} (h : k58.K w x cs) : cs = [.string x.f0, .string x.f1] := by
 obtain ⟨_, _, rfl, rfl, rfl⟩ := h
 exact rfl
theorem k58_mkM (w : World) (base : Nat) (ok : Nat → Prop) (x : S58)  : k58.M w base ok x [.string x.f0, .string x.f1] := ⟨[.string x.f0], [.string x.f1], rfl, rfl, rfl⟩
def qB5 (xs : List S58) (i : Int) : S58 := xs.getD i.toNat z58
theorem at_T58 {w : World} {A : Option Addr} {n : Nat} {xs : List S58} (h : Kd.C k58 w A n xs) (i : Int) (h0 : 0 ≤ i) (h1 : i < n) : ∃ ad , A = some ad ∧ w.cell? (ad.add (i.toNat * 2)) = some (.string (qB5 xs i).f0) ∧ w.cell? ⟨(ad.add (i.toNat * 2)).block, (ad.add (i.toNat * 2)).off + 1, none⟩ = some (.string (qB5 xs i).f1) := by
 obtain ⟨ad, c, e, _, hK, hc0⟩ := Kd.C_get h z58 i h0 h1
 have hc : ∀ j u, c[j]? = some u → w.cell? (ad.add (i.toNat * 2 + j)) = some u := hc0
 obtain rfl := k58_open hK
 exact ⟨ad, e, hc 0 _ rfl, by rw [← qBV _ _ 1 (by omega)]; exact hc 1 _ rfl⟩
structure S54 where
 f0 : ByteArray
 f1 : ByteArray
 f2 : (List S80)
 f3 : (List S80)
 f4 : (List S58)
 f5 : Int
def z54 : S54 := ⟨(⟨#[]⟩ : ByteArray), (⟨#[]⟩ : ByteArray), ([] : List S80), ([] : List S80), ([] : List S58), (0 : Int)⟩
def k54 : Kd S54 := Kd.iso (Kd.pair Kd.string (Kd.pair Kd.string (Kd.pair (Kd.slice 80 k80) (Kd.pair (Kd.slice 80 k80) (Kd.pair (Kd.slice 58 k58) (Kd.int .i64)))))) (fun x : S54 => (x.f0, x.f1, x.f2, x.f3, x.f4, x.f5))
theorem k54_open {w : World} {x : S54} {cs : List Value} (h : k54.K w x cs) : ∃ A2 c2 A3 c3 A4 c4, cs = [.string x.f0, .string x.f1, .slice A2 x.f2.length c2, .slice A3 x.f3.length c3, .slice A4 x.f4.length c4, .int .i64 x.f5] ∧ x.f2.length ≤ c2 ∧ k80.C w A2 x.f2.length x.f2 ∧ x.f3.length ≤ c3 ∧ k80.C w A3 x.f3.length x.f3 ∧ x.f4.length ≤ c4 ∧ k58.C w A4 x.f4.length x.f4 := by
 obtain ⟨_, _, rfl, rfl, ⟨_, _, rfl, rfl, ⟨_, _, rfl, ⟨A2, c2, rfl, l2, g2⟩, ⟨_, _, rfl, ⟨A3, c3, rfl, l3, g3⟩, ⟨_, _, rfl, ⟨A4, c4, rfl, l4, g4⟩, rfl⟩⟩⟩⟩⟩ := h
 exact ⟨A2, c2, A3, c3, A4, c4, rfl, l2, g2, l3, g3, l4, g4⟩
theorem k54_mk (w : World) (x : S54) {A2 : Option Addr} {c2 : Nat} (l2 : x.f2.length ≤ c2) (g2 : k80.C w A2 x.f2.length x.f2) {A3 : Option Addr} {c3 : Nat} (l3 : x.f3.length ≤ c3) (g3 : k80.C w A3 x.f3.length x.f3) {A4 : Option Addr} {c4 : Nat} (l4 : x.f4.length ≤ c4) (g4 : k58.C w A4 x.f4.length x.f4) : k54.K w x [.string x.f0, .string x.f1, .slice A2 x.f2.length c2, .slice A3 x.f3.length c3, .slice A4 x.f4.length c4, .int .i64 x.f5] := ⟨[.string x.f0], [.string x.f1, .slice A2 x.f2.length c2, .slice A3 x.f3.length c3, .slice A4 x.f4.length c4, .int .i64 x.f5], rfl, rfl, ⟨[.string x.f1], [.slice A2 x.f2.length c2, .slice A3 x.f3.length c3, .slice A4 x.f4.length c4, .int .i64 x.f5], rfl, rfl, ⟨[.slice A2 x.f2.length c2], [.slice A3 x.f3.length c3, .slice A4 x.f4.length c4, .int .i64 x.f5], rfl, ⟨A2, c2, rfl, l2, g2⟩, ⟨[.slice A3 x.f3.length c3], [.slice A4 x.f4.length c4, .int .i64 x.f5], rfl, ⟨A3, c3, rfl, l3, g3⟩, ⟨[.slice A4 x.f4.length c4], [.int .i64 x.f5], rfl, ⟨A4, c4, rfl, l4, g4⟩, rfl⟩⟩⟩⟩⟩
theorem k54_mkF (W : World) (ok : Nat → Prop) (x : S54) {A2 : Option Addr} {c2 : Nat} (l2 : x.f2.length ≤ c2) (g2 : Kd.F k80 W ok A2 x.f2.length x.f2) {A3 : Option Addr} {c3 : Nat} (l3 : x.f3.length ≤ c3) (g3 : Kd.F k80 W ok A3 x.f3.length x.f3) {A4 : Option Addr} {c4 : Nat} (l4 : x.f4.length ≤ c4) (g4 : Kd.F k58 W ok A4 x.f4.length x.f4) : Kd.FK k54 W ok x [.string x.f0, .string x.f1, .slice A2 x.f2.length c2, .slice A3 x.f3.length c3, .slice A4 x.f4.length c4, .int .i64 x.f5] := fun W2 hW => k54_mk W2 x l2 (g2 W2 hW) l3 (g3 W2 hW) l4 (g4 W2 hW)
def qAY (xs : List S54) (i : Int) : S54 := xs.getD i.toNat z54
theorem at_T54 {w : World} {A : Option Addr} {n : Nat} {xs : List S54} (h : Kd.C k54 w A n xs) (i : Int) (h0 : 0 ≤ i) (h1 : i < n) : ∃ ad A2 c2 A3 c3 A4 c4, A = some ad ∧ w.cell? (ad.add (i.toNat * 6)) = some (.string (qAY xs i).f0) ∧ w.cell? ⟨(ad.add (i.toNat * 6)).block, (ad.add (i.toNat * 6)).off + 1, none⟩ = some (.string (qAY xs i).f1) ∧ w.cell? ⟨(ad.add (i.toNat * 6)).block, (ad.add (i.toNat * 6)).off + 2, none⟩ = some (.slice A2 (qAY xs i).f2.length c2) ∧ w.cell? ⟨(ad.add (i.toNat * 6)).block, (ad.add (i.toNat * 6)).off + 3, none⟩ = some (.slice A3 (qAY xs i).f3.length c3) ∧ w.cell? ⟨(ad.add (i.toNat * 6)).block, (ad.add (i.toNat * 6)).off + 4, none⟩ = some (.slice A4 (qAY xs i).f4.length c4) ∧ w.cell? ⟨(ad.add (i.toNat * 6)).block, (ad.add (i.toNat * 6)).off + 5, none⟩ = some (.int .i64 (qAY xs i).f5) ∧ (qAY xs i).f2.length ≤ c2 ∧ k80.C w A2 (qAY xs i).f2.length (qAY xs i).f2 ∧ (qAY xs i).f3.length ≤ c3 ∧ k80.C w A3 (qAY xs i).f3.length (qAY xs i).f3 ∧ (qAY xs i).f4.length ≤ c4 ∧ k58.C w A4 (qAY xs i).f4.length (qAY xs i).f4 := by
 obtain ⟨ad, c, e, _, hK, hc0⟩ := Kd.C_get h z54 i h0 h1
 have hc : ∀ j u, c[j]? = some u → w.cell? (ad.add (i.toNat * 6 + j)) = some u := hc0
 obtain ⟨A2, c2, A3, c3, A4, c4, rfl, l2, g2, l3, g3, l4, g4⟩ := k54_open hK
 exact ⟨ad, A2, c2, A3, c3, A4, c4, e, hc 0 _ rfl, by rw [← qBV _ _ 1 (by omega)]; exact hc 1 _ rfl, by rw [← qBV _ _ 2 (by omega)]; exact hc 2 _ rfl, by rw [← qBV _ _ 3 (by omega)]; exact hc 3 _ rfl, by rw [← qBV _ _ 4 (by omega)]; exact hc 4 _ rfl, by rw [← qBV _ _ 5 (by omega)]; exact hc 5 _ rfl, l2, g2, l3, g3, l4, g4⟩
structure S48 where
 f0 : ByteArray
 f1 : Int
 f2 : Int
 f3 : (List S83)
 f4 : (List S69)
 f5 : (List S54)
def z48 : S48 := ⟨(⟨#[]⟩ : ByteArray), (0 : Int), (0 : Int), ([] : List S83), ([] : List S69), ([] : List S54)⟩
def k48 : Kd S48 := Kd.iso (Kd.pair Kd.string (Kd.pair (Kd.int .i64) (Kd.pair (Kd.int .i64) (Kd.pair (Kd.slice 83 k83) (Kd.pair (Kd.slice 69 k69) (Kd.slice 54 k54)))))) (fun x : S48 => (x.f0, x.f1, x.f2, x.f3, x.f4, x.f5))
theorem k48_open {w : World} {x : S48} {cs : List Value} (h : k48.K w x cs) : ∃ A3 c3 A4 c4 A5 c5, cs = [.string x.f0, .int .i64 x.f1, .int .i64 x.f2, .slice A3 x.f3.length c3, .slice A4 x.f4.length c4, .slice A5 x.f5.length c5] ∧ x.f3.length ≤ c3 ∧ k83.C w A3 x.f3.length x.f3 ∧ x.f4.length ≤ c4 ∧ k69.C w A4 x.f4.length x.f4 ∧ x.f5.length ≤ c5 ∧ k54.C w A5 x.f5.length x.f5 := by
 obtain ⟨_, _, rfl, rfl, ⟨_, _, rfl, rfl, ⟨_, _, rfl, rfl, ⟨_, _, rfl, ⟨A3, c3, rfl, l3, g3⟩, ⟨_, _, rfl, ⟨A4, c4, rfl, l4, g4⟩, ⟨A5, c5, rfl, l5, g5⟩⟩⟩⟩⟩⟩ := h
 exact ⟨A3, c3, A4, c4, A5, c5, rfl, l3, g3, l4, g4, l5, g5⟩
theorem k48_mk (w : World) (x : S48) {A3 : Option Addr} {c3 : Nat} (l3 : x.f3.length ≤ c3) (g3 : k83.C w A3 x.f3.length x.f3) {A4 : Option Addr} {c4 : Nat} (l4 : x.f4.length ≤ c4) (g4 : k69.C w A4 x.f4.length x.f4) {A5 : Option Addr} {c5 : Nat} (l5 : x.f5.length ≤ c5) (g5 : k54.C w A5 x.f5.length x.f5) : k48.K w x [.string x.f0, .int .i64 x.f1, .int .i64 x.f2, .slice A3 x.f3.length c3, .slice A4 x.f4.length c4, .slice A5 x.f5.length c5] := ⟨[.string x.f0], [.int .i64 x.f1, .int .i64 x.f2, .slice A3 x.f3.length c3, .slice A4 x.f4.length c4, .slice A5 x.f5.length c5], rfl, rfl, ⟨[.int .i64 x.f1], [.int .i64 x.f2, .slice A3 x.f3.length c3, .slice A4 x.f4.length c4, .slice A5 x.f5.length c5], rfl, rfl, ⟨[.int .i64 x.f2], [.slice A3 x.f3.length c3, .slice A4 x.f4.length c4, .slice A5 x.f5.length c5], rfl, rfl, ⟨[.slice A3 x.f3.length c3], [.slice A4 x.f4.length c4, .slice A5 x.f5.length c5], rfl, ⟨A3, c3, rfl, l3, g3⟩, ⟨[.slice A4 x.f4.length c4], [.slice A5 x.f5.length c5], rfl, ⟨A4, c4, rfl, l4, g4⟩, ⟨A5, c5, rfl, l5, g5⟩⟩⟩⟩⟩⟩
theorem k48_mkF (W : World) (ok : Nat → Prop) (x : S48) {A3 : Option Addr} {c3 : Nat} (l3 : x.f3.length ≤ c3) (g3 : Kd.F k83 W ok A3 x.f3.length x.f3) {A4 : Option Addr} {c4 : Nat} (l4 : x.f4.length ≤ c4) (g4 : Kd.F k69 W ok A4 x.f4.length x.f4) {A5 : Option Addr} {c5 : Nat} (l5 : x.f5.length ≤ c5) (g5 : Kd.F k54 W ok A5 x.f5.length x.f5) : Kd.FK k48 W ok x [.string x.f0, .int .i64 x.f1, .int .i64 x.f2, .slice A3 x.f3.length c3, .slice A4 x.f4.length c4, .slice A5 x.f5.length c5] := fun W2 hW => k48_mk W2 x l3 (g3 W2 hW) l4 (g4 W2 hW) l5 (g5 W2 hW)
def qA3 (xs : List S48) (i : Int) : S48 := xs.getD i.toNat z48
theorem qEM {w : World} {A : Option Addr} {n : Nat} {xs : List S48} (h : Kd.C k48 w A n xs) (i : Int) (h0 : 0 ≤ i) (h1 : i < n) : ∃ ad A3 c3 A4 c4 A5 c5, A = some ad ∧ w.cell? (ad.add (i.toNat * 6)) = some (.string (qA3 xs i).f0) ∧ w.cell? ⟨(ad.add (i.toNat * 6)).block, (ad.add (i.toNat * 6)).off + 1, none⟩ = some (.int .i64 (qA3 xs i).f1) ∧ w.cell? ⟨(ad.add (i.toNat * 6)).block, (ad.add (i.toNat * 6)).off + 2, none⟩ = some (.int .i64 (qA3 xs i).f2) ∧ w.cell? ⟨(ad.add (i.toNat * 6)).block, (ad.add (i.toNat * 6)).off + 3, none⟩ = some (.slice A3 (qA3 xs i).f3.length c3) ∧ w.cell? ⟨(ad.add (i.toNat * 6)).block, (ad.add (i.toNat * 6)).off + 4, none⟩ = some (.slice A4 (qA3 xs i).f4.length c4) ∧ w.cell? ⟨(ad.add (i.toNat * 6)).block, (ad.add (i.toNat * 6)).off + 5, none⟩ = some (.slice A5 (qA3 xs i).f5.length c5) ∧ (qA3 xs i).f3.length ≤ c3 ∧ k83.C w A3 (qA3 xs i).f3.length (qA3 xs i).f3 ∧ (qA3 xs i).f4.length ≤ c4 ∧ k69.C w A4 (qA3 xs i).f4.length (qA3 xs i).f4 ∧ (qA3 xs i).f5.length ≤ c5 ∧ k54.C w A5 (qA3 xs i).f5.length (qA3 xs i).f5 := by
 obtain ⟨ad, c, e, _, hK, hc0⟩ := Kd.C_get h z48 i h0 h1
 have hc : ∀ j u, c[j]? = some u → w.cell? (ad.add (i.toNat * 6 + j)) = some u := hc0
 obtain ⟨A3, c3, A4, c4, A5, c5, rfl, l3, g3, l4, g4, l5, g5⟩ := k48_open hK
 exact ⟨ad, A3, c3, A4, c4, A5, c5, e, hc 0 _ rfl, by rw [← qBV _ _ 1 (by omega)]; exact hc 1 _ rfl, by rw [← qBV _ _ 2 (by omega)]; exact hc 2 _ rfl, by rw [← qBV _ _ 3 (by omega)]; exact hc 3 _ rfl, by rw [← qBV _ _ 4 (by omega)]; exact hc 4 _ rfl, by rw [← qBV _ _ 5 (by omega)]; exact hc 5 _ rfl, l3, g3, l4, g4, l5, g5⟩
structure S25 where
 f0 : ByteArray
 f1 : ByteArray
 f2 : Int
 f3 : Int
def z25 : S25 := ⟨(⟨#[]⟩ : ByteArray), (⟨#[]⟩ : ByteArray), (0 : Int), (0 : Int)⟩
def k25 : Kd S25 := Kd.iso (Kd.pair Kd.string (Kd.pair Kd.string (Kd.pair (Kd.int .i64) (Kd.int .i64)))) (fun x : S25 => (x.f0, x.f1, x.f2, x.f3))
theorem k25_open {w : World} {x : S25} {cs : List Value} (h : k25.K w x cs) : cs = [.string x.f0, .string x.f1, .int .i64 x.f2, .int .i64 x.f3] := by
 obtain ⟨_, _, rfl, rfl, ⟨_, _, rfl, rfl, ⟨_, _, rfl, rfl, rfl⟩⟩⟩ := h
 exact rfl
theorem k25_mkM (w : World) (base : Nat) (ok : Nat → Prop) (x : S25)  : k25.M w base ok x [.string x.f0, .string x.f1, .int .i64 x.f2, .int .i64 x.f3] := ⟨[.string x.f0], [.string x.f1, .int .i64 x.f2, .int .i64 x.f3], rfl, rfl, ⟨[.string x.f1], [.int .i64 x.f2, .int .i64 x.f3], rfl, rfl, ⟨[.int .i64 x.f2], [.int .i64 x.f3], rfl, rfl, rfl⟩⟩⟩
def qBJ (xs : List S25) (i : Int) : S25 := xs.getD i.toNat z25
theorem at_T25 {w : World} {A : Option Addr} {n : Nat} {xs : List S25} (h : Kd.C k25 w A n xs) (i : Int) (h0 : 0 ≤ i) (h1 : i < n) : ∃ ad , A = some ad ∧ w.cell? (ad.add (i.toNat * 4)) = some (.string (qBJ xs i).f0) ∧ w.cell? ⟨(ad.add (i.toNat * 4)).block, (ad.add (i.toNat * 4)).off + 1, none⟩ = some (.string (qBJ xs i).f1) ∧ w.cell? ⟨(ad.add (i.toNat * 4)).block, (ad.add (i.toNat * 4)).off + 2, none⟩ = some (.int .i64 (qBJ xs i).f2) ∧ w.cell? ⟨(ad.add (i.toNat * 4)).block, (ad.add (i.toNat * 4)).off + 3, none⟩ = some (.int .i64 (qBJ xs i).f3) := by
 obtain ⟨ad, c, e, _, hK, hc0⟩ := Kd.C_get h z25 i h0 h1
 have hc : ∀ j u, c[j]? = some u → w.cell? (ad.add (i.toNat * 4 + j)) = some u := hc0
 obtain rfl := k25_open hK
 exact ⟨ad, e, hc 0 _ rfl, by rw [← qBV _ _ 1 (by omega)]; exact hc 1 _ rfl, by rw [← qBV _ _ 2 (by omega)]; exact hc 2 _ rfl, by rw [← qBV _ _ 3 (by omega)]; exact hc 3 _ rfl⟩
end
end Go.Proofs.Ytnliaialemfcaaa.PRateFinds
end
section
namespace Go.Proofs.Ytnliaialemfcaaa.PRateFinds
noncomputable section
open Go.RowKit Go.Proofs.YtnliaialemfcaaaW.PrintWords Go.Proofs.YtnliaialemfcaaaW.PrintLast Go.Proofs.YtnliaialemfcaaaW.PrintMore
theorem eqA25 (d : Nat) (w : World) (x0 y0 : ByteArray) (x1 y1 : ByteArray) (x2 y2 : Int) (x3 y3 : Int) :
  (Op.equalIn (d + 2) 25 (.agg #[.string x0, .string x1, .int .i64 x2, .int .i64 x3]) (.agg #[.string y0, .string y1, .int .i64 y2, .int .i64 y3])).run Try.prog w = .ok (x0.toList == y0.toList && (x1.toList == y1.toList && (x2 == y2 && (x3 == y3)))) w := by
 refine eqA_of Try.underlying25 (by kernel_rfl) ?_
 refine eqf_cons (by rfl) (by go_simp; rfl) (by go_simp; rfl) (by go_simp) ?_
 refine eqf_cons (by rfl) (by go_simp; rfl) (by go_simp; rfl) (by go_simp) ?_
 refine eqf_cons (by rfl) (by go_simp; rfl) (by go_simp; rfl) (by go_simp) ?_
 exact eqf_last (by rfl) (by go_simp; rfl) (by go_simp; rfl) (by go_simp)
end
end Go.Proofs.Ytnliaialemfcaaa.PRateFinds
end
section
namespace Go.Proofs.Ytnliaialemfcaaa.PRateFinds
noncomputable section
open Go.RowKit Go.Proofs.YtnliaialemfcaaaW.PrintWords Go.Proofs.YtnliaialemfcaaaW.PrintLast Go.Proofs.YtnliaialemfcaaaW.PrintMore
theorem eqA32 (d : Nat) (w : World) (x0 y0 : Int) (x1 y1 : Int) :
  (Op.equalIn (d + 2) 32 (.agg #[.int .i64 x0, .int .i64 x1]) (.agg #[.int .i64 y0, .int .i64 y1])).run Try.prog w = .ok (x0 == y0 && (x1 == y1)) w := by
 refine eqA_of Try.underlying32 (by kernel_rfl) ?_
 refine eqf_cons (by rfl) (by go_simp; rfl) (by go_simp; rfl) (by go_simp) ?_
 exact eqf_last (by rfl) (by go_simp; rfl) (by go_simp; rfl) (by go_simp)
end
end Go.Proofs.Ytnliaialemfcaaa.PRateFinds
end
section
namespace Go.Proofs.Ytnliaialemfcaaa.PRateFinds
noncomputable section
open Go.RowKit Go.Proofs.YtnliaialemfcaaaW.PrintWords Go.Proofs.YtnliaialemfcaaaW.PrintLast Go.Proofs.YtnliaialemfcaaaW.PrintMore
def qBE.l0 : Nat → List (S48) → Int → List (S48) → Int → Int → Option (Int)
 | 0, _, _, _, _, _ => none
 | k + 1, x0, x3, x6, x7, x8 => if x8 < x7 then (if 0 ≤ x8 then (if x8 < (x6.length : Int) then (if (((qA3 x6 x8).f5).length : Int) > 60 then (some 2) else (if (((qA3 x6 x8).f4).length : Int) > 8 then (some 2) else (qBE.l0 k x0 (wrap64 (x3 + (((qA3 x6 x8).f3).length : Int))) x6 x7 (wrap64 (x8 + 1))))) else (none)) else (none)) else (if (x0.length : Int) > 8 then (some 2) else (if x3 > 40 then (some 2) else (some 0)))
def qBE.f (k : Nat) (l0 : List (S48)) : Option (Int) := qBE.l0 k l0 0 l0 (l0.length : Int) 0
theorem qBE.qBY : ∀ k, (∀ y0 y1 y2 y3 y4, LeO (qBE.l0 k y0 y1 y2 y3 y4) (qBE.l0 (k + 1) y0 y1 y2 y3 y4))
 | 0 => fun _ _ _ _ _ r h => by simp [qBE.l0] at h
 | k + 1 => by
  have ih0 := qBE.qBY k
  ·intro y0 y1 y2 y3 y4
   unfold qBE.l0
   exact zm
theorem qBE.mono : ∀ a0 k, LeO (qBE.f k a0) (qBE.f (k + 1) a0) := by
 intro a0 k
 have ih0 := qBE.qBY k
 unfold qBE.f
 exact zm
set_option maxHeartbeats 8000000 in
set_option maxRecDepth 100000 in
theorem qBE.calls (k : Nat) (A0 : Option Addr) (c0 : Nat) (l0 : List (S48)) (r : Int) (w : World) (hr0 : Kd.C k48 w A0 l0.length l0) (hc0 : l0.length ≤ c0) (h : qBE.f k l0 = some r) :
  Calls Try.prog 11 #[.slice A0 l0.length c0] w fun e w' => e = .returned (.int .i64 r) ∧ Below w.heap.size w w' := by
 have hu48 := Try.underlying48
 have HR0 := qA0.mk hr0
 have HC0 := qA0.mk hc0
 clear hr0 hc0
 have HB := qA0.mk (Below.refl w.heap.size w)
 have H : (qBE.l0 k l0 0 l0 (l0.length : Int) 0) = some r := h
 clear h
 have H' := qA0.mk H
 clear H
 go_enter Try.func11, Try.ntmps11
 go_wp2
 go_loopg [3, 8] k (fun kq v3 v8 w' => ∃ (x3_1 : Int) (x8_1 : Int), v3 = .int .i64 x3_1 ∧ v8 = .int .i64 x8_1 ∧ qA0 (qBE.l0 kq l0 x3_1 l0 (l0.length : Int) x8_1 = some r) ∧ qA0 (kq ≤ k) ∧ qA0 (Below w.heap.size w w'))
 case atStart => exact ⟨(0), (0), zs, zs, H', ⟨Nat.le_refl _⟩, ⟨zb⟩⟩
 case round =>
  clear H'
  obtain ⟨x3_1, x8_1, rfl, rfl, HA, HK1, HB⟩ := hrel
  cases gk with
  | zero => exact absurd HA.out (by simp [qBE.l0])
  | succ k1 =>
   have H := HA.out
   clear HA
   simp only [qBE.l0] at H
   by_cases c2 : x8_1 < (l0.length : Int)
   ·rw [if_pos c2] at H
    have c2b0 := decide_eq_true c2
    clear c2
    by_cases c3 : 0 ≤ x8_1
    ·rw [if_pos c3] at H
     have c3b0 := decide_eq_true c3
     clear c3
     by_cases c4 : x8_1 < (l0.length : Int)
     ·rw [if_pos c4] at H
      have c4b0 := decide_eq_true c4
      clear c4
      by_cases c5 : (((qA3 l0 x8_1).f5).length : Int) > 60
      ·rw [if_pos c5] at H
       have c5b0 := decide_eq_true c5
       have c5b1 : decide (60 < ((qA3 l0 x8_1).f5).length) = true := decide_eq_true (by omega)
       clear c5
       obtain rfl := Option.some.inj H
       have p101 : 0 ≤ (x8_1 : Int) := zd
       have q101 : x8_1 < (l0.length : Int) := zd
       obtain ⟨ad101, A101_3, c101_3, A101_4, c101_4, A101_5, c101_5, e101, hx101_0, hx101_1, hx101_2, hx101_3, hx101_4, hx101_5, hl101_3, hi101_3, hl101_4, hi101_4, hl101_5, hi101_5⟩ := qEM HR0.out x8_1 p101 q101
       cases e101
       (try replace hx101_0 := zh hx101_0)
       replace hx101_1 := zh hx101_1
       replace hx101_2 := zh hx101_2
       replace hx101_3 := zh hx101_3
       replace hx101_4 := zh hx101_4
       replace hx101_5 := zh hx101_5
       have HR101_3 := qA0.mk hi101_3
       have HC101_3 := qA0.mk hl101_3
       clear hi101_3 hl101_3
       have HR101_4 := qA0.mk hi101_4
       have HC101_4 := qA0.mk hl101_4
       clear hi101_4 hl101_4
       have HR101_5 := qA0.mk hi101_5
       have HC101_5 := qA0.mk hl101_5
       clear hi101_5 hl101_5
       replace p101 := eq_true p101
       replace q101 := eq_true q101
       go_wp2_with (((with_reducible refine qAC (N := 5) rfl ?_); (try (refine qC5 (by rfl) ?_; dsimp only)); refine qAD ?hg (N := 5) ?hd (cs := #[.string (⟨#[]⟩ : ByteArray), .int .i64 0, .int .i64 0, .slice none 0 0, .slice none 0 0, .slice none 0 0]) (t := 48) ?hr ?_; (case hd => rfl); (case hg => rfl); (case hr => first | (go_simp; done) | (go_simp; rfl)); intro gb102 hg w6 hbox hb; have BK102 := qA0.mk (hbox); have GW102 := zg w gb102; have GE102 := zg w gb102; replace HB := qA0.mk (qA1 zb hb); clear hb hbox hg; obtain ⟨hcz7_0, hcz7_1, hcz7_2, hcz7_3, hcz7_4, hcz7_5, hfz7_0, hfz7_1, hfz7_2, hfz7_3, hfz7_4, hfz7_5⟩ := bc6 BK102.out))
       go_ret
       exact ⟨zf, zb⟩
      ·rw [if_neg c5] at H
       have c5b0 := decide_eq_false c5
       have c5b1 : decide (60 < ((qA3 l0 x8_1).f5).length) = false := decide_eq_false (by omega)
       clear c5
       by_cases c8 : (((qA3 l0 x8_1).f4).length : Int) > 8
       ·rw [if_pos c8] at H
        have c8b0 := decide_eq_true c8
        have c8b1 : decide (8 < ((qA3 l0 x8_1).f4).length) = true := decide_eq_true (by omega)
        clear c8
        obtain rfl := Option.some.inj H
        have p101 : 0 ≤ (x8_1 : Int) := zd
        have q101 : x8_1 < (l0.length : Int) := zd
        obtain ⟨ad101, A101_3, c101_3, A101_4, c101_4, A101_5, c101_5, e101, hx101_0, hx101_1, hx101_2, hx101_3, hx101_4, hx101_5, hl101_3, hi101_3, hl101_4, hi101_4, hl101_5, hi101_5⟩ := qEM HR0.out x8_1 p101 q101
        cases e101
        (try replace hx101_0 := zh hx101_0)
        replace hx101_1 := zh hx101_1
        replace hx101_2 := zh hx101_2
        replace hx101_3 := zh hx101_3
        replace hx101_4 := zh hx101_4
        replace hx101_5 := zh hx101_5
        have HR101_3 := qA0.mk hi101_3
        have HC101_3 := qA0.mk hl101_3
        clear hi101_3 hl101_3
        have HR101_4 := qA0.mk hi101_4
        have HC101_4 := qA0.mk hl101_4
        clear hi101_4 hl101_4
        have HR101_5 := qA0.mk hi101_5
        have HC101_5 := qA0.mk hl101_5
        clear hi101_5 hl101_5
        replace p101 := eq_true p101
        replace q101 := eq_true q101
        go_wp2_with (((with_reducible refine qAC (N := 5) rfl ?_); (try (refine qC5 (by rfl) ?_; dsimp only)); refine qAD ?hg (N := 5) ?hd (cs := #[.string (⟨#[]⟩ : ByteArray), .int .i64 0, .int .i64 0, .slice none 0 0, .slice none 0 0, .slice none 0 0]) (t := 48) ?hr ?_; (case hd => rfl); (case hg => rfl); (case hr => first | (go_simp; done) | (go_simp; rfl)); intro gb102 hg w9 hbox hb; have BK102 := qA0.mk (hbox); have GW102 := zg w gb102; have GE102 := zg w gb102; replace HB := qA0.mk (qA1 zb hb); clear hb hbox hg; obtain ⟨hcz10_0, hcz10_1, hcz10_2, hcz10_3, hcz10_4, hcz10_5, hfz10_0, hfz10_1, hfz10_2, hfz10_3, hfz10_4, hfz10_5⟩ := bc6 BK102.out))
        go_ret
        exact ⟨zf, zb⟩
       ·rw [if_neg c8] at H
        have c8b0 := decide_eq_false c8
        have c8b1 : decide (8 < ((qA3 l0 x8_1).f4).length) = false := decide_eq_false (by omega)
        clear c8
        have H' := qA0.mk H
        clear H
        have p101 : 0 ≤ (x8_1 : Int) := zd
        have q101 : x8_1 < (l0.length : Int) := zd
        obtain ⟨ad101, A101_3, c101_3, A101_4, c101_4, A101_5, c101_5, e101, hx101_0, hx101_1, hx101_2, hx101_3, hx101_4, hx101_5, hl101_3, hi101_3, hl101_4, hi101_4, hl101_5, hi101_5⟩ := qEM HR0.out x8_1 p101 q101
        cases e101
        (try replace hx101_0 := zh hx101_0)
        replace hx101_1 := zh hx101_1
        replace hx101_2 := zh hx101_2
        replace hx101_3 := zh hx101_3
        replace hx101_4 := zh hx101_4
        replace hx101_5 := zh hx101_5
        have HR101_3 := qA0.mk hi101_3
        have HC101_3 := qA0.mk hl101_3
        clear hi101_3 hl101_3
        have HR101_4 := qA0.mk hi101_4
        have HC101_4 := qA0.mk hl101_4
        clear hi101_4 hl101_4
        have HR101_5 := qA0.mk hi101_5
        have HC101_5 := qA0.mk hl101_5
        clear hi101_5 hl101_5
        replace p101 := eq_true p101
        replace q101 := eq_true q101
        go_wp2_with (((with_reducible refine qAC (N := 5) rfl ?_); (try (refine qC5 (by rfl) ?_; dsimp only)); refine qAD ?hg (N := 5) ?hd (cs := #[.string (⟨#[]⟩ : ByteArray), .int .i64 0, .int .i64 0, .slice none 0 0, .slice none 0 0, .slice none 0 0]) (t := 48) ?hr ?_; (case hd => rfl); (case hg => rfl); (case hr => first | (go_simp; done) | (go_simp; rfl)); intro gb102 hg w11 hbox hb; have BK102 := qA0.mk (hbox); have GW102 := zg w gb102; have GE102 := zg w gb102; replace HB := qA0.mk (qA1 zb hb); clear hb hbox hg; obtain ⟨hcz12_0, hcz12_1, hcz12_2, hcz12_3, hcz12_4, hcz12_5, hfz12_0, hfz12_1, hfz12_2, hfz12_3, hfz12_4, hfz12_5⟩ := bc6 BK102.out))
        go_roundg k1
        case measure => have := HK1.out; omega
        case rel => exact ⟨(wrap64 (x3_1 + (((qA3 l0 x8_1).f3).length : Int))), (wrap64 (x8_1 + 1)), zs, zs, H', ⟨by have := HK1.out; omega⟩, ⟨zb⟩⟩
     ·rw [if_neg c4] at H
      exact absurd H (by simp)
    ·rw [if_neg c3] at H
     exact absurd H (by simp)
   ·rw [if_neg c2] at H
    have c2b0 := decide_eq_false c2
    clear c2
    by_cases c13 : (l0.length : Int) > 8
    ·rw [if_pos c13] at H
     have c13b0 := decide_eq_true c13
     have c13b1 : decide (8 < l0.length) = true := decide_eq_true (by omega)
     clear c13
     obtain rfl := Option.some.inj H
     go_wp2
     go_ret
     exact ⟨zf, zb⟩
    ·rw [if_neg c13] at H
     have c13b0 := decide_eq_false c13
     have c13b1 : decide (8 < l0.length) = false := decide_eq_false (by omega)
     clear c13
     by_cases c14 : x3_1 > 40
     ·rw [if_pos c14] at H
      have c14b0 := decide_eq_true c14
      clear c14
      obtain rfl := Option.some.inj H
      go_wp2
      go_ret
      exact ⟨zf, zb⟩
     ·rw [if_neg c14] at H
      have c14b0 := decide_eq_false c14
      clear c14
      obtain rfl := Option.some.inj H
      go_wp2
      go_ret
      exact ⟨zf, zb⟩
def qCC.f (a0 : Int) : Option (Bool) := if a0 ≥ 97 then (some (decide (a0 ≤ 122))) else (some false)
set_option maxHeartbeats 8000000 in
set_option maxRecDepth 100000 in
theorem qCC.calls (a0 : Int) (r : Bool) (w : World) (h : qCC.f a0 = some r) :
  Calls Try.prog 47 #[.int .u8 a0] w fun e w' => e = .returned (.bool r) ∧ qAE w w' := by
 have H : (if a0 ≥ 97 then (some (decide (a0 ≤ 122))) else (some false)) = some r := h
 clear h
 by_cases c2 : a0 ≥ 97
 ·rw [if_pos c2] at H
  have c2b0 := decide_eq_true c2
  clear c2
  obtain rfl := Option.some.inj H
  go_enter Try.func47, Try.ntmps47
  go_wp2
  go_ret
  exact ⟨by first | rfl | (simp; done) | (simp [*]; done), by repeat (first | exact qAE.refl _ | apply qAE.step)⟩
 ·rw [if_neg c2] at H
  have c2b0 := decide_eq_false c2
  clear c2
  obtain rfl := Option.some.inj H
  go_enter Try.func47, Try.ntmps47
  go_wp2
  go_ret
  exact ⟨by first | rfl | (simp; done) | (simp [*]; done), by repeat (first | exact qAE.refl _ | apply qAE.step)⟩
def qDX.f (a0 : Int) : Option (Bool) := if a0 ≥ 48 then (some (decide (a0 ≤ 57))) else (some false)
set_option maxHeartbeats 8000000 in
set_option maxRecDepth 100000 in
theorem qDX.calls (a0 : Int) (r : Bool) (w : World) (h : qDX.f a0 = some r) :
  Calls Try.prog 64 #[.int .u8 a0] w fun e w' => e = .returned (.bool r) ∧ qAE w w' := by
 have H : (if a0 ≥ 48 then (some (decide (a0 ≤ 57))) else (some false)) = some r := h
 clear h
 by_cases c2 : a0 ≥ 48
 ·rw [if_pos c2] at H
  have c2b0 := decide_eq_true c2
  clear c2
  obtain rfl := Option.some.inj H
  go_enter Try.func64, Try.ntmps64
  go_wp2
  go_ret
  exact ⟨by first | rfl | (simp; done) | (simp [*]; done), by repeat (first | exact qAE.refl _ | apply qAE.step)⟩
 ·rw [if_neg c2] at H
  have c2b0 := decide_eq_false c2
  clear c2
  obtain rfl := Option.some.inj H
  go_enter Try.func64, Try.ntmps64
  go_wp2
  go_ret
  exact ⟨by first | rfl | (simp; done) | (simp [*]; done), by repeat (first | exact qAE.refl _ | apply qAE.step)⟩
def qDQ.f (a0 : Int) : Option (Bool) := (qCC.f a0).bind fun t103 => (if t103 = true then (some true) else ((qDX.f a0).bind fun t104 => (if t104 = true then (some true) else (some (a0 == 45)))))
set_option maxHeartbeats 8000000 in
set_option maxRecDepth 100000 in
theorem qDQ.calls (a0 : Int) (r : Bool) (w : World) (h : qDQ.f a0 = some r) :
  Calls Try.prog 48 #[.int .u8 a0] w fun e w' => e = .returned (.bool r) ∧ qAE w w' := by
 have H : ((qCC.f a0).bind fun t103 => (if t103 = true then (some true) else ((qDX.f a0).bind fun t104 => (if t104 = true then (some true) else (some (a0 == 45)))))) = some r := h
 clear h
 replace H := Option.bind_eq_some_iff.mp H
 obtain ⟨t103, A20, H⟩ := H
 have A2 := qA0.mk A20
 clear A20
 by_cases c3 : t103 = true
 ·subst c3
  rw [if_pos rfl] at H
  obtain rfl := Option.some.inj H
  go_enter Try.func48, Try.ntmps48
  go_wp2_with (((with_reducible refine qA9 (f := 47) rfl ?_); refine qC2 (some 4) Try.func47 #[.int .u8 a0] ?_; (with_reducible refine (qCC.calls a0 true _ A2.out).mono ?_); rintro e w' ⟨rfl, ⟨nd, rfl⟩⟩; refine ⟨_, rfl, ?_⟩))
  go_ret
  exact ⟨by first | rfl | (simp; done) | (simp [*]; done), by repeat (first | exact qAE.refl _ | apply qAE.step)⟩
 ·replace c3 := Bool.eq_false_iff.mpr c3
  subst c3
  rw [if_neg (show ¬ (false = true) by decide)] at H
  replace H := Option.bind_eq_some_iff.mp H
  obtain ⟨t104, A40, H⟩ := H
  have A4 := qA0.mk A40
  clear A40
  by_cases c5 : t104 = true
  ·subst c5
   rw [if_pos rfl] at H
   obtain rfl := Option.some.inj H
   go_enter Try.func48, Try.ntmps48
   go_wp2_with (first | ((with_reducible refine qA9 (f := 47) rfl ?_); refine qC2 (some 4) Try.func47 #[.int .u8 a0] ?_; (with_reducible refine (qCC.calls a0 false _ A2.out).mono ?_); rintro e w' ⟨rfl, ⟨nd, rfl⟩⟩; refine ⟨_, rfl, ?_⟩) | (go_at_call 64; (with_reducible refine (qDX.calls a0 true _ A4.out).mono ?_); rintro e w' ⟨rfl, ⟨nd, rfl⟩⟩))
   go_ret
   exact ⟨by first | rfl | (simp; done) | (simp [*]; done), by repeat (first | exact qAE.refl _ | apply qAE.step)⟩
  ·replace c5 := Bool.eq_false_iff.mpr c5
   subst c5
   rw [if_neg (show ¬ (false = true) by decide)] at H
   obtain rfl := Option.some.inj H
   go_enter Try.func48, Try.ntmps48
   go_wp2_with (first | ((with_reducible refine qA9 (f := 47) rfl ?_); refine qC2 (some 4) Try.func47 #[.int .u8 a0] ?_; (with_reducible refine (qCC.calls a0 false _ A2.out).mono ?_); rintro e w' ⟨rfl, ⟨nd, rfl⟩⟩; refine ⟨_, rfl, ?_⟩) | (go_at_call 64; (with_reducible refine (qDX.calls a0 false _ A4.out).mono ?_); rintro e w' ⟨rfl, ⟨nd, rfl⟩⟩))
   go_ret
   exact ⟨by first | rfl | (simp; done) | (simp [*]; done), by repeat (first | exact qAE.refl _ | apply qAE.step)⟩
def cmp_isNaN_string.f (a0 : ByteArray) : Option (Bool) := some (a0.toList != a0.toList)
set_option maxHeartbeats 8000000 in
set_option maxRecDepth 100000 in
theorem cmp_isNaN_string.calls (a0 : ByteArray) (r : Bool) (w : World) (h : cmp_isNaN_string.f a0 = some r) :
  Calls Try.prog 78 #[.string a0] w fun e w' => e = .returned (.bool r) ∧ qAE w w' := by
 have H : (some (a0.toList != a0.toList)) = some r := h
 clear h
 obtain rfl := Option.some.inj H
 go_enter Try.func78, Try.ntmps78
 go_wp2
 go_ret
 exact ⟨by first | rfl | (simp; done) | (simp [*]; done), by repeat (first | exact qAE.refl _ | apply qAE.step)⟩
def cmp_Less_string.f (a0 : ByteArray) (a1 : ByteArray) : Option (Bool) := (cmp_isNaN_string.f a0).bind fun t105 => (if t105 = true then ((cmp_isNaN_string.f a1).bind fun t106 => (if t106 = true then (some (Op.bytesLess a0.toList a1.toList)) else (some true))) else (some (Op.bytesLess a0.toList a1.toList)))
set_option maxHeartbeats 8000000 in
set_option maxRecDepth 100000 in
theorem cmp_Less_string.calls (a0 : ByteArray) (a1 : ByteArray) (r : Bool) (w : World) (h : cmp_Less_string.f a0 a1 = some r) :
  Calls Try.prog 65 #[.string a0, .string a1] w fun e w' => e = .returned (.bool r) ∧ qAE w w' := by
 have H : ((cmp_isNaN_string.f a0).bind fun t105 => (if t105 = true then ((cmp_isNaN_string.f a1).bind fun t106 => (if t106 = true then (some (Op.bytesLess a0.toList a1.toList)) else (some true))) else (some (Op.bytesLess a0.toList a1.toList)))) = some r := h
 clear h
 replace H := Option.bind_eq_some_iff.mp H
 obtain ⟨t105, A30, H⟩ := H
 have A3 := qA0.mk A30
 clear A30
 by_cases c4 : t105 = true
 ·subst c4
  rw [if_pos rfl] at H
  replace H := Option.bind_eq_some_iff.mp H
  obtain ⟨t106, A50, H⟩ := H
  have A5 := qA0.mk A50
  clear A50
  by_cases c6 : t106 = true
  ·subst c6
   rw [if_pos rfl] at H
   obtain rfl := Option.some.inj H
   go_enter Try.func65, Try.ntmps65
   go_wp2_with (first | ((with_reducible refine qA9 (f := 78) rfl ?_); refine qC2 (some 6) Try.func78 #[.string a0] ?_; (with_reducible refine (cmp_isNaN_string.calls a0 true _ A3.out).mono ?_); rintro e w' ⟨rfl, ⟨nd, rfl⟩⟩; refine ⟨_, rfl, ?_⟩) | (go_at_call 78; (with_reducible refine (cmp_isNaN_string.calls a1 true _ A5.out).mono ?_); rintro e w' ⟨rfl, ⟨nd, rfl⟩⟩))
   go_ret
   exact ⟨by first | rfl | (simp; done) | (simp [*]; done), by repeat (first | exact qAE.refl _ | apply qAE.step)⟩
  ·replace c6 := Bool.eq_false_iff.mpr c6
   subst c6
   rw [if_neg (show ¬ (false = true) by decide)] at H
   obtain rfl := Option.some.inj H
   go_enter Try.func65, Try.ntmps65
   go_wp2_with (first | ((with_reducible refine qA9 (f := 78) rfl ?_); refine qC2 (some 6) Try.func78 #[.string a0] ?_; (with_reducible refine (cmp_isNaN_string.calls a0 true _ A3.out).mono ?_); rintro e w' ⟨rfl, ⟨nd, rfl⟩⟩; refine ⟨_, rfl, ?_⟩) | (go_at_call 78; (with_reducible refine (cmp_isNaN_string.calls a1 false _ A5.out).mono ?_); rintro e w' ⟨rfl, ⟨nd, rfl⟩⟩))
   go_ret
   exact ⟨by first | rfl | (simp; done) | (simp [*]; done), by repeat (first | exact qAE.refl _ | apply qAE.step)⟩
 ·replace c4 := Bool.eq_false_iff.mpr c4
  subst c4
  rw [if_neg (show ¬ (false = true) by decide)] at H
  obtain rfl := Option.some.inj H
  go_enter Try.func65, Try.ntmps65
  go_wp2_with (((with_reducible refine qA9 (f := 78) rfl ?_); refine qC2 (some 6) Try.func78 #[.string a0] ?_; (with_reducible refine (cmp_isNaN_string.calls a0 false _ A3.out).mono ?_); rintro e w' ⟨rfl, ⟨nd, rfl⟩⟩; refine ⟨_, rfl, ?_⟩))
  go_ret
  exact ⟨by first | rfl | (simp; done) | (simp [*]; done), by repeat (first | exact qAE.refl _ | apply qAE.step)⟩
def slices_isNaN_string.f (a0 : ByteArray) : Option (Bool) := some (a0.toList != a0.toList)
set_option maxHeartbeats 8000000 in
set_option maxRecDepth 100000 in
theorem slices_isNaN_string.calls (a0 : ByteArray) (r : Bool) (w : World) (h : slices_isNaN_string.f a0 = some r) :
  Calls Try.prog 66 #[.string a0] w fun e w' => e = .returned (.bool r) ∧ qAE w w' := by
 have H : (some (a0.toList != a0.toList)) = some r := h
 clear h
 obtain rfl := Option.some.inj H
 go_enter Try.func66, Try.ntmps66
 go_wp2
 go_ret
 exact ⟨by first | rfl | (simp; done) | (simp [*]; done), by repeat (first | exact qAE.refl _ | apply qAE.step)⟩
def qA6.l0 : Nat → List ByteArray → ByteArray → Int → Int → Int → Option (Int × Bool)
 | 0, _, _, _, _, _ => none
 | k + 1, x0, x1, x6, x7, x8 => if x7 < x8 then (if 0 ≤ (wrap64 ((IntKind.u64.wrap (wrap64 (x7 + x8))) / 2)) then (if (wrap64 ((IntKind.u64.wrap (wrap64 (x7 + x8))) / 2)) < (x0.length : Int) then ((cmp_Less_string.f (rdOf ByteArray.empty x0 (wrap64 ((IntKind.u64.wrap (wrap64 (x7 + x8))) / 2))) x1).bind fun t108 => (if t108 = true then (qA6.l0 k x0 x1 x6 (wrap64 ((wrap64 ((IntKind.u64.wrap (wrap64 (x7 + x8))) / 2)) + 1)) x8) else (qA6.l0 k x0 x1 x6 x7 (wrap64 ((IntKind.u64.wrap (wrap64 (x7 + x8))) / 2))))) else (none)) else (none)) else (if x7 < x6 then (if 0 ≤ x7 then (if x7 < (x0.length : Int) then (if (rdOf ByteArray.empty x0 x7).toList = x1.toList then (some (x7, true)) else ((slices_isNaN_string.f (rdOf ByteArray.empty x0 x7)).bind fun t111 => (if t111 = true then ((slices_isNaN_string.f x1).bind fun t112 => (some (x7, t112))) else (some (x7, false))))) else (none)) else (none)) else (some (x7, false)))
def qA6.f (k : Nat) (l0 : List ByteArray) (a1 : ByteArray) : Option (Int × Bool) := qA6.l0 k l0 a1 (l0.length : Int) 0 (l0.length : Int)
theorem qA6.qBY : ∀ k, (∀ y0 y1 y2 y3 y4, LeO (qA6.l0 k y0 y1 y2 y3 y4) (qA6.l0 (k + 1) y0 y1 y2 y3 y4))
 | 0 => fun _ _ _ _ _ r h => by simp [qA6.l0] at h
 | k + 1 => by
  have ih0 := qA6.qBY k
  ·intro y0 y1 y2 y3 y4
   unfold qA6.l0
   exact zm
theorem qA6.mono : ∀ a0 a1 k, LeO (qA6.f k a0 a1) (qA6.f (k + 1) a0 a1) := by
 intro a0 a1 k
 have ih0 := qA6.qBY k
 unfold qA6.f
 exact zm
set_option maxHeartbeats 8000000 in
set_option maxRecDepth 100000 in
theorem qA6.calls (k : Nat) (A0 : Option Addr) (c0 : Nat) (l0 : List ByteArray) (a1 : ByteArray) (r1 : Int) (r2 : Bool) (w : World) (hr0 : Kd.C Kd.string w A0 l0.length l0) (hc0 : l0.length ≤ c0) (h : qA6.f k l0 a1 = some (r1, r2)) :
  Calls Try.prog 49 #[.slice A0 l0.length c0, .string a1] w fun e w' => e = .returned (.tuple #[.int .i64 r1, .bool r2]) ∧ qAE w w' := by
 have HR0 := qA0.mk hr0
 have HC0 := qA0.mk hc0
 clear hr0 hc0
 have H : (qA6.l0 k l0 a1 (l0.length : Int) 0 (l0.length : Int)) = some (r1, r2) := h
 clear h
 have H' := qA0.mk H
 clear H
 go_enter Try.func49, Try.ntmps49
 go_wp2
 go_loopg [7, 8] k (fun kq v7 v8 w' => ∃ (x7_1 : Int) (x8_1 : Int), v7 = .int .i64 x7_1 ∧ v8 = .int .i64 x8_1 ∧ qA0 (qA6.l0 kq l0 a1 (l0.length : Int) x7_1 x8_1 = some (r1, r2)) ∧ qA0 (kq ≤ k) ∧ qAE w w')
 case atStart => exact ⟨(0), ((l0.length : Int)), zs, zs, H', ⟨Nat.le_refl _⟩, by repeat (first | exact qAE.refl _ | apply qAE.step)⟩
 case round =>
  clear H'
  obtain ⟨x7_1, x8_1, rfl, rfl, HA, HK1, ⟨m1, rfl⟩⟩ := hrel
  cases gk with
  | zero => exact absurd HA.out (by simp [qA6.l0])
  | succ k1 =>
   have H := HA.out
   clear HA
   simp only [qA6.l0] at H
   by_cases c3 : x7_1 < x8_1
   ·rw [if_pos c3] at H
    have c3b0 := decide_eq_true c3
    clear c3
    obtain ⟨ji4, hji4⟩ : ∃ j_ : Int, (wrap64 ((IntKind.u64.wrap (wrap64 (x7_1 + x8_1))) / 2)) = j_ := ⟨_, rfl⟩
    replace H : (if 0 ≤ (ji4) then (if (ji4) < (l0.length : Int) then ((cmp_Less_string.f (rdOf ByteArray.empty l0 (ji4)) a1).bind fun t108 => (if t108 = true then (qA6.l0 k1 l0 a1 (l0.length : Int) (wrap64 ((ji4) + 1)) x8_1) else (qA6.l0 k1 l0 a1 (l0.length : Int) x7_1 ji4))) else (none)) else (none)) = some (r1, r2) := by first | (rw [hji4] at H; exact H) | (simp only [hji4] at H ⊢; exact H)
    have hji4w : (IntKind.i64.wrap ((IntKind.u64.wrap (wrap64 (x7_1 + x8_1))) / 2)) = ji4 := (qCE _).trans hji4
    by_cases c5 : 0 ≤ (ji4)
    ·rw [if_pos c5] at H
     have c5b0 := decide_eq_true c5
     clear c5
     by_cases c6 : (ji4) < (l0.length : Int)
     ·rw [if_pos c6] at H
      have c6b0 := decide_eq_true c6
      clear c6
      replace H := Option.bind_eq_some_iff.mp H
      obtain ⟨t108, A70, H⟩ := H
      have A7 := qA0.mk A70
      clear A70
      by_cases c8 : t108 = true
      ·subst c8
       rw [if_pos rfl] at H
       have H' := qA0.mk H
       clear H
       have p107 : 0 ≤ ((ji4) : Int) := zd
       have q107 : (ji4) < (l0.length : Int) := zd
       obtain ⟨ad107, e107, hx107_0⟩ := Kd.qEL HR0.out (ji4) p107 q107
       cases e107
       replace p107 := eq_true p107
       replace q107 := eq_true q107
       go_wp2_with (((with_reducible refine qA9 (f := 65) rfl ?_); refine goesL_ (some 27) rfl rfl Try.func65 (by kernel_rfl) rfl #[.string (rdOf ByteArray.empty l0 (ji4)), .string a1] rfl (by (try simp only [List.map_toArray, List.map_cons, List.map_nil]); first | done | (simp only [hji4]; rfl) | rfl | (simp only [List.length_drop, List.length_take]; rfl)) ?_; (with_reducible refine (cmp_Less_string.calls (rdOf ByteArray.empty l0 (ji4)) a1 true _ A7.out).mono ?_); rintro e w' ⟨rfl, ⟨nd, rfl⟩⟩; refine ⟨_, rfl, ?_⟩))
       go_roundg k1
       case measure => have := HK1.out; omega
       case rel => exact ⟨(wrap64 ((ji4) + 1)), (x8_1), (by first | rfl | (simp; done) | (simp only [← hji4] <;> (first | rfl | simp)) | (simp [*]; done)), zs, H', ⟨by have := HK1.out; omega⟩, by repeat (first | exact qAE.refl _ | apply qAE.step)⟩
      ·replace c8 := Bool.eq_false_iff.mpr c8
       subst c8
       rw [if_neg (show ¬ (false = true) by decide)] at H
       have H' := qA0.mk H
       clear H
       have p107 : 0 ≤ ((ji4) : Int) := zd
       have q107 : (ji4) < (l0.length : Int) := zd
       obtain ⟨ad107, e107, hx107_0⟩ := Kd.qEL HR0.out (ji4) p107 q107
       cases e107
       replace p107 := eq_true p107
       replace q107 := eq_true q107
       go_wp2_with (((with_reducible refine qA9 (f := 65) rfl ?_); refine goesL_ (some 27) rfl rfl Try.func65 (by kernel_rfl) rfl #[.string (rdOf ByteArray.empty l0 (ji4)), .string a1] rfl (by (try simp only [List.map_toArray, List.map_cons, List.map_nil]); first | done | (simp only [hji4]; rfl) | rfl | (simp only [List.length_drop, List.length_take]; rfl)) ?_; (with_reducible refine (cmp_Less_string.calls (rdOf ByteArray.empty l0 (ji4)) a1 false _ A7.out).mono ?_); rintro e w' ⟨rfl, ⟨nd, rfl⟩⟩; refine ⟨_, rfl, ?_⟩))
       go_roundg k1
       case measure => have := HK1.out; omega
       case rel => exact ⟨(x7_1), (ji4), zs, (by first | rfl | (simp; done) | (simp only [← hji4] <;> (first | rfl | simp)) | (simp [*]; done)), H', ⟨by have := HK1.out; omega⟩, by repeat (first | exact qAE.refl _ | apply qAE.step)⟩
     ·rw [if_neg c6] at H
      exact absurd H (by simp)
    ·rw [if_neg c5] at H
     exact absurd H (by simp)
   ·rw [if_neg c3] at H
    have c3b0 := decide_eq_false c3
    clear c3
    by_cases c9 : x7_1 < (l0.length : Int)
    ·rw [if_pos c9] at H
     have c9b0 := decide_eq_true c9
     clear c9
     by_cases c10 : 0 ≤ x7_1
     ·rw [if_pos c10] at H
      have c10b0 := decide_eq_true c10
      clear c10
      by_cases c11 : x7_1 < (l0.length : Int)
      ·rw [if_pos c11] at H
       have c11b0 := decide_eq_true c11
       clear c11
       by_cases c12 : (rdOf ByteArray.empty l0 x7_1).toList = a1.toList
       ·rw [if_pos c12] at H
        have ⟨c12b0, c12b1⟩ := ze c12
        clear c12
        simp only [Option.some.injEq, Prod.mk.injEq] at H
        obtain ⟨rfl, rfl⟩ := H
        have p109 : 0 ≤ (x7_1 : Int) := zd
        have q109 : x7_1 < (l0.length : Int) := zd
        obtain ⟨ad109, e109, hx109_0⟩ := Kd.qEL HR0.out x7_1 p109 q109
        cases e109
        replace p109 := eq_true p109
        replace q109 := eq_true q109
        go_wp2
        go_ret2
        exact ⟨by first | rfl | (simp; done) | (simp [*]; done), by repeat (first | exact qAE.refl _ | apply qAE.step)⟩
       ·rw [if_neg c12] at H
        have ⟨c12b0, c12b1⟩ := zn c12
        replace H := Option.bind_eq_some_iff.mp H
        obtain ⟨t111, A130, H⟩ := H
        have A13 := qA0.mk A130
        clear A130
        by_cases c14 : t111 = true
        ·subst c14
         rw [if_pos rfl] at H
         replace H := Option.bind_eq_some_iff.mp H
         obtain ⟨t112, A150, H⟩ := H
         have A15 := qA0.mk A150
         clear A150
         simp only [Option.some.injEq, Prod.mk.injEq] at H
         obtain ⟨rfl, rfl⟩ := H
         have p109 : 0 ≤ (x7_1 : Int) := zd
         have q109 : x7_1 < (l0.length : Int) := zd
         obtain ⟨ad109, e109, hx109_0⟩ := Kd.qEL HR0.out x7_1 p109 q109
         cases e109
         replace p109 := eq_true p109
         replace q109 := eq_true q109
         have p110 : 0 ≤ (x7_1 : Int) := zd
         have q110 : x7_1 < (l0.length : Int) := zd
         obtain ⟨ad110, e110, hx110_0⟩ := Kd.qEL HR0.out x7_1 p110 q110
         obtain rfl : ad109 = ad110 := (by injection e110)
         replace p110 := eq_true p110
         replace q110 := eq_true q110
         go_wp2_with (first | (go_at_call 66; (with_reducible refine (slices_isNaN_string.calls (rdOf ByteArray.empty l0 x7_1) true _ A13.out).mono ?_); rintro e w' ⟨rfl, ⟨nd, rfl⟩⟩) | (go_at_call 66; (with_reducible refine (slices_isNaN_string.calls a1 t112 _ A15.out).mono ?_); rintro e w' ⟨rfl, ⟨nd, rfl⟩⟩))
         go_ret2
         exact ⟨by first | rfl | (simp; done) | (simp [*]; done), by repeat (first | exact qAE.refl _ | apply qAE.step)⟩
        ·replace c14 := Bool.eq_false_iff.mpr c14
         subst c14
         rw [if_neg (show ¬ (false = true) by decide)] at H
         simp only [Option.some.injEq, Prod.mk.injEq] at H
         obtain ⟨rfl, rfl⟩ := H
         have p109 : 0 ≤ (x7_1 : Int) := zd
         have q109 : x7_1 < (l0.length : Int) := zd
         obtain ⟨ad109, e109, hx109_0⟩ := Kd.qEL HR0.out x7_1 p109 q109
         cases e109
         replace p109 := eq_true p109
         replace q109 := eq_true q109
         have p110 : 0 ≤ (x7_1 : Int) := zd
         have q110 : x7_1 < (l0.length : Int) := zd
         obtain ⟨ad110, e110, hx110_0⟩ := Kd.qEL HR0.out x7_1 p110 q110
         obtain rfl : ad109 = ad110 := (by injection e110)
         replace p110 := eq_true p110
         replace q110 := eq_true q110
         go_wp2_with ((go_at_call 66; (with_reducible refine (slices_isNaN_string.calls (rdOf ByteArray.empty l0 x7_1) false _ A13.out).mono ?_); rintro e w' ⟨rfl, ⟨nd, rfl⟩⟩))
         go_ret2
         exact ⟨by first | rfl | (simp; done) | (simp [*]; done), by repeat (first | exact qAE.refl _ | apply qAE.step)⟩
      ·rw [if_neg c11] at H
       exact absurd H (by simp)
     ·rw [if_neg c10] at H
      exact absurd H (by simp)
    ·rw [if_neg c9] at H
     have c9b0 := decide_eq_false c9
     clear c9
     simp only [Option.some.injEq, Prod.mk.injEq] at H
     obtain ⟨rfl, rfl⟩ := H
     go_wp2
     go_ret2
     exact ⟨by first | rfl | (simp; done) | (simp [*]; done), by repeat (first | exact qAE.refl _ | apply qAE.step)⟩
def qDY.f  : Option (List ByteArray) := some (([(⟨#[97, 99, 116]⟩ : ByteArray), (⟨#[97, 110, 100]⟩ : ByteArray), (⟨#[97, 114, 116, 105, 99, 108, 101]⟩ : ByteArray), (⟨#[97, 116, 45, 109, 111, 115, 116]⟩ : ByteArray), (⟨#[97, 116, 116, 114, 105, 98, 117, 116, 101]⟩ : ByteArray), (⟨#[98, 97, 115, 101]⟩ : ByteArray), (⟨#[98, 101, 108, 111, 119]⟩ : ByteArray), (⟨#[98, 111, 111, 108]⟩ : ByteArray), (⟨#[99, 111, 117, 110, 116]⟩ : ByteArray), (⟨#[100, 97, 116, 101]⟩ : ByteArray), (⟨#[100, 97, 121, 115]⟩ : ByteArray), (⟨#[100, 111, 119, 110]⟩ : ByteArray), (⟨#[101, 108, 115, 101]⟩ : ByteArray), (⟨#[101, 110, 97, 99, 116, 101, 100]⟩ : ByteArray), (⟨#[101, 113, 117, 97, 108, 115]⟩ : ByteArray), (⟨#[102, 97, 108, 115, 101]⟩ : ByteArray), (⟨#[102, 114, 111, 109]⟩ : ByteArray), (⟨#[103, 105, 118, 101, 115]⟩ : ByteArray), (⟨#[103, 114, 101, 97, 116, 101, 115, 116]⟩ : ByteArray), (⟨#[104, 97, 108, 102]⟩ : ByteArray), (⟨#[104, 97, 108, 102, 45, 111, 117, 116]⟩ : ByteArray), (⟨#[104, 97, 108, 102, 45, 116, 119, 111]⟩ : ByteArray), (⟨#[105, 102]⟩ : ByteArray), (⟨#[105, 110, 112, 117, 116]⟩ : ByteArray), (⟨#[105, 115]⟩ : ByteArray), (⟨#[108, 101, 97, 115, 116]⟩ : ByteArray), (⟨#[108, 101, 118, 101, 108]⟩ : ByteArray), (⟨#[109, 105, 110, 117, 115]⟩ : ByteArray), (⟨#[109, 111, 110, 101, 121]⟩ : ByteArray), (⟨#[110, 111, 116]⟩ : ByteArray), (⟨#[110, 117, 109, 98, 101, 114]⟩ : ByteArray), (⟨#[111, 102]⟩ : ByteArray), (⟨#[111, 114]⟩ : ByteArray), (⟨#[111, 118, 101, 114]⟩ : ByteArray), (⟨#[112, 108, 117, 115]⟩ : ByteArray), (⟨#[114, 111, 117, 110, 100]⟩ : ByteArray), (⟨#[115, 99, 97, 108, 101]⟩ : ByteArray), (⟨#[115, 104, 97, 114, 101]⟩ : ByteArray), (⟨#[115, 108, 105, 99, 101, 115]⟩ : ByteArray), (⟨#[116, 97, 98, 108, 101]⟩ : ByteArray), (⟨#[116, 104, 101, 110]⟩ : ByteArray), (⟨#[116, 105, 109, 101, 115]⟩ : ByteArray), (⟨#[116, 111]⟩ : ByteArray), (⟨#[116, 111, 116, 97, 108]⟩ : ByteArray), (⟨#[116, 114, 117, 101]⟩ : ByteArray), (⟨#[117, 112]⟩ : ByteArray), (⟨#[119, 101, 105, 103, 104, 116]⟩ : ByteArray), (⟨#[119, 104, 101, 110]⟩ : ByteArray), (⟨#[121, 101, 97, 114, 115]⟩ : ByteArray)] : List ByteArray))
set_option maxHeartbeats 8000000 in
set_option maxRecDepth 100000 in
theorem qDY.calls  (r : List ByteArray) (w : World) (h : qDY.f  = some r) :
  Calls Try.prog 50 #[] w fun e w' => ∃ v0_ : Value, e = .returned (v0_) ∧ Kd.R Kd.string 9 w' w.heap.size (fun _ => True) v0_ r ∧ Below w.heap.size w w' := by
 have HB := qA0.mk (Below.refl w.heap.size w)
 have H : (some (([(⟨#[97, 99, 116]⟩ : ByteArray), (⟨#[97, 110, 100]⟩ : ByteArray), (⟨#[97, 114, 116, 105, 99, 108, 101]⟩ : ByteArray), (⟨#[97, 116, 45, 109, 111, 115, 116]⟩ : ByteArray), (⟨#[97, 116, 116, 114, 105, 98, 117, 116, 101]⟩ : ByteArray), (⟨#[98, 97, 115, 101]⟩ : ByteArray), (⟨#[98, 101, 108, 111, 119]⟩ : ByteArray), (⟨#[98, 111, 111, 108]⟩ : ByteArray), (⟨#[99, 111, 117, 110, 116]⟩ : ByteArray), (⟨#[100, 97, 116, 101]⟩ : ByteArray), (⟨#[100, 97, 121, 115]⟩ : ByteArray), (⟨#[100, 111, 119, 110]⟩ : ByteArray), (⟨#[101, 108, 115, 101]⟩ : ByteArray), (⟨#[101, 110, 97, 99, 116, 101, 100]⟩ : ByteArray), (⟨#[101, 113, 117, 97, 108, 115]⟩ : ByteArray), (⟨#[102, 97, 108, 115, 101]⟩ : ByteArray), (⟨#[102, 114, 111, 109]⟩ : ByteArray), (⟨#[103, 105, 118, 101, 115]⟩ : ByteArray), (⟨#[103, 114, 101, 97, 116, 101, 115, 116]⟩ : ByteArray), (⟨#[104, 97, 108, 102]⟩ : ByteArray), (⟨#[104, 97, 108, 102, 45, 111, 117, 116]⟩ : ByteArray), (⟨#[104, 97, 108, 102, 45, 116, 119, 111]⟩ : ByteArray), (⟨#[105, 102]⟩ : ByteArray), (⟨#[105, 110, 112, 117, 116]⟩ : ByteArray), (⟨#[105, 115]⟩ : ByteArray), (⟨#[108, 101, 97, 115, 116]⟩ : ByteArray), (⟨#[108, 101, 118, 101, 108]⟩ : ByteArray), (⟨#[109, 105, 110, 117, 115]⟩ : ByteArray), (⟨#[109, 111, 110, 101, 121]⟩ : ByteArray), (⟨#[110, 111, 116]⟩ : ByteArray), (⟨#[110, 117, 109, 98, 101, 114]⟩ : ByteArray), (⟨#[111, 102]⟩ : ByteArray), (⟨#[111, 114]⟩ : ByteArray), (⟨#[111, 118, 101, 114]⟩ : ByteArray), (⟨#[112, 108, 117, 115]⟩ : ByteArray), (⟨#[114, 111, 117, 110, 100]⟩ : ByteArray), (⟨#[115, 99, 97, 108, 101]⟩ : ByteArray), (⟨#[115, 104, 97, 114, 101]⟩ : ByteArray), (⟨#[115, 108, 105, 99, 101, 115]⟩ : ByteArray), (⟨#[116, 97, 98, 108, 101]⟩ : ByteArray), (⟨#[116, 104, 101, 110]⟩ : ByteArray), (⟨#[116, 105, 109, 101, 115]⟩ : ByteArray), (⟨#[116, 111]⟩ : ByteArray), (⟨#[116, 111, 116, 97, 108]⟩ : ByteArray), (⟨#[116, 114, 117, 101]⟩ : ByteArray), (⟨#[117, 112]⟩ : ByteArray), (⟨#[119, 101, 105, 103, 104, 116]⟩ : ByteArray), (⟨#[119, 104, 101, 110]⟩ : ByteArray), (⟨#[121, 101, 97, 114, 115]⟩ : ByteArray)] : List ByteArray))) = some r := h
 clear h
 obtain ⟨y113, hy_⟩ : ∃ y_ : List ByteArray, y_ = (([(⟨#[97, 99, 116]⟩ : ByteArray), (⟨#[97, 110, 100]⟩ : ByteArray), (⟨#[97, 114, 116, 105, 99, 108, 101]⟩ : ByteArray), (⟨#[97, 116, 45, 109, 111, 115, 116]⟩ : ByteArray), (⟨#[97, 116, 116, 114, 105, 98, 117, 116, 101]⟩ : ByteArray), (⟨#[98, 97, 115, 101]⟩ : ByteArray), (⟨#[98, 101, 108, 111, 119]⟩ : ByteArray), (⟨#[98, 111, 111, 108]⟩ : ByteArray), (⟨#[99, 111, 117, 110, 116]⟩ : ByteArray), (⟨#[100, 97, 116, 101]⟩ : ByteArray), (⟨#[100, 97, 121, 115]⟩ : ByteArray), (⟨#[100, 111, 119, 110]⟩ : ByteArray), (⟨#[101, 108, 115, 101]⟩ : ByteArray), (⟨#[101, 110, 97, 99, 116, 101, 100]⟩ : ByteArray), (⟨#[101, 113, 117, 97, 108, 115]⟩ : ByteArray), (⟨#[102, 97, 108, 115, 101]⟩ : ByteArray), (⟨#[102, 114, 111, 109]⟩ : ByteArray), (⟨#[103, 105, 118, 101, 115]⟩ : ByteArray), (⟨#[103, 114, 101, 97, 116, 101, 115, 116]⟩ : ByteArray), (⟨#[104, 97, 108, 102]⟩ : ByteArray), (⟨#[104, 97, 108, 102, 45, 111, 117, 116]⟩ : ByteArray), (⟨#[104, 97, 108, 102, 45, 116, 119, 111]⟩ : ByteArray), (⟨#[105, 102]⟩ : ByteArray), (⟨#[105, 110, 112, 117, 116]⟩ : ByteArray), (⟨#[105, 115]⟩ : ByteArray), (⟨#[108, 101, 97, 115, 116]⟩ : ByteArray), (⟨#[108, 101, 118, 101, 108]⟩ : ByteArray), (⟨#[109, 105, 110, 117, 115]⟩ : ByteArray), (⟨#[109, 111, 110, 101, 121]⟩ : ByteArray), (⟨#[110, 111, 116]⟩ : ByteArray), (⟨#[110, 117, 109, 98, 101, 114]⟩ : ByteArray), (⟨#[111, 102]⟩ : ByteArray), (⟨#[111, 114]⟩ : ByteArray), (⟨#[111, 118, 101, 114]⟩ : ByteArray), (⟨#[112, 108, 117, 115]⟩ : ByteArray), (⟨#[114, 111, 117, 110, 100]⟩ : ByteArray), (⟨#[115, 99, 97, 108, 101]⟩ : ByteArray), (⟨#[115, 104, 97, 114, 101]⟩ : ByteArray), (⟨#[115, 108, 105, 99, 101, 115]⟩ : ByteArray), (⟨#[116, 97, 98, 108, 101]⟩ : ByteArray), (⟨#[116, 104, 101, 110]⟩ : ByteArray), (⟨#[116, 105, 109, 101, 115]⟩ : ByteArray), (⟨#[116, 111]⟩ : ByteArray), (⟨#[116, 111, 116, 97, 108]⟩ : ByteArray), (⟨#[116, 114, 117, 101]⟩ : ByteArray), (⟨#[117, 112]⟩ : ByteArray), (⟨#[119, 101, 105, 103, 104, 116]⟩ : ByteArray), (⟨#[119, 104, 101, 110]⟩ : ByteArray), (⟨#[121, 101, 97, 114, 115]⟩ : ByteArray)] : List ByteArray)) := ⟨_, rfl⟩
 replace H : (some y113) = some r := zr
 have Ny113 := qA0.mk hy_
 clear hy_
 obtain rfl := Option.some.inj H
 go_enter Try.func50, Try.ntmps50
 go_wp2_with (((with_reducible refine qAC (N := 1) rfl ?_); refine Kd.qF5 Kd.string _ 9 ?hg (N := 1) ?hd (xs := ([(⟨#[97, 99, 116]⟩ : ByteArray), (⟨#[97, 110, 100]⟩ : ByteArray), (⟨#[97, 114, 116, 105, 99, 108, 101]⟩ : ByteArray), (⟨#[97, 116, 45, 109, 111, 115, 116]⟩ : ByteArray), (⟨#[97, 116, 116, 114, 105, 98, 117, 116, 101]⟩ : ByteArray), (⟨#[98, 97, 115, 101]⟩ : ByteArray), (⟨#[98, 101, 108, 111, 119]⟩ : ByteArray), (⟨#[98, 111, 111, 108]⟩ : ByteArray), (⟨#[99, 111, 117, 110, 116]⟩ : ByteArray), (⟨#[100, 97, 116, 101]⟩ : ByteArray), (⟨#[100, 97, 121, 115]⟩ : ByteArray), (⟨#[100, 111, 119, 110]⟩ : ByteArray), (⟨#[101, 108, 115, 101]⟩ : ByteArray), (⟨#[101, 110, 97, 99, 116, 101, 100]⟩ : ByteArray), (⟨#[101, 113, 117, 97, 108, 115]⟩ : ByteArray), (⟨#[102, 97, 108, 115, 101]⟩ : ByteArray), (⟨#[102, 114, 111, 109]⟩ : ByteArray), (⟨#[103, 105, 118, 101, 115]⟩ : ByteArray), (⟨#[103, 114, 101, 97, 116, 101, 115, 116]⟩ : ByteArray), (⟨#[104, 97, 108, 102]⟩ : ByteArray), (⟨#[104, 97, 108, 102, 45, 111, 117, 116]⟩ : ByteArray), (⟨#[104, 97, 108, 102, 45, 116, 119, 111]⟩ : ByteArray), (⟨#[105, 102]⟩ : ByteArray), (⟨#[105, 110, 112, 117, 116]⟩ : ByteArray), (⟨#[105, 115]⟩ : ByteArray), (⟨#[108, 101, 97, 115, 116]⟩ : ByteArray), (⟨#[108, 101, 118, 101, 108]⟩ : ByteArray), (⟨#[109, 105, 110, 117, 115]⟩ : ByteArray), (⟨#[109, 111, 110, 101, 121]⟩ : ByteArray), (⟨#[110, 111, 116]⟩ : ByteArray), (⟨#[110, 117, 109, 98, 101, 114]⟩ : ByteArray), (⟨#[111, 102]⟩ : ByteArray), (⟨#[111, 114]⟩ : ByteArray), (⟨#[111, 118, 101, 114]⟩ : ByteArray), (⟨#[112, 108, 117, 115]⟩ : ByteArray), (⟨#[114, 111, 117, 110, 100]⟩ : ByteArray), (⟨#[115, 99, 97, 108, 101]⟩ : ByteArray), (⟨#[115, 104, 97, 114, 101]⟩ : ByteArray), (⟨#[115, 108, 105, 99, 101, 115]⟩ : ByteArray), (⟨#[116, 97, 98, 108, 101]⟩ : ByteArray), (⟨#[116, 104, 101, 110]⟩ : ByteArray), (⟨#[116, 105, 109, 101, 115]⟩ : ByteArray), (⟨#[116, 111]⟩ : ByteArray), (⟨#[116, 111, 116, 97, 108]⟩ : ByteArray), (⟨#[116, 114, 117, 101]⟩ : ByteArray), (⟨#[117, 112]⟩ : ByteArray), (⟨#[119, 101, 105, 103, 104, 116]⟩ : ByteArray), (⟨#[119, 104, 101, 110]⟩ : ByteArray), (⟨#[121, 101, 97, 114, 115]⟩ : ByteArray)] : List ByteArray)) (inner := [.string (⟨#[97, 99, 116]⟩ : ByteArray), .string (⟨#[97, 110, 100]⟩ : ByteArray), .string (⟨#[97, 114, 116, 105, 99, 108, 101]⟩ : ByteArray), .string (⟨#[97, 116, 45, 109, 111, 115, 116]⟩ : ByteArray), .string (⟨#[97, 116, 116, 114, 105, 98, 117, 116, 101]⟩ : ByteArray), .string (⟨#[98, 97, 115, 101]⟩ : ByteArray), .string (⟨#[98, 101, 108, 111, 119]⟩ : ByteArray), .string (⟨#[98, 111, 111, 108]⟩ : ByteArray), .string (⟨#[99, 111, 117, 110, 116]⟩ : ByteArray), .string (⟨#[100, 97, 116, 101]⟩ : ByteArray), .string (⟨#[100, 97, 121, 115]⟩ : ByteArray), .string (⟨#[100, 111, 119, 110]⟩ : ByteArray), .string (⟨#[101, 108, 115, 101]⟩ : ByteArray), .string (⟨#[101, 110, 97, 99, 116, 101, 100]⟩ : ByteArray), .string (⟨#[101, 113, 117, 97, 108, 115]⟩ : ByteArray), .string (⟨#[102, 97, 108, 115, 101]⟩ : ByteArray), .string (⟨#[102, 114, 111, 109]⟩ : ByteArray), .string (⟨#[103, 105, 118, 101, 115]⟩ : ByteArray), .string (⟨#[103, 114, 101, 97, 116, 101, 115, 116]⟩ : ByteArray), .string (⟨#[104, 97, 108, 102]⟩ : ByteArray), .string (⟨#[104, 97, 108, 102, 45, 111, 117, 116]⟩ : ByteArray), .string (⟨#[104, 97, 108, 102, 45, 116, 119, 111]⟩ : ByteArray), .string (⟨#[105, 102]⟩ : ByteArray), .string (⟨#[105, 110, 112, 117, 116]⟩ : ByteArray), .string (⟨#[105, 115]⟩ : ByteArray), .string (⟨#[108, 101, 97, 115, 116]⟩ : ByteArray), .string (⟨#[108, 101, 118, 101, 108]⟩ : ByteArray), .string (⟨#[109, 105, 110, 117, 115]⟩ : ByteArray), .string (⟨#[109, 111, 110, 101, 121]⟩ : ByteArray), .string (⟨#[110, 111, 116]⟩ : ByteArray), .string (⟨#[110, 117, 109, 98, 101, 114]⟩ : ByteArray), .string (⟨#[111, 102]⟩ : ByteArray), .string (⟨#[111, 114]⟩ : ByteArray), .string (⟨#[111, 118, 101, 114]⟩ : ByteArray), .string (⟨#[112, 108, 117, 115]⟩ : ByteArray), .string (⟨#[114, 111, 117, 110, 100]⟩ : ByteArray), .string (⟨#[115, 99, 97, 108, 101]⟩ : ByteArray), .string (⟨#[115, 104, 97, 114, 101]⟩ : ByteArray), .string (⟨#[115, 108, 105, 99, 101, 115]⟩ : ByteArray), .string (⟨#[116, 97, 98, 108, 101]⟩ : ByteArray), .string (⟨#[116, 104, 101, 110]⟩ : ByteArray), .string (⟨#[116, 105, 109, 101, 115]⟩ : ByteArray), .string (⟨#[116, 111]⟩ : ByteArray), .string (⟨#[116, 111, 116, 97, 108]⟩ : ByteArray), .string (⟨#[116, 114, 117, 101]⟩ : ByteArray), .string (⟨#[117, 112]⟩ : ByteArray), .string (⟨#[119, 101, 105, 103, 104, 116]⟩ : ByteArray), .string (⟨#[119, 104, 101, 110]⟩ : ByteArray), .string (⟨#[121, 101, 97, 114, 115]⟩ : ByteArray)]) (ok := fun _ => True) (okp := fun _ => True) ?hr ?hp (fun _ hk => hk) trivial (Below.refl _ _) (Nat.le_refl _) (by simp) ?_; (case hd => rfl); (case hg => rfl); (case hr => first | (go_simp; done) | (go_simp; rfl)); (case hp => exact (Reps.one (show Kd.M Kd.string _ _ _ (⟨#[97, 99, 116]⟩ : ByteArray) [.string (⟨#[97, 99, 116]⟩ : ByteArray)] from rfl) (Reps.one (show Kd.M Kd.string _ _ _ (⟨#[97, 110, 100]⟩ : ByteArray) [.string (⟨#[97, 110, 100]⟩ : ByteArray)] from rfl) (Reps.one (show Kd.M Kd.string _ _ _ (⟨#[97, 114, 116, 105, 99, 108, 101]⟩ : ByteArray) [.string (⟨#[97, 114, 116, 105, 99, 108, 101]⟩ : ByteArray)] from rfl) (Reps.one (show Kd.M Kd.string _ _ _ (⟨#[97, 116, 45, 109, 111, 115, 116]⟩ : ByteArray) [.string (⟨#[97, 116, 45, 109, 111, 115, 116]⟩ : ByteArray)] from rfl) (Reps.one (show Kd.M Kd.string _ _ _ (⟨#[97, 116, 116, 114, 105, 98, 117, 116, 101]⟩ : ByteArray) [.string (⟨#[97, 116, 116, 114, 105, 98, 117, 116, 101]⟩ : ByteArray)] from rfl) (Reps.one (show Kd.M Kd.string _ _ _ (⟨#[98, 97, 115, 101]⟩ : ByteArray) [.string (⟨#[98, 97, 115, 101]⟩ : ByteArray)] from rfl) (Reps.one (show Kd.M Kd.string _ _ _ (⟨#[98, 101, 108, 111, 119]⟩ : ByteArray) [.string (⟨#[98, 101, 108, 111, 119]⟩ : ByteArray)] from rfl) (Reps.one (show Kd.M Kd.string _ _ _ (⟨#[98, 111, 111, 108]⟩ : ByteArray) [.string (⟨#[98, 111, 111, 108]⟩ : ByteArray)] from rfl) (Reps.one (show Kd.M Kd.string _ _ _ (⟨#[99, 111, 117, 110, 116]⟩ : ByteArray) [.string (⟨#[99, 111, 117, 110, 116]⟩ : ByteArray)] from rfl) (Reps.one (show Kd.M Kd.string _ _ _ (⟨#[100, 97, 116, 101]⟩ : ByteArray) [.string (⟨#[100, 97, 116, 101]⟩ : ByteArray)] from rfl) (Reps.one (show Kd.M Kd.string _ _ _ (⟨#[100, 97, 121, 115]⟩ : ByteArray) [.string (⟨#[100, 97, 121, 115]⟩ : ByteArray)] from rfl) (Reps.one (show Kd.M Kd.string _ _ _ (⟨#[100, 111, 119, 110]⟩ : ByteArray) [.string (⟨#[100, 111, 119, 110]⟩ : ByteArray)] from rfl) (Reps.one (show Kd.M Kd.string _ _ _ (⟨#[101, 108, 115, 101]⟩ : ByteArray) [.string (⟨#[101, 108, 115, 101]⟩ : ByteArray)] from rfl) (Reps.one (show Kd.M Kd.string _ _ _ (⟨#[101, 110, 97, 99, 116, 101, 100]⟩ : ByteArray) [.string (⟨#[101, 110, 97, 99, 116, 101, 100]⟩ : ByteArray)] from rfl) (Reps.one (show Kd.M Kd.string _ _ _ (⟨#[101, 113, 117, 97, 108, 115]⟩ : ByteArray) [.string (⟨#[101, 113, 117, 97, 108, 115]⟩ : ByteArray)] from rfl) (Reps.one (show Kd.M Kd.string _ _ _ (⟨#[102, 97, 108, 115, 101]⟩ : ByteArray) [.string (⟨#[102, 97, 108, 115, 101]⟩ : ByteArray)] from rfl) (Reps.one (show Kd.M Kd.string _ _ _ (⟨#[102, 114, 111, 109]⟩ : ByteArray) [.string (⟨#[102, 114, 111, 109]⟩ : ByteArray)] from rfl) (Reps.one (show Kd.M Kd.string _ _ _ (⟨#[103, 105, 118, 101, 115]⟩ : ByteArray) [.string (⟨#[103, 105, 118, 101, 115]⟩ : ByteArray)] from rfl) (Reps.one (show Kd.M Kd.string _ _ _ (⟨#[103, 114, 101, 97, 116, 101, 115, 116]⟩ : ByteArray) [.string (⟨#[103, 114, 101, 97, 116, 101, 115, 116]⟩ : ByteArray)] from rfl) (Reps.one (show Kd.M Kd.string _ _ _ (⟨#[104, 97, 108, 102]⟩ : ByteArray) [.string (⟨#[104, 97, 108, 102]⟩ : ByteArray)] from rfl) (Reps.one (show Kd.M Kd.string _ _ _ (⟨#[104, 97, 108, 102, 45, 111, 117, 116]⟩ : ByteArray) [.string (⟨#[104, 97, 108, 102, 45, 111, 117, 116]⟩ : ByteArray)] from rfl) (Reps.one (show Kd.M Kd.string _ _ _ (⟨#[104, 97, 108, 102, 45, 116, 119, 111]⟩ : ByteArray) [.string (⟨#[104, 97, 108, 102, 45, 116, 119, 111]⟩ : ByteArray)] from rfl) (Reps.one (show Kd.M Kd.string _ _ _ (⟨#[105, 102]⟩ : ByteArray) [.string (⟨#[105, 102]⟩ : ByteArray)] from rfl) (Reps.one (show Kd.M Kd.string _ _ _ (⟨#[105, 110, 112, 117, 116]⟩ : ByteArray) [.string (⟨#[105, 110, 112, 117, 116]⟩ : ByteArray)] from rfl) (Reps.one (show Kd.M Kd.string _ _ _ (⟨#[105, 115]⟩ : ByteArray) [.string (⟨#[105, 115]⟩ : ByteArray)] from rfl) (Reps.one (show Kd.M Kd.string _ _ _ (⟨#[108, 101, 97, 115, 116]⟩ : ByteArray) [.string (⟨#[108, 101, 97, 115, 116]⟩ : ByteArray)] from rfl) (Reps.one (show Kd.M Kd.string _ _ _ (⟨#[108, 101, 118, 101, 108]⟩ : ByteArray) [.string (⟨#[108, 101, 118, 101, 108]⟩ : ByteArray)] from rfl) (Reps.one (show Kd.M Kd.string _ _ _ (⟨#[109, 105, 110, 117, 115]⟩ : ByteArray) [.string (⟨#[109, 105, 110, 117, 115]⟩ : ByteArray)] from rfl) (Reps.one (show Kd.M Kd.string _ _ _ (⟨#[109, 111, 110, 101, 121]⟩ : ByteArray) [.string (⟨#[109, 111, 110, 101, 121]⟩ : ByteArray)] from rfl) (Reps.one (show Kd.M Kd.string _ _ _ (⟨#[110, 111, 116]⟩ : ByteArray) [.string (⟨#[110, 111, 116]⟩ : ByteArray)] from rfl) (Reps.one (show Kd.M Kd.string _ _ _ (⟨#[110, 117, 109, 98, 101, 114]⟩ : ByteArray) [.string (⟨#[110, 117, 109, 98, 101, 114]⟩ : ByteArray)] from rfl) (Reps.one (show Kd.M Kd.string _ _ _ (⟨#[111, 102]⟩ : ByteArray) [.string (⟨#[111, 102]⟩ : ByteArray)] from rfl) (Reps.one (show Kd.M Kd.string _ _ _ (⟨#[111, 114]⟩ : ByteArray) [.string (⟨#[111, 114]⟩ : ByteArray)] from rfl) (Reps.one (show Kd.M Kd.string _ _ _ (⟨#[111, 118, 101, 114]⟩ : ByteArray) [.string (⟨#[111, 118, 101, 114]⟩ : ByteArray)] from rfl) (Reps.one (show Kd.M Kd.string _ _ _ (⟨#[112, 108, 117, 115]⟩ : ByteArray) [.string (⟨#[112, 108, 117, 115]⟩ : ByteArray)] from rfl) (Reps.one (show Kd.M Kd.string _ _ _ (⟨#[114, 111, 117, 110, 100]⟩ : ByteArray) [.string (⟨#[114, 111, 117, 110, 100]⟩ : ByteArray)] from rfl) (Reps.one (show Kd.M Kd.string _ _ _ (⟨#[115, 99, 97, 108, 101]⟩ : ByteArray) [.string (⟨#[115, 99, 97, 108, 101]⟩ : ByteArray)] from rfl) (Reps.one (show Kd.M Kd.string _ _ _ (⟨#[115, 104, 97, 114, 101]⟩ : ByteArray) [.string (⟨#[115, 104, 97, 114, 101]⟩ : ByteArray)] from rfl) (Reps.one (show Kd.M Kd.string _ _ _ (⟨#[115, 108, 105, 99, 101, 115]⟩ : ByteArray) [.string (⟨#[115, 108, 105, 99, 101, 115]⟩ : ByteArray)] from rfl) (Reps.one (show Kd.M Kd.string _ _ _ (⟨#[116, 97, 98, 108, 101]⟩ : ByteArray) [.string (⟨#[116, 97, 98, 108, 101]⟩ : ByteArray)] from rfl) (Reps.one (show Kd.M Kd.string _ _ _ (⟨#[116, 104, 101, 110]⟩ : ByteArray) [.string (⟨#[116, 104, 101, 110]⟩ : ByteArray)] from rfl) (Reps.one (show Kd.M Kd.string _ _ _ (⟨#[116, 105, 109, 101, 115]⟩ : ByteArray) [.string (⟨#[116, 105, 109, 101, 115]⟩ : ByteArray)] from rfl) (Reps.one (show Kd.M Kd.string _ _ _ (⟨#[116, 111]⟩ : ByteArray) [.string (⟨#[116, 111]⟩ : ByteArray)] from rfl) (Reps.one (show Kd.M Kd.string _ _ _ (⟨#[116, 111, 116, 97, 108]⟩ : ByteArray) [.string (⟨#[116, 111, 116, 97, 108]⟩ : ByteArray)] from rfl) (Reps.one (show Kd.M Kd.string _ _ _ (⟨#[116, 114, 117, 101]⟩ : ByteArray) [.string (⟨#[116, 114, 117, 101]⟩ : ByteArray)] from rfl) (Reps.one (show Kd.M Kd.string _ _ _ (⟨#[117, 112]⟩ : ByteArray) [.string (⟨#[117, 112]⟩ : ByteArray)] from rfl) (Reps.one (show Kd.M Kd.string _ _ _ (⟨#[119, 101, 105, 103, 104, 116]⟩ : ByteArray) [.string (⟨#[119, 101, 105, 103, 104, 116]⟩ : ByteArray)] from rfl) (Reps.one (show Kd.M Kd.string _ _ _ (⟨#[119, 104, 101, 110]⟩ : ByteArray) [.string (⟨#[119, 104, 101, 110]⟩ : ByteArray)] from rfl) (Reps.one (show Kd.M Kd.string _ _ _ (⟨#[121, 101, 97, 114, 115]⟩ : ByteArray) [.string (⟨#[121, 101, 97, 114, 115]⟩ : ByteArray)] from rfl) (Reps.none _ _))))))))))))))))))))))))))))))))))))))))))))))))))); intro v114 w1 ho2 hb hg_ hnew_; clear hg_ hnew_; (first | rw [← Ny113.out] at ho2 | (simp only [Int.reduceToNat] at ho2; rw [← Ny113.out] at ho2)); have HO115 := qA0.mk (Kd.qC9 ho2 (qAM zb)); replace HB := qA0.mk (qA1 zb hb); clear hb ho2))
 go_ret
 exact ⟨_, zf, by (with_reducible repeat (first | apply Kd.qDG | apply Kd.qDF | apply Kd.qDJ)); exact HO115.out, zb⟩
end
end Go.Proofs.Ytnliaialemfcaaa.PRateFinds
end
section
namespace Go.Proofs.Ytnliaialemfcaaa.PRateFinds
noncomputable section
open Go.RowKit Go.Proofs.YtnliaialemfcaaaW.PrintWords Go.Proofs.YtnliaialemfcaaaW.PrintLast Go.Proofs.YtnliaialemfcaaaW.PrintMore
mutual
def qB8.j0 : Nat → ByteArray → Bool → Option (Bool)
 | 0, _, _ => none
 | k + 1, x0, x18 => if x18 = true then (some false) else (qB8.l0 k x0 (x0.size : Int) 0)
def qB8.l0 : Nat → ByteArray → Int → Int → Option (Bool)
 | 0, _, _, _ => none
 | k + 1, x0, x20, x21 => if x21 < x20 then (if 0 ≤ x21 then (if x21 < (x0.size : Int) then ((qDQ.f (bt x0 x21)).bind fun t117 => (if t117 = true then (qB8.l0 k x0 x20 (wrap64 (x21 + 1))) else (some false))) else (none)) else (none)) else ((qDY.f).bind fun t118 => ((qA6.f k t118 x0).bind fun bt121 => (some (!bt121.2))))
end
def qB8.f (k : Nat) (a0 : ByteArray) : Option (Bool) := if a0.toList = ([] : List UInt8) then (qB8.j0 k a0 true) else (if (a0.size : Int) > 20 then (qB8.j0 k a0 true) else (if 0 < (a0.size : Int) then ((qCC.f (bt a0 0)).bind fun t116 => (qB8.j0 k a0 (!t116))) else (none)))
set_option maxHeartbeats 8000000 in
set_option maxRecDepth 100000 in
theorem qB8.calls (k : Nat) (a0 : ByteArray) (r : Bool) (w : World) (h : qB8.f k a0 = some r) :
  Calls Try.prog 27 #[.string a0] w fun e w' => e = .returned (.bool r) ∧ Below w.heap.size w w' := by
 have HB := qA0.mk (Below.refl w.heap.size w)
 have H : (if a0.toList = ([] : List UInt8) then (qB8.j0 k a0 true) else (if (a0.size : Int) > 20 then (qB8.j0 k a0 true) else (if 0 < (a0.size : Int) then ((qCC.f (bt a0 0)).bind fun t116 => (qB8.j0 k a0 (!t116))) else (none)))) = some r := h
 clear h
 have HC2 := qA0.mk H
 clear H
 go_enter Try.func27, Try.ntmps27
 go_upto_region 1 with (fail)
 go_cut [18] (fun v18 wc => ∃ (kq : Nat) (x18_1 : Bool), v18 = .bool x18_1 ∧ qA0 (qB8.j0 kq a0 x18_1 = some r) ∧ qA0 (kq ≤ k) ∧ qA0 (Below w.heap.size w wc))
 case first =>
  have H := HC2.out
  clear HC2
  by_cases c3 : a0.toList = ([] : List UInt8)
  ·rw [if_pos c3] at H
   have ⟨c3b0, c3b1⟩ := ze c3
   clear c3
   (first | rw [c3b0] | (simp only [qCE, qCJ]; rw [c3b0]) | skip)
   have H' := qA0.mk H
   clear H
   go_wp2
   go_meet
   case rel => exact ⟨_, (true), zs, H', ⟨by first | omega | exact Nat.le_refl _⟩, ⟨zb⟩⟩
  ·rw [if_neg c3] at H
   have ⟨c3b0, c3b1⟩ := zn c3
   (first | rw [c3b0] | (simp only [qCE, qCJ]; rw [c3b0]) | skip)
   by_cases c4 : (a0.size : Int) > 20
   ·rw [if_pos c4] at H
    have c4b0 := decide_eq_true c4
    have c4b1 : decide (20 < a0.size) = true := decide_eq_true (by omega)
    clear c4
    have H' := qA0.mk H
    clear H
    go_wp2
    go_meet
    case rel => exact ⟨_, (true), zs, H', ⟨by first | omega | exact Nat.le_refl _⟩, ⟨zb⟩⟩
   ·rw [if_neg c4] at H
    have c4b0 := decide_eq_false c4
    have c4b1 : decide (20 < a0.size) = false := decide_eq_false (by omega)
    clear c4
    by_cases c5 : 0 < (a0.size : Int)
    ·rw [if_pos c5] at H
     have c5b0 := decide_eq_true c5
     have c5b1 : decide (0 < a0.size) = true := decide_eq_true (by omega)
     clear c5
     replace H := Option.bind_eq_some_iff.mp H
     obtain ⟨t116, A70, H⟩ := H
     have A7 := qA0.mk A70
     clear A70
     have H' := qA0.mk H
     clear H
     have p6 : 0 ≤ (0 : Int) := (by omega)
     have q6 : 0 < a0.size := (by have : (0 : Int) < (a0.size : Int) := zd; omega)
     have hx6 : ∀ h : 0 < a0.size, ((a0[0]'h).toNat : Int) = bt a0 0 := bt_at a0 0
     clear p6
     have qi6 : (0 < (a0.size : Int)) = True := eq_true (zd)
     replace q6 := eq_true q6
     go_wp2_with ((go_at_call 47; (with_reducible refine (qCC.calls (bt a0 0) t116 _ A7.out).mono ?_); rintro e w' ⟨rfl, ⟨nd, rfl⟩⟩))
     go_meet
     case rel => exact ⟨_, (!t116), zs, H', ⟨by first | omega | exact Nat.le_refl _⟩, ⟨zb⟩⟩
    ·rw [if_neg c5] at H
     exact absurd H (by simp)
 case rest =>
  clear HC2
  obtain ⟨kq, x18_1, rfl, HA, HJ1, HB⟩ := hcut
  cases kq with
  | zero => exact absurd HA.out (by simp [qB8.j0])
  | succ kj1 =>
   have H := HA.out
   clear HA
   simp only [qB8.j0] at H
   by_cases c8 : x18_1 = true
   ·subst c8
    rw [if_pos rfl] at H
    obtain rfl := Option.some.inj H
    go_wp2
    go_ret
    exact ⟨zf, zb⟩
   ·replace c8 := Bool.eq_false_iff.mpr c8
    subst c8
    rw [if_neg (show ¬ (false = true) by decide)] at H
    have H' := qA0.mk H
    clear H
    go_wp2
    go_loopg [21] kj1 (fun kq v21 w' => ∃ (x21_2 : Int), v21 = .int .i64 x21_2 ∧ qA0 (qB8.l0 kq a0 (a0.size : Int) x21_2 = some r) ∧ qA0 (kq ≤ kj1) ∧ qA0 (Below w.heap.size w w'))
    case atStart => exact ⟨(0), zs, H', ⟨Nat.le_refl _⟩, ⟨zb⟩⟩
    case round =>
     clear H'
     obtain ⟨x21_2, rfl, HA, HK2, HB⟩ := hrel
     cases gk with
     | zero => exact absurd HA.out (by simp [qB8.l0])
     | succ k2 =>
      have H := HA.out
      clear HA
      simp only [qB8.l0] at H
      by_cases c9 : x21_2 < (a0.size : Int)
      ·rw [if_pos c9] at H
       have c9b0 := decide_eq_true c9
       clear c9
       by_cases c10 : 0 ≤ x21_2
       ·rw [if_pos c10] at H
        have c10b0 := decide_eq_true c10
        clear c10
        by_cases c11 : x21_2 < (a0.size : Int)
        ·rw [if_pos c11] at H
         have c11b0 := decide_eq_true c11
         clear c11
         replace H := Option.bind_eq_some_iff.mp H
         obtain ⟨t117, A130, H⟩ := H
         have A13 := qA0.mk A130
         clear A130
         by_cases c14 : t117 = true
         ·subst c14
          rw [if_pos rfl] at H
          have H' := qA0.mk H
          clear H
          have p12 : 0 ≤ (x21_2 : Int) := zd
          have q12 : x21_2 < (a0.size : Int) := zd
          have hx12 := bt_at a0 x21_2
          replace p12 := eq_true p12
          replace q12 := eq_true q12
          go_wp2_with (((with_reducible refine qA9 (f := 48) rfl ?_); refine qC2 (some 27) Try.func48 #[.int .u8 (bt a0 x21_2)] ?_; (with_reducible refine (qDQ.calls (bt a0 x21_2) true _ A13.out).mono ?_); rintro e w' ⟨rfl, ⟨nd, rfl⟩⟩; refine ⟨_, rfl, ?_⟩))
          go_roundg k2
          case measure => have := HJ1.out; have := HK2.out; omega
          case rel => exact ⟨(wrap64 (x21_2 + 1)), zs, H', ⟨by have := HJ1.out; have := HK2.out; omega⟩, ⟨zb⟩⟩
         ·replace c14 := Bool.eq_false_iff.mpr c14
          subst c14
          rw [if_neg (show ¬ (false = true) by decide)] at H
          obtain rfl := Option.some.inj H
          have p12 : 0 ≤ (x21_2 : Int) := zd
          have q12 : x21_2 < (a0.size : Int) := zd
          have hx12 := bt_at a0 x21_2
          replace p12 := eq_true p12
          replace q12 := eq_true q12
          go_wp2_with (((with_reducible refine qA9 (f := 48) rfl ?_); refine qC2 (some 27) Try.func48 #[.int .u8 (bt a0 x21_2)] ?_; (with_reducible refine (qDQ.calls (bt a0 x21_2) false _ A13.out).mono ?_); rintro e w' ⟨rfl, ⟨nd, rfl⟩⟩; refine ⟨_, rfl, ?_⟩))
          go_ret
          exact ⟨zf, zb⟩
        ·rw [if_neg c11] at H
         exact absurd H (by simp)
       ·rw [if_neg c10] at H
        exact absurd H (by simp)
      ·rw [if_neg c9] at H
       have c9b0 := decide_eq_false c9
       clear c9
       replace H := Option.bind_eq_some_iff.mp H
       obtain ⟨t118, A150, H⟩ := H
       have A15 := qA0.mk A150
       clear A150
       replace H := Option.bind_eq_some_iff.mp H
       obtain ⟨⟨t121, t122⟩, A160, H⟩ := H
       replace H : (some (!t122)) = some r := H
       have A16 := qA0.mk A160
       clear A160
       obtain rfl := Option.some.inj H
       go_wp2_with (first | ((with_reducible refine qA9 (f := 50) rfl ?_); refine qC2 (some 31) Try.func50 #[] ?_; (with_reducible refine (qDY.calls  t118 _ A15.out).mono ?_); rintro e w17 ⟨v119, rfl, ho0, hb⟩; refine ⟨_, rfl, ?_⟩; have HO120 := qA0.mk (Kd.qC9 ho0 (qAM zb)); replace HB := qA0.mk (qA1 zb hb); (try clear hb); (try clear hb2); (try clear hk); (try clear hi); (try clear ho0); obtain ⟨Ao18, co18, eo18⟩ := Kd.qBW HO120.out; subst eo18) | ((with_reducible refine qA9 (f := 49) rfl ?_); refine qC2 (some 33) Try.func49 #[.slice Ao18 t118.length co18, .string a0] ?_; (with_reducible refine (qA6.calls k2 _ _ t118 a0 t121 t122 _ ?side1 ?side2 A16.out).mono ?_); (case side1 => repeat (first | exact (Kd.qAU HO120.out).2.2 | refine sC ?_)); (case side2 => exact (Kd.qAU HO120.out).2.1); rintro e w' ⟨rfl, ⟨nd, rfl⟩⟩; refine ⟨_, rfl, ?_⟩))
       go_ret
       exact ⟨zf, zb⟩
theorem less_ev (a b : ByteArray) : cmp_Less_string.f a b = some (Op.bytesLess a.toList b.toList) := by
 simp [cmp_Less_string.f, cmp_isNaN_string.f]
theorem half_w {i j : Nat} (h : i + j ≤ 1000000) : wrap64 ((IntKind.u64.wrap (wrap64 ((i : Int) + (j : Int)))) / 2) = (((i + j) / 2 : Nat) : Int) := by
 have e : wrap64 ((i : Int) + (j : Int)) = ((i + j : Nat) : Int) := by unfold wrap64; omega
 rw [e]
 have e2 : IntKind.u64.wrap ((i + j : Nat) : Int) = ((i + j : Nat) : Int) := IntWalk.u64_in _ (by omega)
 rw [e2]
 unfold wrap64
 omega
theorem bs_ev (keys : List ByteArray) (x : ByteArray) (hl : keys.length ≤ 1000) : ∀ (d i j : Nat), i ≤ j → j ≤ keys.length → j - i ≤ d → ∃ r, ∀ k, d < k → qA6.l0 k keys x (keys.length : Int) (i : Int) (j : Int) = some r := by
 intro d
 induction d with
 | zero =>
  intro i j h1 h2 h3
  obtain rfl : i = j := by omega
  by_cases h4 : i < keys.length
  ·by_cases h5 : (rdOf ByteArray.empty keys (i : Int)).toList = x.toList
   ·refine ⟨((i : Int), true), fun k hk => ?_⟩
    obtain ⟨k, rfl⟩ : ∃ m, k = m + 1 := ⟨k - 1, by omega⟩
    simp only [qA6.l0]
    rw [if_neg (by omega), if_pos (by omega), if_pos (by omega), if_pos (by omega), if_pos h5]
   ·refine ⟨((i : Int), false), fun k hk => ?_⟩
    obtain ⟨k, rfl⟩ : ∃ m, k = m + 1 := ⟨k - 1, by omega⟩
    simp only [qA6.l0]
    rw [if_neg (by omega), if_pos (by omega), if_pos (by omega), if_pos (by omega), if_neg h5]
    simp [slices_isNaN_string.f]
  ·refine ⟨((i : Int), false), fun k hk => ?_⟩
   obtain ⟨k, rfl⟩ : ∃ m, k = m + 1 := ⟨k - 1, by omega⟩
   simp only [qA6.l0]
   rw [if_neg (by omega), if_neg (by omega)]
 | succ d ih =>
  intro i j h1 h2 h3
  by_cases h4 : i < j
  ·have hw := half_w (i := i) (j := j) (by omega)
   have hm1 : i ≤ (i + j) / 2 := by omega
   have hm2 : (i + j) / 2 < j := by omega
   by_cases h5 : Op.bytesLess (rdOf ByteArray.empty keys (((i + j) / 2 : Nat) : Int)).toList x.toList = true
   ·obtain ⟨r, hr⟩ := ih ((i + j) / 2 + 1) j (by omega) h2 (by omega)
    refine ⟨r, fun k hk => ?_⟩
    obtain ⟨k, rfl⟩ : ∃ m, k = m + 1 := ⟨k - 1, by omega⟩
    simp only [qA6.l0]
    rw [if_pos (by omega), hw, if_pos (by omega), if_pos (by omega), less_ev, Option.bind_some, if_pos h5]
    rw [show wrap64 ((((i + j) / 2 : Nat) : Int) + 1) = (((i + j) / 2 + 1 : Nat) : Int) from by unfold wrap64; omega]
    exact hr k (by omega)
   ·obtain ⟨r, hr⟩ := ih i ((i + j) / 2) (by omega) (by omega) (by omega)
    refine ⟨r, fun k hk => ?_⟩
    obtain ⟨k, rfl⟩ : ∃ m, k = m + 1 := ⟨k - 1, by omega⟩
    simp only [qA6.l0]
    rw [if_pos (by omega), hw, if_pos (by omega), if_pos (by omega), less_ev, Option.bind_some, if_neg h5]
    exact hr k (by omega)
  ·obtain ⟨r, hr⟩ := ih i j h1 h2 (by omega)
   exact ⟨r, fun k hk => hr k (by omega)⟩
theorem inner_ev (c : Int) : ∃ b, qDQ.f c = some b := by
 unfold qDQ.f qCC.f qDX.f
 by_cases h1 : c ≥ 97 <;> by_cases h2 : c ≥ 48 <;> by_cases h3 : c ≤ 122 <;> by_cases h4 : c ≤ 57 <;> simp [h1, h2, h3, h4]
theorem name_l (s : ByteArray) (hs : s.size ≤ 20) : ∀ (d i : Nat), i ≤ s.size → s.size - i ≤ d → ∃ r, ∀ k, d + 60 < k → qB8.l0 k s (s.size : Int) (i : Int) = some r := by
 intro d
 induction d with
 | zero =>
  intro i h1 h2
  obtain rfl : i = s.size := by omega
  have hk : qDY.f = some ((qDY.f).getD []) := rfl
  have hl : ((qDY.f).getD []).length = 49 := rfl
  generalize (qDY.f).getD [] = keys at hk hl
  obtain ⟨r, hr⟩ := bs_ev keys s (by omega) 49 0 keys.length (by omega) (by omega) (by omega)
  refine ⟨!r.2, fun k hk' => ?_⟩
  obtain ⟨k, rfl⟩ : ∃ m, k = m + 1 := ⟨k - 1, by omega⟩
  simp only [qB8.l0]
  rw [if_neg (by omega), hk, Option.bind_some]
  unfold qA6.f
  have := hr k (by omega)
  simp only [Int.natCast_zero] at this
  rw [this, Option.bind_some]
 | succ d ih =>
  intro i h1 h2
  by_cases h3 : i < s.size
  ·obtain ⟨b, hb⟩ := inner_ev (bt s (i : Int))
   cases b
   ·refine ⟨false, fun k hk => ?_⟩
    obtain ⟨k, rfl⟩ : ∃ m, k = m + 1 := ⟨k - 1, by omega⟩
    simp only [qB8.l0]
    rw [if_pos (by omega), if_pos (by omega), if_pos (by omega), hb]
    rfl
   ·obtain ⟨r, hr⟩ := ih (i + 1) (by omega) (by omega)
    refine ⟨r, fun k hk => ?_⟩
    obtain ⟨k, rfl⟩ : ∃ m, k = m + 1 := ⟨k - 1, by omega⟩
    simp only [qB8.l0]
    rw [if_pos (by omega), if_pos (by omega), if_pos (by omega), hb, Option.bind_some, if_pos rfl]
    rw [show wrap64 ((i : Int) + 1) = ((i + 1 : Nat) : Int) from by unfold wrap64; omega]
    exact hr k (by omega)
  ·obtain ⟨r, hr⟩ := ih i h1 (by omega)
   exact ⟨r, fun k hk => hr k (by omega)⟩
def nameB (s : ByteArray) : Bool := (qB8.f 200 s).getD false
theorem name_some (s : ByteArray) : ∃ r, qB8.f 200 s = some r := by
 by_cases h1 : s.toList = []
 ·refine ⟨false, ?_⟩
  unfold qB8.f
  rw [if_pos h1]
  rfl
 by_cases h2 : (s.size : Int) > 20
 ·refine ⟨false, ?_⟩
  unfold qB8.f
  rw [if_neg h1, if_pos h2]
  rfl
 have h3 : 0 < (s.size : Int) := by
  rcases Nat.eq_zero_or_pos s.size with e | e
  ·exfalso
   apply h1
   have e2 : s = ⟨#[]⟩ := by
    cases s with
    | mk d => have : d.size = 0 := e; rw [Array.size_eq_zero_iff] at this; rw [this]
   rw [e2]; simp [ByteArray.toList, ByteArray.toList.loop, ByteArray.size]
  ·omega
 obtain ⟨r, hr⟩ := name_l s (by omega) s.size 0 (by omega) (by omega)
 by_cases h4 : qCC.f (bt s 0) = some true
 ·refine ⟨r, ?_⟩
  unfold qB8.f
  rw [if_neg h1, if_neg h2, if_pos h3, h4, Option.bind_some]
  simp only [qB8.j0, Bool.not_true]
  rw [if_neg (by decide)]
  exact hr _ (by omega)
 ·refine ⟨false, ?_⟩
  have h5 : qCC.f (bt s 0) = some false := by
   unfold qCC.f at h4 ⊢
   by_cases h6 : bt s 0 ≥ 97
   ·rw [if_pos h6] at h4 ⊢
    by_cases h7 : bt s 0 ≤ 122
    ·exact absurd (by simp [h7]) h4
    ·simp [h7]
   ·rw [if_neg h6]
  unfold qB8.f
  rw [if_neg h1, if_neg h2, if_pos h3, h5]
  rfl
theorem name_ev (s : ByteArray) : qB8.f 200 s = some (nameB s) := by
 obtain ⟨r, h⟩ := name_some s
 unfold nameB
 rw [h]
 rfl
theorem nameB_size {s : ByteArray} (h : nameB s = true) : s.size ≤ 20 := by
 have hk := name_ev s
 rw [h] at hk
 rcases Nat.lt_or_ge 20 s.size with hs | hs
 ·exfalso
  have hj : qB8.j0 200 s true = some true := by
   unfold qB8.f at hk
   by_cases h1 : s.toList = []
   ·rwa [if_pos h1] at hk
   ·rwa [if_neg h1, if_pos (by omega)] at hk
  simp [qB8.j0] at hj
 ·exact hs
structure Names (w : World) (b : Nat) (L : List ByteArray) : Prop where
 own : ∃ n D, n ≤ L.length ∧ w.ownsMap (H := Unit) Try.prog 9 (plainElem Try.prog 4) b n D ∧ ∀ s : ByteArray, D.atKey (.string s.data.toList) (.lit (.bool false)) = .lit (.bool (decide (s ∈ L)))
theorem keyed9 : Maps.Keyed Try.prog 9 := Maps.string_keyed Try.underlying9
set_option maxRecDepth 100000 in
theorem bool_of {v : Value} {x : Bool} {ps : List MemPlace} (h : plainElem (H := Unit) Try.prog 4 v = some (.lit (.bool x), ps)) : v = .bool x := by
 unfold plainElem at h
 rw [Try.underlying4] at h
 cases v <;> simp at h
 rw [h.1]
theorem Names.look {w : World} {b : Nat} {L : List ByteArray} (h : Names w b L) {s : ByteArray} (hs : s.size ≤ maxLen) : (Instr.lookup 50 (.map (some b)) (.string s) false).run Try.prog w = .ok (.bool (decide (s ∈ L))) w := by
 obtain ⟨n, D, _, own, at_⟩ := h.own
 obtain ⟨v, ps, hrun, hR⟩ := own.lookup keyed9 Try.underlying50 (z := .bool false) (Try.zeroValue4 w) (zd := .lit (.bool false)) (zp := []) (plainElem_bool Try.underlying4 false) (WideMaps.keyOf_string_mk Try.underlying9 hs)
 rw [at_] at hR
 rw [hrun, bool_of hR]
theorem str_inj {s t : ByteArray} (h : s.data.toList = t.data.toList) : s = t := by
 cases s; cases t
 simp at h
 rw [h]
theorem Names.put {w : World} {b : Nat} {L : List ByteArray} (h : Names w b L) (hl : L.length < maxLen) {s : ByteArray} (hs : s.size ≤ maxLen) :
  ∃ w2, (Instr.mapUpdate 50 (.map (some b)) (.string s) (.bool true)).run Try.prog w = .ok () w2 ∧ Names w2 b (s :: L) ∧ w.grownBy w2 (some b) := by
 obtain ⟨n, D, hn, own, at_⟩ := h.own
 obtain ⟨w2, hrun, ho, hg⟩ := own.update keyed9 Try.underlying50 (Nat.lt_of_le_of_lt hn hl) (WideMaps.keyOf_string_mk Try.underlying9 hs) (val := .bool true) (d := .lit (.bool true)) (ps := []) (plainElem_bool Try.underlying4 true)
 refine ⟨w2, hrun, ⟨n + 1, _, by simp; omega, ho, fun t => ?_⟩, hg⟩
 by_cases e : t = s
 ·subst e
  rw [Maps.atKey_put_same own.isMap (show WideAt.IsKeyLit (.string t.data.toList) from trivial)]
  simp
 ·rw [Maps.atKey_put_other (fun e' => e (str_inj (by injection e'))), at_]
  simp [e]
theorem Names.lt {w : World} {b : Nat} {L : List ByteArray} (h : Names w b L) : b < w.heap.size := by
 obtain ⟨n, D, _, own, _⟩ := h.own
 exact own.lt
theorem Names.kept {w w' : World} {b : Nat} {L : List ByteArray} {row : Option Nat} (h : Names w b L) (hg : w.grownBy w' row) (hne : some b ≠ row) : Names w' b L := by
 obtain ⟨n, D, hn, own, at_⟩ := h.own
 exact ⟨n, D, hn, own.kept hg hne, at_⟩
theorem Names.below {w w' : World} {b : Nat} {L : List ByteArray} (h : Names w b L) (hB : Below w.heap.size w w') : Names w' b L := h.kept (row := none) (qB4 hB none) (by simp)
theorem Names.made (w : World) : Names (w.alloc (.map #[] 0)) w.heap.size [] := ⟨0, _, Nat.le_refl _, World.ownsMap_made w _ _ _, fun s => rfl⟩
def addR (L : List ByteArray) (s : ByteArray) : Int := if nameB s = true then (if s ∈ L then 5 else 0) else 15
set_option maxRecDepth 100000 in
theorem names_add.walk (b : Nat) (L : List ByteArray) (s : ByteArray) (w : World) (hN : Names w b L) (hl : L.length < maxLen) :
  Calls Try.prog 13 #[.map (some b), .string s] w fun e w' => e = .returned (.int .i64 (addR L s)) ∧ Names w' b (if addR L s = 0 then s :: L else L) ∧ w.grownBy w' (some b) := by
 have hk := name_ev s
 have HN := qA0.mk hN
 have HL := qA0.mk hl
 clear hN hl
 cases hn : nameB s with
 | false =>
  have ha : addR L s = 15 := by unfold addR; rw [hn]; rfl
  rw [ha]
  rw [hn] at hk
  have HK := qA0.mk hk
  clear hk hn ha
  go_enter Try.func13, Try.ntmps13
  go_wp2_with fail
  refine (qB8.calls 200 s false _ HK.out).mono ?_
  rintro e w1 ⟨rfl, hb⟩
  have HB := qA0.mk hb
  clear hb
  go_wp2_with fail
  go_ret
  exact ⟨rfl, by simpa using HN.out.below HB.out, qB4 HB.out _⟩
 | true =>
  have hs := nameB_size hn
  rw [hn] at hk
  have HK := qA0.mk hk
  by_cases hm : s ∈ L
  ·have ha : addR L s = 5 := by unfold addR; rw [hn, if_pos rfl, if_pos hm]
   rw [ha]
   have HM := qA0.mk hm
   clear hk hn ha hm
   go_enter Try.func13, Try.ntmps13
   go_wp2_with fail
   refine (qB8.calls 200 s true _ HK.out).mono ?_
   rintro e w1 ⟨rfl, hb⟩
   have HB := qA0.mk hb
   have hlk := (HN.out.below hb).look (s := s) (by simp only [maxLen]; omega)
   rw [decide_eq_true HM.out] at hlk
   clear hb
   go_wp2_with fail
   go_ret
   exact ⟨rfl, by simpa using HN.out.below HB.out, qB4 HB.out _⟩
  ·have ha : addR L s = 0 := by unfold addR; rw [hn, if_pos rfl, if_neg hm]
   rw [ha]
   have HM := qA0.mk hm
   clear hk hn ha hm
   go_enter Try.func13, Try.ntmps13
   go_wp2_with fail
   refine (qB8.calls 200 s true _ HK.out).mono ?_
   rintro e w1 ⟨rfl, hb⟩
   have HB := qA0.mk hb
   have hN1 := HN.out.below hb
   have hlk := hN1.look (s := s) (by simp only [maxLen]; omega)
   rw [decide_eq_false HM.out] at hlk
   obtain ⟨w2, hup, hN2, hg2⟩ := hN1.put HL.out (s := s) (by simp only [maxLen]; omega)
   have HN2 := qA0.mk hN2
   have HG2 := qA0.mk ((qB4 hb (some b)).trans hg2)
   clear hb hN1 hN2 hg2
   go_wp2_with fail
   go_ret
   exact ⟨rfl, HN2.out, HG2.out⟩
def qCG.f (a0 : Int) : Option (Int × Int) := if a0 = 1 then (some (0, 1)) else (if a0 = 2 then (some ((-1099511627776), 1099511627776)) else (if a0 = 3 then (some ((-1048576), 1048576)) else (if a0 = 4 then (some (0, 1048575)) else (if a0 = 5 then (some ((-1048576), 1048576)) else (if a0 = 6 then (some ((-1000000000), 1000000000)) else (some (0, 0)))))))
set_option maxHeartbeats 8000000 in
set_option maxRecDepth 100000 in
theorem qCG.calls (a0 : Int) (r1 : Int) (r2 : Int) (w : World) (h : qCG.f a0 = some (r1, r2)) :
  Calls Try.prog 46 #[.int .i64 a0] w fun e w' => e = .returned (.tuple #[.int .i64 r1, .int .i64 r2]) ∧ qAE w w' := by
 have H : (if a0 = 1 then (some (0, 1)) else (if a0 = 2 then (some ((-1099511627776), 1099511627776)) else (if a0 = 3 then (some ((-1048576), 1048576)) else (if a0 = 4 then (some (0, 1048575)) else (if a0 = 5 then (some ((-1048576), 1048576)) else (if a0 = 6 then (some ((-1000000000), 1000000000)) else (some (0, 0)))))))) = some (r1, r2) := h
 clear h
 by_cases c2 : a0 = 1
 ·rw [if_pos c2] at H
  have ⟨c2b0, c2b1⟩ := ze c2
  clear c2
  simp only [Option.some.injEq, Prod.mk.injEq] at H
  obtain ⟨rfl, rfl⟩ := H
  go_enter Try.func46, Try.ntmps46
  go_wp2
  go_ret2
  exact ⟨by first | rfl | (simp; done) | (simp [*]; done), by repeat (first | exact qAE.refl _ | apply qAE.step)⟩
 ·rw [if_neg c2] at H
  have ⟨c2b0, c2b1⟩ := zn c2
  by_cases c3 : a0 = 2
  ·rw [if_pos c3] at H
   have ⟨c3b0, c3b1⟩ := ze c3
   clear c3
   simp only [Option.some.injEq, Prod.mk.injEq] at H
   obtain ⟨rfl, rfl⟩ := H
   go_enter Try.func46, Try.ntmps46
   go_wp2
   go_ret2
   exact ⟨by first | rfl | (simp; done) | (simp [*]; done), by repeat (first | exact qAE.refl _ | apply qAE.step)⟩
  ·rw [if_neg c3] at H
   have ⟨c3b0, c3b1⟩ := zn c3
   by_cases c4 : a0 = 3
   ·rw [if_pos c4] at H
    have ⟨c4b0, c4b1⟩ := ze c4
    clear c4
    simp only [Option.some.injEq, Prod.mk.injEq] at H
    obtain ⟨rfl, rfl⟩ := H
    go_enter Try.func46, Try.ntmps46
    go_wp2
    go_ret2
    exact ⟨by first | rfl | (simp; done) | (simp [*]; done), by repeat (first | exact qAE.refl _ | apply qAE.step)⟩
   ·rw [if_neg c4] at H
    have ⟨c4b0, c4b1⟩ := zn c4
    by_cases c5 : a0 = 4
    ·rw [if_pos c5] at H
     have ⟨c5b0, c5b1⟩ := ze c5
     clear c5
     simp only [Option.some.injEq, Prod.mk.injEq] at H
     obtain ⟨rfl, rfl⟩ := H
     go_enter Try.func46, Try.ntmps46
     go_wp2
     go_ret2
     exact ⟨by first | rfl | (simp; done) | (simp [*]; done), by repeat (first | exact qAE.refl _ | apply qAE.step)⟩
    ·rw [if_neg c5] at H
     have ⟨c5b0, c5b1⟩ := zn c5
     by_cases c6 : a0 = 5
     ·rw [if_pos c6] at H
      have ⟨c6b0, c6b1⟩ := ze c6
      clear c6
      simp only [Option.some.injEq, Prod.mk.injEq] at H
      obtain ⟨rfl, rfl⟩ := H
      go_enter Try.func46, Try.ntmps46
      go_wp2
      go_ret2
      exact ⟨by first | rfl | (simp; done) | (simp [*]; done), by repeat (first | exact qAE.refl _ | apply qAE.step)⟩
     ·rw [if_neg c6] at H
      have ⟨c6b0, c6b1⟩ := zn c6
      by_cases c7 : a0 = 6
      ·rw [if_pos c7] at H
       have ⟨c7b0, c7b1⟩ := ze c7
       clear c7
       simp only [Option.some.injEq, Prod.mk.injEq] at H
       obtain ⟨rfl, rfl⟩ := H
       go_enter Try.func46, Try.ntmps46
       go_wp2
       go_ret2
       exact ⟨by first | rfl | (simp; done) | (simp [*]; done), by repeat (first | exact qAE.refl _ | apply qAE.step)⟩
      ·rw [if_neg c7] at H
       have ⟨c7b0, c7b1⟩ := zn c7
       simp only [Option.some.injEq, Prod.mk.injEq] at H
       obtain ⟨rfl, rfl⟩ := H
       go_enter Try.func46, Try.ntmps46
       go_wp2
       go_ret2
       exact ⟨by first | rfl | (simp; done) | (simp [*]; done), by repeat (first | exact qAE.refl _ | apply qAE.step)⟩
def qDE.f (a0 : Int) : Option (Bool) := if a0 ≥ 0 then (some (decide (a0 ≤ 6))) else (some false)
set_option maxHeartbeats 8000000 in
set_option maxRecDepth 100000 in
theorem qDE.calls (a0 : Int) (r : Bool) (w : World) (h : qDE.f a0 = some r) :
  Calls Try.prog 63 #[.int .i64 a0] w fun e w' => e = .returned (.bool r) ∧ qAE w w' := by
 have H : (if a0 ≥ 0 then (some (decide (a0 ≤ 6))) else (some false)) = some r := h
 clear h
 by_cases c2 : a0 ≥ 0
 ·rw [if_pos c2] at H
  have c2b0 := decide_eq_true c2
  clear c2
  obtain rfl := Option.some.inj H
  go_enter Try.func63, Try.ntmps63
  go_wp2
  go_ret
  exact ⟨by first | rfl | (simp; done) | (simp [*]; done), by repeat (first | exact qAE.refl _ | apply qAE.step)⟩
 ·rw [if_neg c2] at H
  have c2b0 := decide_eq_false c2
  clear c2
  obtain rfl := Option.some.inj H
  go_enter Try.func63, Try.ntmps63
  go_wp2
  go_ret
  exact ⟨by first | rfl | (simp; done) | (simp [*]; done), by repeat (first | exact qAE.refl _ | apply qAE.step)⟩
def qCQ.f (a0_0 : Int) (a0_1 : Int) : Option (Int) := (qCG.f a0_0).bind fun bt124 => ((qDE.f a0_0).bind fun t126 => (if t126 = true then (if a0_1 < bt124.1 then (some 2) else (if a0_1 > bt124.2 then (some 2) else (some 0))) else (some 8)))
set_option maxHeartbeats 8000000 in
set_option maxRecDepth 100000 in
theorem qCQ.calls (a0_0 : Int) (a0_1 : Int) (r : Int) (w : World) (h : qCQ.f a0_0 a0_1 = some r) :
  Calls Try.prog 43 #[.agg #[.int .i64 a0_0, .int .i64 a0_1]] w fun e w' => e = .returned (.int .i64 r) ∧ Below w.heap.size w w' := by
 have hu32 := Try.underlying32
 have HB := qA0.mk (Below.refl w.heap.size w)
 have H : ((qCG.f a0_0).bind fun bt124 => ((qDE.f a0_0).bind fun t126 => (if t126 = true then (if a0_1 < bt124.1 then (some 2) else (if a0_1 > bt124.2 then (some 2) else (some 0))) else (some 8)))) = some r := h
 clear h
 replace H := Option.bind_eq_some_iff.mp H
 obtain ⟨⟨t124, t125⟩, A20, H⟩ := H
 replace H : ((qDE.f a0_0).bind fun t126 => (if t126 = true then (if a0_1 < t124 then (some 2) else (if a0_1 > t125 then (some 2) else (some 0))) else (some 8))) = some r := H
 have A2 := qA0.mk A20
 clear A20
 replace H := Option.bind_eq_some_iff.mp H
 obtain ⟨t126, A30, H⟩ := H
 have A3 := qA0.mk A30
 clear A30
 by_cases c4 : t126 = true
 ·subst c4
  rw [if_pos rfl] at H
  by_cases c5 : a0_1 < t124
  ·rw [if_pos c5] at H
   have c5b0 := decide_eq_true c5
   clear c5
   obtain rfl := Option.some.inj H
   go_enter Try.func43, Try.ntmps43
   go_wp2_with (first | ((with_reducible refine qAC (N := 1) rfl ?_); refine qAD ?hg (N := 1) ?hd (cs := #[.int .i64 a0_0, .int .i64 a0_1]) (t := 32) ?hr ?_; (case hd => rfl); (case hg => rfl); (case hr => first | (go_simp; done) | (go_simp; rfl)); intro gb123 hg w6 hbox hb; have BK123 := qA0.mk (hbox); have GW123 := zg w gb123; have GE123 := zg w gb123; replace HB := qA0.mk (qA1 zb hb); clear hb hbox hg; obtain ⟨hcz7_0, hcz7_1, hfz7_0, hfz7_1⟩ := bc2 BK123.out) | ((with_reducible refine qA9 (f := 46) rfl ?_); refine qC2 (some 8) Try.func46 #[.int .i64 a0_0] ?_; (with_reducible refine (qCG.calls a0_0 t124 t125 _ A2.out).mono ?_); rintro e w' ⟨rfl, ⟨nd, rfl⟩⟩; refine ⟨_, rfl, ?_⟩) | ((with_reducible refine qA9 (f := 63) rfl ?_); refine qC2 (some 14) Try.func63 #[.int .i64 a0_0] ?_; (with_reducible refine (qDE.calls a0_0 true _ A3.out).mono ?_); rintro e w' ⟨rfl, ⟨nd, rfl⟩⟩; refine ⟨_, rfl, ?_⟩))
   go_ret
   exact ⟨zf, zb⟩
  ·rw [if_neg c5] at H
   have c5b0 := decide_eq_false c5
   clear c5
   by_cases c8 : a0_1 > t125
   ·rw [if_pos c8] at H
    have c8b0 := decide_eq_true c8
    clear c8
    obtain rfl := Option.some.inj H
    go_enter Try.func43, Try.ntmps43
    go_wp2_with (first | ((with_reducible refine qAC (N := 1) rfl ?_); refine qAD ?hg (N := 1) ?hd (cs := #[.int .i64 a0_0, .int .i64 a0_1]) (t := 32) ?hr ?_; (case hd => rfl); (case hg => rfl); (case hr => first | (go_simp; done) | (go_simp; rfl)); intro gb123 hg w9 hbox hb; have BK123 := qA0.mk (hbox); have GW123 := zg w gb123; have GE123 := zg w gb123; replace HB := qA0.mk (qA1 zb hb); clear hb hbox hg; obtain ⟨hcz10_0, hcz10_1, hfz10_0, hfz10_1⟩ := bc2 BK123.out) | ((with_reducible refine qA9 (f := 46) rfl ?_); refine qC2 (some 8) Try.func46 #[.int .i64 a0_0] ?_; (with_reducible refine (qCG.calls a0_0 t124 t125 _ A2.out).mono ?_); rintro e w' ⟨rfl, ⟨nd, rfl⟩⟩; refine ⟨_, rfl, ?_⟩) | ((with_reducible refine qA9 (f := 63) rfl ?_); refine qC2 (some 14) Try.func63 #[.int .i64 a0_0] ?_; (with_reducible refine (qDE.calls a0_0 true _ A3.out).mono ?_); rintro e w' ⟨rfl, ⟨nd, rfl⟩⟩; refine ⟨_, rfl, ?_⟩))
    go_ret
    exact ⟨zf, zb⟩
   ·rw [if_neg c8] at H
    have c8b0 := decide_eq_false c8
    clear c8
    obtain rfl := Option.some.inj H
    go_enter Try.func43, Try.ntmps43
    go_wp2_with (first | ((with_reducible refine qAC (N := 1) rfl ?_); refine qAD ?hg (N := 1) ?hd (cs := #[.int .i64 a0_0, .int .i64 a0_1]) (t := 32) ?hr ?_; (case hd => rfl); (case hg => rfl); (case hr => first | (go_simp; done) | (go_simp; rfl)); intro gb123 hg w11 hbox hb; have BK123 := qA0.mk (hbox); have GW123 := zg w gb123; have GE123 := zg w gb123; replace HB := qA0.mk (qA1 zb hb); clear hb hbox hg; obtain ⟨hcz12_0, hcz12_1, hfz12_0, hfz12_1⟩ := bc2 BK123.out) | ((with_reducible refine qA9 (f := 46) rfl ?_); refine qC2 (some 8) Try.func46 #[.int .i64 a0_0] ?_; (with_reducible refine (qCG.calls a0_0 t124 t125 _ A2.out).mono ?_); rintro e w' ⟨rfl, ⟨nd, rfl⟩⟩; refine ⟨_, rfl, ?_⟩) | ((with_reducible refine qA9 (f := 63) rfl ?_); refine qC2 (some 14) Try.func63 #[.int .i64 a0_0] ?_; (with_reducible refine (qDE.calls a0_0 true _ A3.out).mono ?_); rintro e w' ⟨rfl, ⟨nd, rfl⟩⟩; refine ⟨_, rfl, ?_⟩))
    go_ret
    exact ⟨zf, zb⟩
 ·replace c4 := Bool.eq_false_iff.mpr c4
  subst c4
  rw [if_neg (show ¬ (false = true) by decide)] at H
  obtain rfl := Option.some.inj H
  go_enter Try.func43, Try.ntmps43
  go_wp2_with (first | ((with_reducible refine qAC (N := 1) rfl ?_); refine qAD ?hg (N := 1) ?hd (cs := #[.int .i64 a0_0, .int .i64 a0_1]) (t := 32) ?hr ?_; (case hd => rfl); (case hg => rfl); (case hr => first | (go_simp; done) | (go_simp; rfl)); intro gb123 hg w13 hbox hb; have BK123 := qA0.mk (hbox); have GW123 := zg w gb123; have GE123 := zg w gb123; replace HB := qA0.mk (qA1 zb hb); clear hb hbox hg; obtain ⟨hcz14_0, hcz14_1, hfz14_0, hfz14_1⟩ := bc2 BK123.out) | ((with_reducible refine qA9 (f := 46) rfl ?_); refine qC2 (some 8) Try.func46 #[.int .i64 a0_0] ?_; (with_reducible refine (qCG.calls a0_0 t124 t125 _ A2.out).mono ?_); rintro e w' ⟨rfl, ⟨nd, rfl⟩⟩; refine ⟨_, rfl, ?_⟩) | ((with_reducible refine qA9 (f := 63) rfl ?_); refine qC2 (some 14) Try.func63 #[.int .i64 a0_0] ?_; (with_reducible refine (qDE.calls a0_0 false _ A3.out).mono ?_); rintro e w' ⟨rfl, ⟨nd, rfl⟩⟩; refine ⟨_, rfl, ?_⟩))
  go_ret
  exact ⟨zf, zb⟩
end
end Go.Proofs.Ytnliaialemfcaaa.PRateFinds
end
section
namespace Go.Proofs.Ytnliaialemfcaaa.PRateFinds
noncomputable section
open Go.RowKit Go.Proofs.YtnliaialemfcaaaW.PrintWords Go.Proofs.YtnliaialemfcaaaW.PrintLast Go.Proofs.YtnliaialemfcaaaW.PrintMore
attribute [local go_sem high] eqA32
mutual
def qBQ.j0 : Nat → Bool → ByteArray → Int → Bool → Int → Int → Int → Int → Option (Int)
 | 0, _, _, _, _, _, _, _, _ => none
 | k + 1, x14, x128000, x128001, x128002, x128003, x128004, x128005, x128006 => if x14 = true then (some 8) else (if x128002 = true then (if (!(x128005 == 0) || (!(x128006 == 0))) = true then (some 3) else ((some (([x128003, x128004] : List Int) : List Int)).bind fun y128 => (qBQ.l0 k y128 (y128.length : Int) 0 x128000 x128001 x128002 x128003 x128004 x128005 x128006))) else (if x128003 = 0 then (qBQ.j2 k (x128004 != 0) x128000 x128001 x128002 x128003 x128004 x128005 x128006) else (qBQ.j2 k true x128000 x128001 x128002 x128003 x128004 x128005 x128006)))
def qBQ.l0 : Nat → List Int → Int → Int → ByteArray → Int → Bool → Int → Int → Int → Int → Option (Int)
 | 0, _, _, _, _, _, _, _, _, _, _ => none
 | k + 1, x25, x26, x27, x128000, x128001, x128002, x128003, x128004, x128005, x128006 => if x27 < x26 then (if 0 ≤ x27 then (if x27 < (x25.length : Int) then ((qCQ.f x128001 (rd x25 x27)).bind fun t132 => (if t132 = 0 then (qBQ.l0 k x25 x26 (wrap64 (x27 + 1)) x128000 x128001 x128002 x128003 x128004 x128005 x128006) else (some t132))) else (none)) else (none)) else (if x128003 > x128004 then (some 9) else (some 0))
def qBQ.j2 : Nat → Bool → ByteArray → Int → Bool → Int → Int → Int → Int → Option (Int)
 | 0, _, _, _, _, _, _, _, _ => none
 | k + 1, x52, x128000, x128001, x128002, x128003, x128004, x128005, x128006 => if x52 = true then (some 3) else ((qCQ.f x128005 x128006).bind fun t133 => (if t133 = 0 then (if x128005 = 0 then (some 0) else (if x128005 = x128001 then (some 0) else (some 8))) else (some t133)))
end
def qBQ.f (k : Nat) (a0_0 : ByteArray) (a0_1 : Int) (a0_2 : Bool) (a0_3 : Int) (a0_4 : Int) (a0_5 : Int) (a0_6 : Int) : Option (Int) := if a0_1 ≤ 0 then (qBQ.j0 k true a0_0 a0_1 a0_2 a0_3 a0_4 a0_5 a0_6) else (qBQ.j0 k (decide (a0_1 > 6)) a0_0 a0_1 a0_2 a0_3 a0_4 a0_5 a0_6)
set_option maxHeartbeats 8000000 in
set_option maxRecDepth 100000 in
theorem qBQ.calls (k : Nat) (a0_0 : ByteArray) (a0_1 : Int) (a0_2 : Bool) (a0_3 : Int) (a0_4 : Int) (a0_5 : Int) (a0_6 : Int) (r : Int) (w : World) (h : qBQ.f k a0_0 a0_1 a0_2 a0_3 a0_4 a0_5 a0_6 = some r) :
  Calls Try.prog 25 #[.agg #[.string a0_0, .int .i64 a0_1, .bool a0_2, .int .i64 a0_3, .int .i64 a0_4, .int .i64 a0_5, .int .i64 a0_6]] w fun e w' => e = .returned (.int .i64 r) ∧ Below w.heap.size w w' := by
 have hu83 := Try.underlying83
 have hu32 := Try.underlying32
 have HB := qA0.mk (Below.refl w.heap.size w)
 have H : (if a0_1 ≤ 0 then (qBQ.j0 k true a0_0 a0_1 a0_2 a0_3 a0_4 a0_5 a0_6) else (qBQ.j0 k (decide (a0_1 > 6)) a0_0 a0_1 a0_2 a0_3 a0_4 a0_5 a0_6)) = some r := h
 clear h
 have HC2 := qA0.mk H
 clear H
 go_enter Try.func25, Try.ntmps25
 go_upto_region 1 with (((with_reducible refine qAC (N := 1) rfl ?_); refine qAD ?hg (N := 1) ?hd (cs := #[.string a0_0, .int .i64 a0_1, .bool a0_2, .int .i64 a0_3, .int .i64 a0_4, .int .i64 a0_5, .int .i64 a0_6]) (t := 83) ?hr ?_; (case hd => rfl); (case hg => rfl); (case hr => first | (go_simp; done) | (go_simp; rfl)); intro gb127 hg w3 hbox hb; have BK127 := qA0.mk (hbox); have GW127 := zg w gb127; have GE127 := zg w gb127; replace HB := qA0.mk (qA1 zb hb); clear hb hbox hg))
 go_cut [14] (fun v14 wc => ∃ (kq : Nat) (x14_1 : Bool), v14 = .bool x14_1 ∧ qA0 (qBQ.j0 kq x14_1 a0_0 a0_1 a0_2 a0_3 a0_4 a0_5 a0_6 = some r) ∧ qA0 (kq ≤ k) ∧ qA0 (wc.heap[gb127]? = some (.cells #[.string a0_0, .int .i64 a0_1, .bool a0_2, .int .i64 a0_3, .int .i64 a0_4, .int .i64 a0_5, .int .i64 a0_6] 83 (0, 0))) ∧ qA0 (Below w.heap.size w wc))
 case first =>
  have H := HC2.out
  clear HC2
  by_cases c4 : a0_1 ≤ 0
  ·rw [if_pos c4] at H
   have c4b0 := decide_eq_true c4
   clear c4
   (first | rw [c4b0] | (simp only [qCE, qCJ]; rw [c4b0]) | skip)
   have H' := qA0.mk H
   clear H
   obtain ⟨hcz5_0, hcz5_1, hcz5_2, hcz5_3, hcz5_4, hcz5_5, hcz5_6, hfz5_0, hfz5_1, hfz5_2, hfz5_3, hfz5_4, hfz5_5, hfz5_6⟩ := bc7 BK127.out
   go_wp2
   go_meet
   case rel => exact ⟨_, (true), zs, H', ⟨by first | omega | exact Nat.le_refl _⟩, ⟨zk BK127⟩, ⟨zb⟩⟩
  ·rw [if_neg c4] at H
   have c4b0 := decide_eq_false c4
   clear c4
   (first | rw [c4b0] | (simp only [qCE, qCJ]; rw [c4b0]) | skip)
   have H' := qA0.mk H
   clear H
   obtain ⟨hcz6_0, hcz6_1, hcz6_2, hcz6_3, hcz6_4, hcz6_5, hcz6_6, hfz6_0, hfz6_1, hfz6_2, hfz6_3, hfz6_4, hfz6_5, hfz6_6⟩ := bc7 BK127.out
   go_wp2
   go_meet
   case rel => exact ⟨_, (decide (a0_1 > 6)), zs, H', ⟨by first | omega | exact Nat.le_refl _⟩, ⟨zk BK127⟩, ⟨zb⟩⟩
 case rest =>
  clear HC2
  obtain ⟨kq, x14_1, rfl, HA, HJ1, BK127, HB⟩ := hcut
  cases kq with
  | zero => exact absurd HA.out (by simp [qBQ.j0])
  | succ kj1 =>
   have H := HA.out
   clear HA
   simp only [qBQ.j0] at H
   by_cases c7 : x14_1 = true
   ·subst c7
    rw [if_pos rfl] at H
    obtain rfl := Option.some.inj H
    go_wp2
    go_ret
    exact ⟨zf, zb⟩
   ·replace c7 := Bool.eq_false_iff.mpr c7
    subst c7
    rw [if_neg (show ¬ (false = true) by decide)] at H
    by_cases c8 : a0_2 = true
    ·subst c8
     rw [if_pos rfl] at H
     by_cases c9 : (!(a0_5 == 0) || (!(a0_6 == 0))) = true
     ·rw [if_pos c9] at H
      have c9b0 : (!(a0_5 == 0) || (!(a0_6 == 0))) = true := c9
      clear c9
      obtain rfl := Option.some.inj H
      obtain ⟨hcz10_0, hcz10_1, hcz10_2, hcz10_3, hcz10_4, hcz10_5, hcz10_6, hfz10_0, hfz10_1, hfz10_2, hfz10_3, hfz10_4, hfz10_5, hfz10_6⟩ := bc7 BK127.out
      go_wp2
      go_ret
      exact ⟨zf, zb⟩
     ·rw [if_neg c9] at H
      have c9b0 : (!(a0_5 == 0) || (!(a0_6 == 0))) = false := by simpa using c9
      clear c9
      obtain ⟨y128, hy_⟩ : ∃ y_ : List Int, y_ = (([a0_3, a0_4] : List Int)) := ⟨_, rfl⟩
      replace H : (qBQ.l0 kj1 y128 (y128.length : Int) 0 a0_0 a0_1 true a0_3 a0_4 a0_5 a0_6) = some r := zr
      have Ny128 := qA0.mk hy_
      clear hy_
      have H' := qA0.mk H
      clear H
      obtain ⟨hcz11_0, hcz11_1, hcz11_2, hcz11_3, hcz11_4, hcz11_5, hcz11_6, hfz11_0, hfz11_1, hfz11_2, hfz11_3, hfz11_4, hfz11_5, hfz11_6⟩ := bc7 BK127.out
      go_wp2_with (((with_reducible refine qAC (N := 25) rfl ?_); refine Kd.qF5 (Kd.int .i64) _ 3 ?hg (N := 25) ?hd (xs := ([a0_3, a0_4] : List Int)) (inner := [.int .i64 a0_3, .int .i64 a0_4]) (ok := fun _ => True) (okp := fun _ => True) ?hr ?hp (fun _ hk => hk) trivial (Below.refl _ _) (Nat.le_refl _) (by simp) ?_; (case hd => rfl); (case hg => rfl); (case hr => first | (go_simp; done) | (go_simp; rfl)); (case hp => exact (Reps.one (show Kd.M (Kd.int .i64) _ _ _ a0_3 [.int .i64 a0_3] from rfl) (Reps.one (show Kd.M (Kd.int .i64) _ _ _ a0_4 [.int .i64 a0_4] from rfl) (Reps.none _ _)))); intro v129 w12 ho13 hb hg_ hnew_; clear hg_ hnew_; (first | rw [← Ny128.out] at ho13 | (simp only [Int.reduceToNat] at ho13; rw [← Ny128.out] at ho13)); have HO130 := qA0.mk (Kd.qC9 ho13 (qAM zb)); replace BK127 := qA0.mk (qA5 (zk BK127) hb); replace HB := qA0.mk (qA1 zb hb); clear hb ho13; obtain ⟨Ao14, co14, eo14⟩ := Kd.qBW HO130.out; subst eo14))
      go_loopg [27] kj1 (fun kq v27 w' => ∃ (x27_2 : Int), v27 = .int .i64 x27_2 ∧ qA0 (qBQ.l0 kq y128 (y128.length : Int) x27_2 a0_0 a0_1 true a0_3 a0_4 a0_5 a0_6 = some r) ∧ qA0 (kq ≤ kj1) ∧ qA0 (Kd.R (Kd.int .i64) 3 w' w.heap.size (fun _ => True) (.slice Ao14 y128.length co14) y128) ∧ qA0 (w'.heap[gb127]? = some (.cells #[.string a0_0, .int .i64 a0_1, .bool true, .int .i64 a0_3, .int .i64 a0_4, .int .i64 a0_5, .int .i64 a0_6] 83 (0, 0))) ∧ qA0 (Below w.heap.size w w'))
      case atStart => exact ⟨(0), zs, H', ⟨Nat.le_refl _⟩, zR HO130, ⟨zk BK127⟩, ⟨zb⟩⟩
      case round =>
       clear H' c9b0 hcz11_0 hcz11_1 hcz11_2 hcz11_3 hcz11_4 hcz11_5 hcz11_6 hfz11_0 hfz11_1 hfz11_2 hfz11_3 hfz11_4 hfz11_5 hfz11_6
       obtain ⟨x27_2, rfl, HA, HK2, HO_25, BK127, HB⟩ := hrel
       cases gk with
       | zero => exact absurd HA.out (by simp [qBQ.l0])
       | succ k2 =>
        have H := HA.out
        clear HA
        simp only [qBQ.l0] at H
        by_cases c15 : x27_2 < (y128.length : Int)
        ·rw [if_pos c15] at H
         have c15b0 := decide_eq_true c15
         clear c15
         by_cases c16 : 0 ≤ x27_2
         ·rw [if_pos c16] at H
          have c16b0 := decide_eq_true c16
          clear c16
          by_cases c17 : x27_2 < (y128.length : Int)
          ·rw [if_pos c17] at H
           have c17b0 := decide_eq_true c17
           clear c17
           replace H := Option.bind_eq_some_iff.mp H
           obtain ⟨t132, A180, H⟩ := H
           have A18 := qA0.mk A180
           clear A180
           by_cases c19 : t132 = 0
           ·rw [if_pos c19] at H
            have ⟨c19b0, c19b1⟩ := ze c19
            clear c19
            have H' := qA0.mk H
            clear H
            have p131 : 0 ≤ (x27_2 : Int) := zd
            have q131 : x27_2 < (y128.length : Int) := zd
            obtain ⟨ad131, e131, hx131_0⟩ := Kd.qCF (Kd.qAU HO_25.out).2.2 x27_2 p131 q131
            cases e131
            replace p131 := eq_true p131
            replace q131 := eq_true q131
            obtain ⟨hcz20_0, hcz20_1, hcz20_2, hcz20_3, hcz20_4, hcz20_5, hcz20_6, hfz20_0, hfz20_1, hfz20_2, hfz20_3, hfz20_4, hfz20_5, hfz20_6⟩ := bc7 BK127.out
            go_wp2_with (((with_reducible refine qA9 (f := 43) rfl ?_); refine qC2 (some 35) Try.func43 #[.agg #[.int .i64 a0_1, .int .i64 (rd y128 x27_2)]] ?_; (with_reducible refine (qCQ.calls a0_1 (rd y128 x27_2) t132 _ A18.out).mono ?_); rintro e w21 ⟨rfl, hb⟩; refine ⟨_, rfl, ?_⟩; replace HO_25 := qA0.mk (Kd.qBC (by (with_reducible repeat (first | apply Kd.qDG | apply Kd.qDF | apply Kd.qDJ)); exact HO_25.out) hb); replace BK127 := qA0.mk (qA5 (zk BK127) hb); replace HB := qA0.mk (qA1 zb hb); (try clear hb); (try clear hb2); (try clear hk); (try clear hi)))
            go_roundg k2
            case measure => have := HJ1.out; have := HK2.out; omega
            case rel => exact ⟨(wrap64 (x27_2 + 1)), zs, H', ⟨by have := HJ1.out; have := HK2.out; omega⟩, zR HO_25, ⟨zk BK127⟩, ⟨zb⟩⟩
           ·rw [if_neg c19] at H
            have ⟨c19b0, c19b1⟩ := zn c19
            obtain rfl := Option.some.inj H
            have p131 : 0 ≤ (x27_2 : Int) := zd
            have q131 : x27_2 < (y128.length : Int) := zd
            obtain ⟨ad131, e131, hx131_0⟩ := Kd.qCF (Kd.qAU HO_25.out).2.2 x27_2 p131 q131
            cases e131
            replace p131 := eq_true p131
            replace q131 := eq_true q131
            obtain ⟨hcz22_0, hcz22_1, hcz22_2, hcz22_3, hcz22_4, hcz22_5, hcz22_6, hfz22_0, hfz22_1, hfz22_2, hfz22_3, hfz22_4, hfz22_5, hfz22_6⟩ := bc7 BK127.out
            go_wp2_with (((with_reducible refine qA9 (f := 43) rfl ?_); refine qC2 (some 35) Try.func43 #[.agg #[.int .i64 a0_1, .int .i64 (rd y128 x27_2)]] ?_; (with_reducible refine (qCQ.calls a0_1 (rd y128 x27_2) t132 _ A18.out).mono ?_); rintro e w23 ⟨rfl, hb⟩; refine ⟨_, rfl, ?_⟩; replace HO_25 := qA0.mk (Kd.qBC (by (with_reducible repeat (first | apply Kd.qDG | apply Kd.qDF | apply Kd.qDJ)); exact HO_25.out) hb); replace BK127 := qA0.mk (qA5 (zk BK127) hb); replace HB := qA0.mk (qA1 zb hb); (try clear hb); (try clear hb2); (try clear hk); (try clear hi)))
            go_ret
            exact ⟨zf, zb⟩
          ·rw [if_neg c17] at H
           exact absurd H (by simp)
         ·rw [if_neg c16] at H
          exact absurd H (by simp)
        ·rw [if_neg c15] at H
         have c15b0 := decide_eq_false c15
         clear c15
         by_cases c24 : a0_3 > a0_4
         ·rw [if_pos c24] at H
          have c24b0 := decide_eq_true c24
          clear c24
          obtain rfl := Option.some.inj H
          obtain ⟨hcz25_0, hcz25_1, hcz25_2, hcz25_3, hcz25_4, hcz25_5, hcz25_6, hfz25_0, hfz25_1, hfz25_2, hfz25_3, hfz25_4, hfz25_5, hfz25_6⟩ := bc7 BK127.out
          go_wp2
          go_ret
          exact ⟨zf, zb⟩
         ·rw [if_neg c24] at H
          have c24b0 := decide_eq_false c24
          clear c24
          obtain rfl := Option.some.inj H
          obtain ⟨hcz26_0, hcz26_1, hcz26_2, hcz26_3, hcz26_4, hcz26_5, hcz26_6, hfz26_0, hfz26_1, hfz26_2, hfz26_3, hfz26_4, hfz26_5, hfz26_6⟩ := bc7 BK127.out
          go_wp2
          go_ret
          exact ⟨zf, zb⟩
    ·replace c8 := Bool.eq_false_iff.mpr c8
     subst c8
     rw [if_neg (show ¬ (false = true) by decide)] at H
     have HC27 := qA0.mk H
     clear H
     obtain ⟨hcz28_0, hcz28_1, hcz28_2, hcz28_3, hcz28_4, hcz28_5, hcz28_6, hfz28_0, hfz28_1, hfz28_2, hfz28_3, hfz28_4, hfz28_5, hfz28_6⟩ := bc7 BK127.out
     go_upto_region 16 with (fail)
     go_cut [52] (fun v52 wc => ∃ (kq : Nat) (x52_26 : Bool), v52 = .bool x52_26 ∧ qA0 (qBQ.j2 kq x52_26 a0_0 a0_1 false a0_3 a0_4 a0_5 a0_6 = some r) ∧ qA0 (kq ≤ kj1) ∧ qA0 (wc.heap[gb127]? = some (.cells #[.string a0_0, .int .i64 a0_1, .bool false, .int .i64 a0_3, .int .i64 a0_4, .int .i64 a0_5, .int .i64 a0_6] 83 (0, 0))) ∧ qA0 (Below w.heap.size w wc))
     case first =>
      have H := HC27.out
      clear HC27
      by_cases c29 : a0_3 = 0
      ·rw [if_pos c29] at H
       have ⟨c29b0, c29b1⟩ := ze c29
       clear c29
       (first | rw [c29b0] | (simp only [qCE, qCJ]; rw [c29b0]) | skip)
       have H' := qA0.mk H
       clear H
       obtain ⟨hcz30_0, hcz30_1, hcz30_2, hcz30_3, hcz30_4, hcz30_5, hcz30_6, hfz30_0, hfz30_1, hfz30_2, hfz30_3, hfz30_4, hfz30_5, hfz30_6⟩ := bc7 BK127.out
       go_wp2
       go_meet
       case rel => exact ⟨_, ((a0_4 != 0)), zs, H', ⟨by have := HJ1.out; first | omega | exact Nat.le_refl _⟩, ⟨zk BK127⟩, ⟨zb⟩⟩
      ·rw [if_neg c29] at H
       have ⟨c29b0, c29b1⟩ := zn c29
       (first | rw [c29b0] | (simp only [qCE, qCJ]; rw [c29b0]) | skip)
       have H' := qA0.mk H
       clear H
       obtain ⟨hcz31_0, hcz31_1, hcz31_2, hcz31_3, hcz31_4, hcz31_5, hcz31_6, hfz31_0, hfz31_1, hfz31_2, hfz31_3, hfz31_4, hfz31_5, hfz31_6⟩ := bc7 BK127.out
       go_wp2
       go_meet
       case rel => exact ⟨_, (true), zs, H', ⟨by have := HJ1.out; first | omega | exact Nat.le_refl _⟩, ⟨zk BK127⟩, ⟨zb⟩⟩
     case rest =>
      clear HC27 hcz28_0 hcz28_1 hcz28_2 hcz28_3 hcz28_4 hcz28_5 hcz28_6 hfz28_0 hfz28_1 hfz28_2 hfz28_3 hfz28_4 hfz28_5 hfz28_6
      obtain ⟨kq, x52_26, rfl, HA, HJ26, BK127, HB⟩ := hcut
      cases kq with
      | zero => exact absurd HA.out (by simp [qBQ.j2])
      | succ kj26 =>
       have H := HA.out
       clear HA
       simp only [qBQ.j2] at H
       by_cases c32 : x52_26 = true
       ·subst c32
        rw [if_pos rfl] at H
        obtain rfl := Option.some.inj H
        go_wp2
        go_ret
        exact ⟨zf, zb⟩
       ·replace c32 := Bool.eq_false_iff.mpr c32
        subst c32
        rw [if_neg (show ¬ (false = true) by decide)] at H
        replace H := Option.bind_eq_some_iff.mp H
        obtain ⟨t133, A330, H⟩ := H
        have A33 := qA0.mk A330
        clear A330
        by_cases c34 : t133 = 0
        ·rw [if_pos c34] at H
         have ⟨c34b0, c34b1⟩ := ze c34
         clear c34
         by_cases c35 : a0_5 = 0
         ·rw [if_pos c35] at H
          have ⟨c35b0, c35b1⟩ := ze c35
          clear c35
          obtain rfl := Option.some.inj H
          obtain ⟨hcz36_0, hcz36_1, hcz36_2, hcz36_3, hcz36_4, hcz36_5, hcz36_6, hfz36_0, hfz36_1, hfz36_2, hfz36_3, hfz36_4, hfz36_5, hfz36_6⟩ := bc7 BK127.out
          go_wp2_with (((with_reducible refine qA9 (f := 43) rfl ?_); refine qC2 (some 55) Try.func43 #[.agg #[.int .i64 a0_5, .int .i64 a0_6]] ?_; (with_reducible refine (qCQ.calls a0_5 a0_6 t133 _ A33.out).mono ?_); rintro e w37 ⟨rfl, hb⟩; refine ⟨_, rfl, ?_⟩; replace BK127 := qA0.mk (qA5 (zk BK127) hb); replace HB := qA0.mk (qA1 zb hb); (try clear hb); (try clear hb2); (try clear hk); (try clear hi); obtain ⟨hcz38_0, hcz38_1, hcz38_2, hcz38_3, hcz38_4, hcz38_5, hcz38_6, hfz38_0, hfz38_1, hfz38_2, hfz38_3, hfz38_4, hfz38_5, hfz38_6⟩ := bc7 BK127.out))
          go_ret
          exact ⟨zf, zb⟩
         ·rw [if_neg c35] at H
          have ⟨c35b0, c35b1⟩ := zn c35
          by_cases c39 : a0_5 = a0_1
          ·rw [if_pos c39] at H
           have ⟨c39b0, c39b1⟩ := ze c39
           clear c39
           obtain rfl := Option.some.inj H
           obtain ⟨hcz40_0, hcz40_1, hcz40_2, hcz40_3, hcz40_4, hcz40_5, hcz40_6, hfz40_0, hfz40_1, hfz40_2, hfz40_3, hfz40_4, hfz40_5, hfz40_6⟩ := bc7 BK127.out
           go_wp2_with (((with_reducible refine qA9 (f := 43) rfl ?_); refine qC2 (some 55) Try.func43 #[.agg #[.int .i64 a0_5, .int .i64 a0_6]] ?_; (with_reducible refine (qCQ.calls a0_5 a0_6 t133 _ A33.out).mono ?_); rintro e w41 ⟨rfl, hb⟩; refine ⟨_, rfl, ?_⟩; replace BK127 := qA0.mk (qA5 (zk BK127) hb); replace HB := qA0.mk (qA1 zb hb); (try clear hb); (try clear hb2); (try clear hk); (try clear hi); obtain ⟨hcz42_0, hcz42_1, hcz42_2, hcz42_3, hcz42_4, hcz42_5, hcz42_6, hfz42_0, hfz42_1, hfz42_2, hfz42_3, hfz42_4, hfz42_5, hfz42_6⟩ := bc7 BK127.out))
           go_ret
           exact ⟨zf, zb⟩
          ·rw [if_neg c39] at H
           have ⟨c39b0, c39b1⟩ := zn c39
           obtain rfl := Option.some.inj H
           obtain ⟨hcz43_0, hcz43_1, hcz43_2, hcz43_3, hcz43_4, hcz43_5, hcz43_6, hfz43_0, hfz43_1, hfz43_2, hfz43_3, hfz43_4, hfz43_5, hfz43_6⟩ := bc7 BK127.out
           go_wp2_with (((with_reducible refine qA9 (f := 43) rfl ?_); refine qC2 (some 55) Try.func43 #[.agg #[.int .i64 a0_5, .int .i64 a0_6]] ?_; (with_reducible refine (qCQ.calls a0_5 a0_6 t133 _ A33.out).mono ?_); rintro e w44 ⟨rfl, hb⟩; refine ⟨_, rfl, ?_⟩; replace BK127 := qA0.mk (qA5 (zk BK127) hb); replace HB := qA0.mk (qA1 zb hb); (try clear hb); (try clear hb2); (try clear hk); (try clear hi); obtain ⟨hcz45_0, hcz45_1, hcz45_2, hcz45_3, hcz45_4, hcz45_5, hcz45_6, hfz45_0, hfz45_1, hfz45_2, hfz45_3, hfz45_4, hfz45_5, hfz45_6⟩ := bc7 BK127.out))
           go_ret
           exact ⟨zf, zb⟩
        ·rw [if_neg c34] at H
         have ⟨c34b0, c34b1⟩ := zn c34
         obtain rfl := Option.some.inj H
         obtain ⟨hcz46_0, hcz46_1, hcz46_2, hcz46_3, hcz46_4, hcz46_5, hcz46_6, hfz46_0, hfz46_1, hfz46_2, hfz46_3, hfz46_4, hfz46_5, hfz46_6⟩ := bc7 BK127.out
         go_wp2_with (((with_reducible refine qA9 (f := 43) rfl ?_); refine qC2 (some 55) Try.func43 #[.agg #[.int .i64 a0_5, .int .i64 a0_6]] ?_; (with_reducible refine (qCQ.calls a0_5 a0_6 t133 _ A33.out).mono ?_); rintro e w47 ⟨rfl, hb⟩; refine ⟨_, rfl, ?_⟩; replace BK127 := qA0.mk (qA5 (zk BK127) hb); replace HB := qA0.mk (qA1 zb hb); (try clear hb); (try clear hb2); (try clear hk); (try clear hi)))
         go_ret
         exact ⟨zf, zb⟩
end
end Go.Proofs.Ytnliaialemfcaaa.PRateFinds
end
section
namespace Go.Proofs.Ytnliaialemfcaaa.PRateFinds
noncomputable section
open Go.RowKit Go.Proofs.YtnliaialemfcaaaW.PrintWords Go.Proofs.YtnliaialemfcaaaW.PrintLast Go.Proofs.YtnliaialemfcaaaW.PrintMore
def qCM.okc (x : Int) : Bool := decide (97 ≤ x ∧ x ≤ 122 ∨ 48 ≤ x ∧ x ≤ 57 ∨ x = 45)
def qCM.b (s : ByteArray) : Bool := if s.toList = [] then false else if 20 < s.size then false else if bt s 0 < 97 then false else (List.range s.size).all fun j => qCM.okc (bt s (j : Int))
def qCM.f (s : ByteArray) : Option Bool := some (qCM.b s)
set_option maxRecDepth 100000 in
theorem qCM.calls (a0 : ByteArray) (r : Bool) (w : World) (h : qCM.f a0 = some r) :
  Calls Try.prog 44 #[.string a0] w fun e w' => e = .returned (.bool r) ∧ Below w.heap.size w w' := by
 have h := Option.some.inj h
 unfold qCM.b at h
 by_cases c1 : a0.toList = []
 ·rw [if_pos c1] at h
  subst h
  have ⟨c1b0, c1b1⟩ := ze c1
  clear c1
  go_enter Try.func44, Try.ntmps44
  go_wp2
  go_ret
  exact ⟨rfl, by repeat (first | exact Below.refl _ _ | apply qA8)⟩
 rw [if_neg c1] at h
 have hne : 0 < a0.size := by
  rcases Nat.eq_zero_or_pos a0.size with e | e
  ·exfalso
   apply c1
   have e2 : a0 = ⟨#[]⟩ := by
    cases a0 with
    | mk d => have : d.size = 0 := e; rw [Array.size_eq_zero_iff] at this; rw [this]
   rw [e2]; simp [ByteArray.toList, ByteArray.toList.loop, ByteArray.size]
  ·exact e
 have ⟨c1b0, c1b1⟩ := zn c1
 clear c1
 by_cases c2 : 20 < a0.size
 ·rw [if_pos c2] at h
  subst h
  have c2b0 : decide (20 < (a0.size : Int)) = true := decide_eq_true (by omega)
  have c2b1 := decide_eq_true c2
  clear c2
  go_enter Try.func44, Try.ntmps44
  go_wp2
  go_ret
  exact ⟨rfl, by repeat (first | exact Below.refl _ _ | apply qA8)⟩
 rw [if_neg c2] at h
 have c2b0 : decide (20 < (a0.size : Int)) = false := decide_eq_false (by omega)
 have c2b1 := decide_eq_false c2
 have hsz : a0.size ≤ 20 := by omega
 clear c2
 have hx6 : ∀ h : 0 < a0.size, ((a0[0]'h).toNat : Int) = bt a0 0 := bt_at a0 0
 have q6 := eq_true hne
 have qi6 : (0 < (a0.size : Int)) = True := eq_true (by omega)
 by_cases c3 : bt a0 0 < 97
 ·rw [if_pos c3] at h
  subst h
  have c3b0 := decide_eq_true c3
  clear c3
  go_enter Try.func44, Try.ntmps44
  go_wp2
  go_ret
  exact ⟨rfl, by repeat (first | exact Below.refl _ _ | apply qA8)⟩
 rw [if_neg c3] at h
 have c3b0 := decide_eq_false c3
 clear c3
 have hcv := fun W => print_bytes (P := Try.prog) 9 127 5 Try.underlying9 Try.underlying127 Try.underlying5 a0 W
 have HH := qA0.mk h
 clear h
 have HB := qA0.mk (bytes_below (Below.refl w.heap.size w) (Nat.le_refl _) 5 a0)
 have HC := qA0.mk (fun j (hj : j < a0.size) => (Lib.bytesWorld_cell w 5 a0 j hj).trans (congrArg (fun x => some (Value.int .u8 x)) (show (((a0.data.toList.getD j 0).toNat : Nat) : Int) = bt a0 (j : Int) from by
  rw [← rd_bytesOf]
  have h' : j < a0.data.toList.length := by rw [data_length]; exact hj
  simp [rd, bytesOf, List.getD_eq_getElem?_getD, List.getElem?_eq_getElem h'])))
 go_enter Try.func44, Try.ntmps44
 go_wp2
 generalize hW : Lib.bytesWorld w 5 a0 = W at HB HC ⊢
 clear hW hcv
 go_loop [20] (fun v20 => ∃ i : Nat, i ≤ a0.size ∧ v20 = .int .i64 i ∧ qA0 (∀ j, j < i → qCM.okc (bt a0 (j : Int)) = true)) (fun v20 => a0.size - (RowKit.intOf v20).toNat)
 case atStart => exact ⟨0, by omega, rfl, ⟨fun j hj => by omega⟩⟩
 case round =>
  obtain ⟨i, hi, rfl, HJ⟩ := hrel
  by_cases hlt : i < a0.size
  ·have hc := HC.out i hlt
   obtain ⟨g0, g1⟩ := bt_range a0 (i : Int)
   generalize hx : bt a0 (i : Int) = x at *
   have HX := qA0.mk hx
   clear hx
   by_cases hok : qCM.okc x = true
   ·have HJ' : qA0 (∀ j, j < i + 1 → qCM.okc (bt a0 (j : Int)) = true) := ⟨fun j hj => by
     rcases Nat.lt_or_ge j i with h | h
     ·exact HJ.out j h
     ·obtain rfl : j = i := by omega
      rw [HX.out]; exact hok⟩
    have hd := of_decide_eq_true hok
    have hs : IntKind.i64.wrap ((i : Int) + 1) = ((i + 1 : Nat) : Int) := by rw [IntKind.wrap_i64]; omega
    by_cases d1 : 97 ≤ x <;> by_cases d2 : x ≤ 122 <;> by_cases d3 : 48 ≤ x <;> by_cases d4 : x ≤ 57 <;> by_cases d5 : x = 45
    all_goals first
     | (exfalso; omega)
     | (have e1 : decide (97 ≤ x) = true := decide_eq_true d1) | (have e1 : decide (97 ≤ x) = false := decide_eq_false d1)
    all_goals first
     | (have e2 : decide (x ≤ 122) = true := decide_eq_true d2) | (have e2 : decide (x ≤ 122) = false := decide_eq_false d2)
    all_goals first
     | (have e3 : decide (48 ≤ x) = true := decide_eq_true d3) | (have e3 : decide (48 ≤ x) = false := decide_eq_false d3)
    all_goals first
     | (have e4 : decide (x ≤ 57) = true := decide_eq_true d4) | (have e4 : decide (x ≤ 57) = false := decide_eq_false d4)
    all_goals first
     | (have e5 : (x == 45) = true := beq_iff_eq.mpr d5) | (have e5 : (x == 45) = false := beq_eq_false_iff_ne.mpr d5)
    all_goals
     clear d1 d2 d3 d4 d5 hd hok
     go_wp2
     go_round
     case rel => exact ⟨i + 1, by omega, by first | rfl | (simp; done) | (rw [Int.natCast_add]; rfl), HJ'⟩
     case measure => simp [RowKit.intOf]; omega
   ·have hr : r = false := by
     rw [← HH.out]
     apply Bool.eq_false_iff.2
     intro hall
     rw [List.all_eq_true] at hall
     have := hall i (List.mem_range.2 hlt)
     rw [HX.out] at this
     exact hok this
    subst hr
    have hd : ¬ (97 ≤ x ∧ x ≤ 122 ∨ 48 ≤ x ∧ x ≤ 57 ∨ x = 45) := fun h => hok (decide_eq_true h)
    by_cases d1 : 97 ≤ x <;> by_cases d2 : x ≤ 122 <;> by_cases d3 : 48 ≤ x <;> by_cases d4 : x ≤ 57
    all_goals first
     | (exfalso; omega)
     | (have e1 : decide (97 ≤ x) = true := decide_eq_true d1) | (have e1 : decide (97 ≤ x) = false := decide_eq_false d1)
    all_goals first
     | (have e2 : decide (x ≤ 122) = true := decide_eq_true d2) | (have e2 : decide (x ≤ 122) = false := decide_eq_false d2)
    all_goals first
     | (have e3 : decide (48 ≤ x) = true := decide_eq_true d3) | (have e3 : decide (48 ≤ x) = false := decide_eq_false d3)
    all_goals first
     | (have e4 : decide (x ≤ 57) = true := decide_eq_true d4) | (have e4 : decide (x ≤ 57) = false := decide_eq_false d4)
    all_goals
     have e5 : (x == 45) = false := beq_eq_false_iff_ne.mpr (by omega)
     clear d1 d2 d3 d4 hd hok
     go_wp2
     go_ret
     exact ⟨rfl, HB.out⟩
  ·obtain rfl : i = a0.size := by omega
   have hr : r = true := by
    rw [← HH.out, List.all_eq_true]
    intro j hj
    exact HJ.out j (List.mem_range.1 hj)
   subst hr
   go_wp2
   go_ret
   exact ⟨rfl, HB.out⟩
def qD5.f (a0_0 : ByteArray) (a0_1 : Int) (a0_2 : Int) (a0_3 : Bool) (l0_4 : List (S76)) : Option (Bool) := if a0_1 ≥ 2 then (if a0_2 = 2 then (if a0_1 ≤ 6 then (if a0_3 = true then (if a0_1 = 2 then (some (a0_2 == 2)) else (some false)) else (some true)) else (some false)) else (if a0_2 = 3 then (if a0_1 ≤ 6 then (if a0_3 = true then (if a0_1 = 2 then (some (a0_2 == 2)) else (some false)) else (some true)) else (some false)) else (if a0_2 = 5 then (if a0_1 ≤ 6 then (if a0_3 = true then (if a0_1 = 2 then (some (a0_2 == 2)) else (some false)) else (some true)) else (some false)) else (if a0_1 ≤ 6 then (if a0_2 = 6 then (if a0_3 = true then (if a0_1 = 2 then (some (a0_2 == 2)) else (some false)) else (some true)) else (some false)) else (some false))))) else (if a0_2 = 2 then (some false) else (if a0_2 = 3 then (some false) else (if a0_2 = 5 then (some false) else (some false))))
set_option maxHeartbeats 8000000 in
set_option maxRecDepth 100000 in
theorem qD5.calls (a0_0 : ByteArray) (a0_1 : Int) (a0_2 : Int) (a0_3 : Bool) (A0_4 : Option Addr) (c0_4 : Nat) (l0_4 : List (S76)) (r : Bool) (w : World) (hr0_4 : Kd.C k76 w A0_4 l0_4.length l0_4) (hc0_4 : l0_4.length ≤ c0_4) (h : qD5.f a0_0 a0_1 a0_2 a0_3 l0_4 = some r) :
  Calls Try.prog 45 #[.agg #[.string a0_0, .int .i64 a0_1, .int .i64 a0_2, .bool a0_3, .slice A0_4 l0_4.length c0_4]] w fun e w' => e = .returned (.bool r) ∧ Below w.heap.size w w' := by
 have hu69 := Try.underlying69
 have HR0_4 := qA0.mk hr0_4
 have HC0_4 := qA0.mk hc0_4
 clear hr0_4 hc0_4
 have HB := qA0.mk (Below.refl w.heap.size w)
 have H : (if a0_1 ≥ 2 then (if a0_2 = 2 then (if a0_1 ≤ 6 then (if a0_3 = true then (if a0_1 = 2 then (some (a0_2 == 2)) else (some false)) else (some true)) else (some false)) else (if a0_2 = 3 then (if a0_1 ≤ 6 then (if a0_3 = true then (if a0_1 = 2 then (some (a0_2 == 2)) else (some false)) else (some true)) else (some false)) else (if a0_2 = 5 then (if a0_1 ≤ 6 then (if a0_3 = true then (if a0_1 = 2 then (some (a0_2 == 2)) else (some false)) else (some true)) else (some false)) else (if a0_1 ≤ 6 then (if a0_2 = 6 then (if a0_3 = true then (if a0_1 = 2 then (some (a0_2 == 2)) else (some false)) else (some true)) else (some false)) else (some false))))) else (if a0_2 = 2 then (some false) else (if a0_2 = 3 then (some false) else (if a0_2 = 5 then (some false) else (some false))))) = some r := h
 clear h
 by_cases c2 : a0_1 ≥ 2
 ·rw [if_pos c2] at H
  have c2b0 := decide_eq_true c2
  clear c2
  by_cases c3 : a0_2 = 2
  ·rw [if_pos c3] at H
   have ⟨c3b0, c3b1⟩ := ze c3
   clear c3
   by_cases c4 : a0_1 ≤ 6
   ·rw [if_pos c4] at H
    have c4b0 := decide_eq_true c4
    clear c4
    by_cases c5 : a0_3 = true
    ·subst c5
     rw [if_pos rfl] at H
     by_cases c6 : a0_1 = 2
     ·rw [if_pos c6] at H
      have ⟨c6b0, c6b1⟩ := ze c6
      clear c6
      obtain rfl := Option.some.inj H
      go_enter Try.func45, Try.ntmps45
      go_wp2_with (((with_reducible refine qAC (N := 1) rfl ?_); refine qAD ?hg (N := 1) ?hd (cs := #[.string a0_0, .int .i64 a0_1, .int .i64 a0_2, .bool true, .slice A0_4 l0_4.length c0_4]) (t := 69) ?hr ?_; (case hd => rfl); (case hg => rfl); (case hr => first | (go_simp; done) | (go_simp; rfl)); intro gb134 hg w7 hbox hb; have BK134 := qA0.mk (hbox); have GW134 := zg w gb134; have GE134 := zg w gb134; replace HB := qA0.mk (qA1 zb hb); clear hb hbox hg; obtain ⟨hcz8_0, hcz8_1, hcz8_2, hcz8_3, hcz8_4, hfz8_0, hfz8_1, hfz8_2, hfz8_3, hfz8_4⟩ := bc5 BK134.out))
      go_ret
      exact ⟨zf, zb⟩
     ·rw [if_neg c6] at H
      have ⟨c6b0, c6b1⟩ := zn c6
      obtain rfl := Option.some.inj H
      go_enter Try.func45, Try.ntmps45
      go_wp2_with (((with_reducible refine qAC (N := 1) rfl ?_); refine qAD ?hg (N := 1) ?hd (cs := #[.string a0_0, .int .i64 a0_1, .int .i64 a0_2, .bool true, .slice A0_4 l0_4.length c0_4]) (t := 69) ?hr ?_; (case hd => rfl); (case hg => rfl); (case hr => first | (go_simp; done) | (go_simp; rfl)); intro gb134 hg w9 hbox hb; have BK134 := qA0.mk (hbox); have GW134 := zg w gb134; have GE134 := zg w gb134; replace HB := qA0.mk (qA1 zb hb); clear hb hbox hg; obtain ⟨hcz10_0, hcz10_1, hcz10_2, hcz10_3, hcz10_4, hfz10_0, hfz10_1, hfz10_2, hfz10_3, hfz10_4⟩ := bc5 BK134.out))
      go_ret
      exact ⟨zf, zb⟩
    ·replace c5 := Bool.eq_false_iff.mpr c5
     subst c5
     rw [if_neg (show ¬ (false = true) by decide)] at H
     obtain rfl := Option.some.inj H
     go_enter Try.func45, Try.ntmps45
     go_wp2_with (((with_reducible refine qAC (N := 1) rfl ?_); refine qAD ?hg (N := 1) ?hd (cs := #[.string a0_0, .int .i64 a0_1, .int .i64 a0_2, .bool false, .slice A0_4 l0_4.length c0_4]) (t := 69) ?hr ?_; (case hd => rfl); (case hg => rfl); (case hr => first | (go_simp; done) | (go_simp; rfl)); intro gb134 hg w11 hbox hb; have BK134 := qA0.mk (hbox); have GW134 := zg w gb134; have GE134 := zg w gb134; replace HB := qA0.mk (qA1 zb hb); clear hb hbox hg; obtain ⟨hcz12_0, hcz12_1, hcz12_2, hcz12_3, hcz12_4, hfz12_0, hfz12_1, hfz12_2, hfz12_3, hfz12_4⟩ := bc5 BK134.out))
     go_ret
     exact ⟨zf, zb⟩
   ·rw [if_neg c4] at H
    have c4b0 := decide_eq_false c4
    clear c4
    obtain rfl := Option.some.inj H
    go_enter Try.func45, Try.ntmps45
    go_wp2_with (((with_reducible refine qAC (N := 1) rfl ?_); refine qAD ?hg (N := 1) ?hd (cs := #[.string a0_0, .int .i64 a0_1, .int .i64 a0_2, .bool a0_3, .slice A0_4 l0_4.length c0_4]) (t := 69) ?hr ?_; (case hd => rfl); (case hg => rfl); (case hr => first | (go_simp; done) | (go_simp; rfl)); intro gb134 hg w13 hbox hb; have BK134 := qA0.mk (hbox); have GW134 := zg w gb134; have GE134 := zg w gb134; replace HB := qA0.mk (qA1 zb hb); clear hb hbox hg; obtain ⟨hcz14_0, hcz14_1, hcz14_2, hcz14_3, hcz14_4, hfz14_0, hfz14_1, hfz14_2, hfz14_3, hfz14_4⟩ := bc5 BK134.out))
    go_ret
    exact ⟨zf, zb⟩
  ·rw [if_neg c3] at H
   have ⟨c3b0, c3b1⟩ := zn c3
   by_cases c15 : a0_2 = 3
   ·rw [if_pos c15] at H
    have ⟨c15b0, c15b1⟩ := ze c15
    clear c15
    by_cases c16 : a0_1 ≤ 6
    ·rw [if_pos c16] at H
     have c16b0 := decide_eq_true c16
     clear c16
     by_cases c17 : a0_3 = true
     ·subst c17
      rw [if_pos rfl] at H
      by_cases c18 : a0_1 = 2
      ·rw [if_pos c18] at H
       have ⟨c18b0, c18b1⟩ := ze c18
       clear c18
       obtain rfl := Option.some.inj H
       go_enter Try.func45, Try.ntmps45
       go_wp2_with (((with_reducible refine qAC (N := 1) rfl ?_); refine qAD ?hg (N := 1) ?hd (cs := #[.string a0_0, .int .i64 a0_1, .int .i64 a0_2, .bool true, .slice A0_4 l0_4.length c0_4]) (t := 69) ?hr ?_; (case hd => rfl); (case hg => rfl); (case hr => first | (go_simp; done) | (go_simp; rfl)); intro gb134 hg w19 hbox hb; have BK134 := qA0.mk (hbox); have GW134 := zg w gb134; have GE134 := zg w gb134; replace HB := qA0.mk (qA1 zb hb); clear hb hbox hg; obtain ⟨hcz20_0, hcz20_1, hcz20_2, hcz20_3, hcz20_4, hfz20_0, hfz20_1, hfz20_2, hfz20_3, hfz20_4⟩ := bc5 BK134.out))
       go_ret
       exact ⟨zf, zb⟩
      ·rw [if_neg c18] at H
       have ⟨c18b0, c18b1⟩ := zn c18
       obtain rfl := Option.some.inj H
       go_enter Try.func45, Try.ntmps45
       go_wp2_with (((with_reducible refine qAC (N := 1) rfl ?_); refine qAD ?hg (N := 1) ?hd (cs := #[.string a0_0, .int .i64 a0_1, .int .i64 a0_2, .bool true, .slice A0_4 l0_4.length c0_4]) (t := 69) ?hr ?_; (case hd => rfl); (case hg => rfl); (case hr => first | (go_simp; done) | (go_simp; rfl)); intro gb134 hg w21 hbox hb; have BK134 := qA0.mk (hbox); have GW134 := zg w gb134; have GE134 := zg w gb134; replace HB := qA0.mk (qA1 zb hb); clear hb hbox hg; obtain ⟨hcz22_0, hcz22_1, hcz22_2, hcz22_3, hcz22_4, hfz22_0, hfz22_1, hfz22_2, hfz22_3, hfz22_4⟩ := bc5 BK134.out))
       go_ret
       exact ⟨zf, zb⟩
     ·replace c17 := Bool.eq_false_iff.mpr c17
      subst c17
      rw [if_neg (show ¬ (false = true) by decide)] at H
      obtain rfl := Option.some.inj H
      go_enter Try.func45, Try.ntmps45
      go_wp2_with (((with_reducible refine qAC (N := 1) rfl ?_); refine qAD ?hg (N := 1) ?hd (cs := #[.string a0_0, .int .i64 a0_1, .int .i64 a0_2, .bool false, .slice A0_4 l0_4.length c0_4]) (t := 69) ?hr ?_; (case hd => rfl); (case hg => rfl); (case hr => first | (go_simp; done) | (go_simp; rfl)); intro gb134 hg w23 hbox hb; have BK134 := qA0.mk (hbox); have GW134 := zg w gb134; have GE134 := zg w gb134; replace HB := qA0.mk (qA1 zb hb); clear hb hbox hg; obtain ⟨hcz24_0, hcz24_1, hcz24_2, hcz24_3, hcz24_4, hfz24_0, hfz24_1, hfz24_2, hfz24_3, hfz24_4⟩ := bc5 BK134.out))
      go_ret
      exact ⟨zf, zb⟩
    ·rw [if_neg c16] at H
     have c16b0 := decide_eq_false c16
     clear c16
     obtain rfl := Option.some.inj H
     go_enter Try.func45, Try.ntmps45
     go_wp2_with (((with_reducible refine qAC (N := 1) rfl ?_); refine qAD ?hg (N := 1) ?hd (cs := #[.string a0_0, .int .i64 a0_1, .int .i64 a0_2, .bool a0_3, .slice A0_4 l0_4.length c0_4]) (t := 69) ?hr ?_; (case hd => rfl); (case hg => rfl); (case hr => first | (go_simp; done) | (go_simp; rfl)); intro gb134 hg w25 hbox hb; have BK134 := qA0.mk (hbox); have GW134 := zg w gb134; have GE134 := zg w gb134; replace HB := qA0.mk (qA1 zb hb); clear hb hbox hg; obtain ⟨hcz26_0, hcz26_1, hcz26_2, hcz26_3, hcz26_4, hfz26_0, hfz26_1, hfz26_2, hfz26_3, hfz26_4⟩ := bc5 BK134.out))
     go_ret
     exact ⟨zf, zb⟩
   ·rw [if_neg c15] at H
    have ⟨c15b0, c15b1⟩ := zn c15
    by_cases c27 : a0_2 = 5
    ·rw [if_pos c27] at H
     have ⟨c27b0, c27b1⟩ := ze c27
     clear c27
     by_cases c28 : a0_1 ≤ 6
     ·rw [if_pos c28] at H
      have c28b0 := decide_eq_true c28
      clear c28
      by_cases c29 : a0_3 = true
      ·subst c29
       rw [if_pos rfl] at H
       by_cases c30 : a0_1 = 2
       ·rw [if_pos c30] at H
        have ⟨c30b0, c30b1⟩ := ze c30
        clear c30
        obtain rfl := Option.some.inj H
        go_enter Try.func45, Try.ntmps45
        go_wp2_with (((with_reducible refine qAC (N := 1) rfl ?_); refine qAD ?hg (N := 1) ?hd (cs := #[.string a0_0, .int .i64 a0_1, .int .i64 a0_2, .bool true, .slice A0_4 l0_4.length c0_4]) (t := 69) ?hr ?_; (case hd => rfl); (case hg => rfl); (case hr => first | (go_simp; done) | (go_simp; rfl)); intro gb134 hg w31 hbox hb; have BK134 := qA0.mk (hbox); have GW134 := zg w gb134; have GE134 := zg w gb134; replace HB := qA0.mk (qA1 zb hb); clear hb hbox hg; obtain ⟨hcz32_0, hcz32_1, hcz32_2, hcz32_3, hcz32_4, hfz32_0, hfz32_1, hfz32_2, hfz32_3, hfz32_4⟩ := bc5 BK134.out))
        go_ret
        exact ⟨zf, zb⟩
       ·rw [if_neg c30] at H
        have ⟨c30b0, c30b1⟩ := zn c30
        obtain rfl := Option.some.inj H
        go_enter Try.func45, Try.ntmps45
        go_wp2_with (((with_reducible refine qAC (N := 1) rfl ?_); refine qAD ?hg (N := 1) ?hd (cs := #[.string a0_0, .int .i64 a0_1, .int .i64 a0_2, .bool true, .slice A0_4 l0_4.length c0_4]) (t := 69) ?hr ?_; (case hd => rfl); (case hg => rfl); (case hr => first | (go_simp; done) | (go_simp; rfl)); intro gb134 hg w33 hbox hb; have BK134 := qA0.mk (hbox); have GW134 := zg w gb134; have GE134 := zg w gb134; replace HB := qA0.mk (qA1 zb hb); clear hb hbox hg; obtain ⟨hcz34_0, hcz34_1, hcz34_2, hcz34_3, hcz34_4, hfz34_0, hfz34_1, hfz34_2, hfz34_3, hfz34_4⟩ := bc5 BK134.out))
        go_ret
        exact ⟨zf, zb⟩
      ·replace c29 := Bool.eq_false_iff.mpr c29
       subst c29
       rw [if_neg (show ¬ (false = true) by decide)] at H
       obtain rfl := Option.some.inj H
       go_enter Try.func45, Try.ntmps45
       go_wp2_with (((with_reducible refine qAC (N := 1) rfl ?_); refine qAD ?hg (N := 1) ?hd (cs := #[.string a0_0, .int .i64 a0_1, .int .i64 a0_2, .bool false, .slice A0_4 l0_4.length c0_4]) (t := 69) ?hr ?_; (case hd => rfl); (case hg => rfl); (case hr => first | (go_simp; done) | (go_simp; rfl)); intro gb134 hg w35 hbox hb; have BK134 := qA0.mk (hbox); have GW134 := zg w gb134; have GE134 := zg w gb134; replace HB := qA0.mk (qA1 zb hb); clear hb hbox hg; obtain ⟨hcz36_0, hcz36_1, hcz36_2, hcz36_3, hcz36_4, hfz36_0, hfz36_1, hfz36_2, hfz36_3, hfz36_4⟩ := bc5 BK134.out))
       go_ret
       exact ⟨zf, zb⟩
     ·rw [if_neg c28] at H
      have c28b0 := decide_eq_false c28
      clear c28
      obtain rfl := Option.some.inj H
      go_enter Try.func45, Try.ntmps45
      go_wp2_with (((with_reducible refine qAC (N := 1) rfl ?_); refine qAD ?hg (N := 1) ?hd (cs := #[.string a0_0, .int .i64 a0_1, .int .i64 a0_2, .bool a0_3, .slice A0_4 l0_4.length c0_4]) (t := 69) ?hr ?_; (case hd => rfl); (case hg => rfl); (case hr => first | (go_simp; done) | (go_simp; rfl)); intro gb134 hg w37 hbox hb; have BK134 := qA0.mk (hbox); have GW134 := zg w gb134; have GE134 := zg w gb134; replace HB := qA0.mk (qA1 zb hb); clear hb hbox hg; obtain ⟨hcz38_0, hcz38_1, hcz38_2, hcz38_3, hcz38_4, hfz38_0, hfz38_1, hfz38_2, hfz38_3, hfz38_4⟩ := bc5 BK134.out))
      go_ret
      exact ⟨zf, zb⟩
    ·rw [if_neg c27] at H
     have ⟨c27b0, c27b1⟩ := zn c27
     by_cases c39 : a0_1 ≤ 6
     ·rw [if_pos c39] at H
      have c39b0 := decide_eq_true c39
      clear c39
      by_cases c40 : a0_2 = 6
      ·rw [if_pos c40] at H
       have ⟨c40b0, c40b1⟩ := ze c40
       clear c40
       by_cases c41 : a0_3 = true
       ·subst c41
        rw [if_pos rfl] at H
        by_cases c42 : a0_1 = 2
        ·rw [if_pos c42] at H
         have ⟨c42b0, c42b1⟩ := ze c42
         clear c42
         obtain rfl := Option.some.inj H
         go_enter Try.func45, Try.ntmps45
         go_wp2_with (((with_reducible refine qAC (N := 1) rfl ?_); refine qAD ?hg (N := 1) ?hd (cs := #[.string a0_0, .int .i64 a0_1, .int .i64 a0_2, .bool true, .slice A0_4 l0_4.length c0_4]) (t := 69) ?hr ?_; (case hd => rfl); (case hg => rfl); (case hr => first | (go_simp; done) | (go_simp; rfl)); intro gb134 hg w43 hbox hb; have BK134 := qA0.mk (hbox); have GW134 := zg w gb134; have GE134 := zg w gb134; replace HB := qA0.mk (qA1 zb hb); clear hb hbox hg; obtain ⟨hcz44_0, hcz44_1, hcz44_2, hcz44_3, hcz44_4, hfz44_0, hfz44_1, hfz44_2, hfz44_3, hfz44_4⟩ := bc5 BK134.out))
         go_ret
         exact ⟨zf, zb⟩
        ·rw [if_neg c42] at H
         have ⟨c42b0, c42b1⟩ := zn c42
         obtain rfl := Option.some.inj H
         go_enter Try.func45, Try.ntmps45
         go_wp2_with (((with_reducible refine qAC (N := 1) rfl ?_); refine qAD ?hg (N := 1) ?hd (cs := #[.string a0_0, .int .i64 a0_1, .int .i64 a0_2, .bool true, .slice A0_4 l0_4.length c0_4]) (t := 69) ?hr ?_; (case hd => rfl); (case hg => rfl); (case hr => first | (go_simp; done) | (go_simp; rfl)); intro gb134 hg w45 hbox hb; have BK134 := qA0.mk (hbox); have GW134 := zg w gb134; have GE134 := zg w gb134; replace HB := qA0.mk (qA1 zb hb); clear hb hbox hg; obtain ⟨hcz46_0, hcz46_1, hcz46_2, hcz46_3, hcz46_4, hfz46_0, hfz46_1, hfz46_2, hfz46_3, hfz46_4⟩ := bc5 BK134.out))
         go_ret
         exact ⟨zf, zb⟩
       ·replace c41 := Bool.eq_false_iff.mpr c41
        subst c41
        rw [if_neg (show ¬ (false = true) by decide)] at H
        obtain rfl := Option.some.inj H
        go_enter Try.func45, Try.ntmps45
        go_wp2_with (((with_reducible refine qAC (N := 1) rfl ?_); refine qAD ?hg (N := 1) ?hd (cs := #[.string a0_0, .int .i64 a0_1, .int .i64 a0_2, .bool false, .slice A0_4 l0_4.length c0_4]) (t := 69) ?hr ?_; (case hd => rfl); (case hg => rfl); (case hr => first | (go_simp; done) | (go_simp; rfl)); intro gb134 hg w47 hbox hb; have BK134 := qA0.mk (hbox); have GW134 := zg w gb134; have GE134 := zg w gb134; replace HB := qA0.mk (qA1 zb hb); clear hb hbox hg; obtain ⟨hcz48_0, hcz48_1, hcz48_2, hcz48_3, hcz48_4, hfz48_0, hfz48_1, hfz48_2, hfz48_3, hfz48_4⟩ := bc5 BK134.out))
        go_ret
        exact ⟨zf, zb⟩
      ·rw [if_neg c40] at H
       have ⟨c40b0, c40b1⟩ := zn c40
       obtain rfl := Option.some.inj H
       go_enter Try.func45, Try.ntmps45
       go_wp2_with (((with_reducible refine qAC (N := 1) rfl ?_); refine qAD ?hg (N := 1) ?hd (cs := #[.string a0_0, .int .i64 a0_1, .int .i64 a0_2, .bool a0_3, .slice A0_4 l0_4.length c0_4]) (t := 69) ?hr ?_; (case hd => rfl); (case hg => rfl); (case hr => first | (go_simp; done) | (go_simp; rfl)); intro gb134 hg w49 hbox hb; have BK134 := qA0.mk (hbox); have GW134 := zg w gb134; have GE134 := zg w gb134; replace HB := qA0.mk (qA1 zb hb); clear hb hbox hg; obtain ⟨hcz50_0, hcz50_1, hcz50_2, hcz50_3, hcz50_4, hfz50_0, hfz50_1, hfz50_2, hfz50_3, hfz50_4⟩ := bc5 BK134.out))
       go_ret
       exact ⟨zf, zb⟩
     ·rw [if_neg c39] at H
      have c39b0 := decide_eq_false c39
      clear c39
      obtain rfl := Option.some.inj H
      go_enter Try.func45, Try.ntmps45
      go_wp2_with (((with_reducible refine qAC (N := 1) rfl ?_); refine qAD ?hg (N := 1) ?hd (cs := #[.string a0_0, .int .i64 a0_1, .int .i64 a0_2, .bool a0_3, .slice A0_4 l0_4.length c0_4]) (t := 69) ?hr ?_; (case hd => rfl); (case hg => rfl); (case hr => first | (go_simp; done) | (go_simp; rfl)); intro gb134 hg w51 hbox hb; have BK134 := qA0.mk (hbox); have GW134 := zg w gb134; have GE134 := zg w gb134; replace HB := qA0.mk (qA1 zb hb); clear hb hbox hg; obtain ⟨hcz52_0, hcz52_1, hcz52_2, hcz52_3, hcz52_4, hfz52_0, hfz52_1, hfz52_2, hfz52_3, hfz52_4⟩ := bc5 BK134.out))
      go_ret
      exact ⟨zf, zb⟩
 ·rw [if_neg c2] at H
  have c2b0 := decide_eq_false c2
  clear c2
  by_cases c53 : a0_2 = 2
  ·rw [if_pos c53] at H
   have ⟨c53b0, c53b1⟩ := ze c53
   clear c53
   obtain rfl := Option.some.inj H
   go_enter Try.func45, Try.ntmps45
   go_wp2_with (((with_reducible refine qAC (N := 1) rfl ?_); refine qAD ?hg (N := 1) ?hd (cs := #[.string a0_0, .int .i64 a0_1, .int .i64 a0_2, .bool a0_3, .slice A0_4 l0_4.length c0_4]) (t := 69) ?hr ?_; (case hd => rfl); (case hg => rfl); (case hr => first | (go_simp; done) | (go_simp; rfl)); intro gb134 hg w54 hbox hb; have BK134 := qA0.mk (hbox); have GW134 := zg w gb134; have GE134 := zg w gb134; replace HB := qA0.mk (qA1 zb hb); clear hb hbox hg; obtain ⟨hcz55_0, hcz55_1, hcz55_2, hcz55_3, hcz55_4, hfz55_0, hfz55_1, hfz55_2, hfz55_3, hfz55_4⟩ := bc5 BK134.out))
   go_ret
   exact ⟨zf, zb⟩
  ·rw [if_neg c53] at H
   have ⟨c53b0, c53b1⟩ := zn c53
   by_cases c56 : a0_2 = 3
   ·rw [if_pos c56] at H
    have ⟨c56b0, c56b1⟩ := ze c56
    clear c56
    obtain rfl := Option.some.inj H
    go_enter Try.func45, Try.ntmps45
    go_wp2_with (((with_reducible refine qAC (N := 1) rfl ?_); refine qAD ?hg (N := 1) ?hd (cs := #[.string a0_0, .int .i64 a0_1, .int .i64 a0_2, .bool a0_3, .slice A0_4 l0_4.length c0_4]) (t := 69) ?hr ?_; (case hd => rfl); (case hg => rfl); (case hr => first | (go_simp; done) | (go_simp; rfl)); intro gb134 hg w57 hbox hb; have BK134 := qA0.mk (hbox); have GW134 := zg w gb134; have GE134 := zg w gb134; replace HB := qA0.mk (qA1 zb hb); clear hb hbox hg; obtain ⟨hcz58_0, hcz58_1, hcz58_2, hcz58_3, hcz58_4, hfz58_0, hfz58_1, hfz58_2, hfz58_3, hfz58_4⟩ := bc5 BK134.out))
    go_ret
    exact ⟨zf, zb⟩
   ·rw [if_neg c56] at H
    have ⟨c56b0, c56b1⟩ := zn c56
    by_cases c59 : a0_2 = 5
    ·rw [if_pos c59] at H
     have ⟨c59b0, c59b1⟩ := ze c59
     clear c59
     obtain rfl := Option.some.inj H
     go_enter Try.func45, Try.ntmps45
     go_wp2_with (((with_reducible refine qAC (N := 1) rfl ?_); refine qAD ?hg (N := 1) ?hd (cs := #[.string a0_0, .int .i64 a0_1, .int .i64 a0_2, .bool a0_3, .slice A0_4 l0_4.length c0_4]) (t := 69) ?hr ?_; (case hd => rfl); (case hg => rfl); (case hr => first | (go_simp; done) | (go_simp; rfl)); intro gb134 hg w60 hbox hb; have BK134 := qA0.mk (hbox); have GW134 := zg w gb134; have GE134 := zg w gb134; replace HB := qA0.mk (qA1 zb hb); clear hb hbox hg; obtain ⟨hcz61_0, hcz61_1, hcz61_2, hcz61_3, hcz61_4, hfz61_0, hfz61_1, hfz61_2, hfz61_3, hfz61_4⟩ := bc5 BK134.out))
     go_ret
     exact ⟨zf, zb⟩
    ·rw [if_neg c59] at H
     have ⟨c59b0, c59b1⟩ := zn c59
     obtain rfl := Option.some.inj H
     go_enter Try.func45, Try.ntmps45
     go_wp2_with (((with_reducible refine qAC (N := 1) rfl ?_); refine qAD ?hg (N := 1) ?hd (cs := #[.string a0_0, .int .i64 a0_1, .int .i64 a0_2, .bool a0_3, .slice A0_4 l0_4.length c0_4]) (t := 69) ?hr ?_; (case hd => rfl); (case hg => rfl); (case hr => first | (go_simp; done) | (go_simp; rfl)); intro gb134 hg w62 hbox hb; have BK134 := qA0.mk (hbox); have GW134 := zg w gb134; have GE134 := zg w gb134; replace HB := qA0.mk (qA1 zb hb); clear hb hbox hg; obtain ⟨hcz63_0, hcz63_1, hcz63_2, hcz63_3, hcz63_4, hfz63_0, hfz63_1, hfz63_2, hfz63_3, hfz63_4⟩ := bc5 BK134.out))
     go_ret
     exact ⟨zf, zb⟩
end
end Go.Proofs.Ytnliaialemfcaaa.PRateFinds
end
section
namespace Go.Proofs.Ytnliaialemfcaaa.PRateFinds
noncomputable section
open Go.RowKit Go.Proofs.YtnliaialemfcaaaW.PrintWords Go.Proofs.YtnliaialemfcaaaW.PrintLast Go.Proofs.YtnliaialemfcaaaW.PrintMore
mutual
def qAZ.j0 : Nat → Int → Int → Int → Int → ByteArray → Int → Int → Bool → List (S76) → Option (Int)
 | 0, _, _, _, _, _, _, _, _, _ => none
 | k + 1, x3, x4, x5, x6, x136000, x136001, x136002, x136003, x136004 => qAZ.l0 k x3 x4 x5 x6 x136004 (x136004.length : Int) 0 x136000 x136001 x136002 x136003 x136004
def qAZ.l0 : Nat → Int → Int → Int → Int → List (S76) → Int → Int → ByteArray → Int → Int → Bool → List (S76) → Option (Int)
 | 0, _, _, _, _, _, _, _, _, _, _, _, _ => none
 | k + 1, x3, x4, x5, x6, x43, x44, x45, x136000, x136001, x136002, x136003, x136004 => if x45 < x44 then (if 0 ≤ x45 then (if x45 < (x43.length : Int) then (if ((qCK x43 x45).f0) < x3 then (qAZ.j2 k x3 x4 x5 x6 x45 x43 x44 x45 true x136000 x136001 x136002 x136003 x136004 ((qCK x43 x45).f0) ((qCK x43 x45).f1)) else (if ((qCK x43 x45).f0) > x4 then (qAZ.j2 k x3 x4 x5 x6 x45 x43 x44 x45 true x136000 x136001 x136002 x136003 x136004 ((qCK x43 x45).f0) ((qCK x43 x45).f1)) else (if ((qCK x43 x45).f1) < x5 then (qAZ.j2 k x3 x4 x5 x6 x45 x43 x44 x45 true x136000 x136001 x136002 x136003 x136004 ((qCK x43 x45).f0) ((qCK x43 x45).f1)) else (qAZ.j2 k x3 x4 x5 x6 x45 x43 x44 x45 (decide (((qCK x43 x45).f1) > x6)) x136000 x136001 x136002 x136003 x136004 ((qCK x43 x45).f0) ((qCK x43 x45).f1))))) else (none)) else (none)) else (some 0)
def qAZ.j2 : Nat → Int → Int → Int → Int → Int → List (S76) → Int → Int → Bool → ByteArray → Int → Int → Bool → List (S76) → Int → Int → Option (Int)
 | 0, _, _, _, _, _, _, _, _, _, _, _, _, _, _, _, _ => none
 | k + 1, x3, x4, x5, x6, x7, x43, x44, x45, x50, x136000, x136001, x136002, x136003, x136004, x144000, x144001 => if x50 = true then (some 2) else (if x7 > 0 then (if 0 ≤ (wrap64 (x7 - 1)) then (if (wrap64 (x7 - 1)) < (x136004.length : Int) then (if x144000 ≤ ((qCK x136004 (wrap64 (x7 - 1))).f0) then (some 9) else (qAZ.l0 k x3 x4 x5 x6 x43 x44 (wrap64 (x45 + 1)) x136000 x136001 x136002 x136003 x136004)) else (none)) else (none)) else (qAZ.l0 k x3 x4 x5 x6 x43 x44 (wrap64 (x45 + 1)) x136000 x136001 x136002 x136003 x136004))
end
def qAZ.f (k : Nat) (a0_0 : ByteArray) (a0_1 : Int) (a0_2 : Int) (a0_3 : Bool) (l0_4 : List (S76)) : Option (Int) := (qCM.f a0_0).bind fun t136 => (if t136 = true then ((qD5.f a0_0 a0_1 a0_2 a0_3 l0_4).bind fun t137 => (if t137 = true then (if (l0_4.length : Int) = 0 then (some 13) else (if (l0_4.length : Int) > 20 then (some 2) else ((qCG.f a0_1).bind fun bt138 => ((qCG.f a0_2).bind fun bt140 => (if a0_3 = true then (qAZ.j0 k bt138.1 bt138.2 0 1000000 a0_0 a0_1 a0_2 a0_3 l0_4) else (qAZ.j0 k bt138.1 bt138.2 bt140.1 bt140.2 a0_0 a0_1 a0_2 a0_3 l0_4)))))) else (some 8))) else (some 15))
set_option maxHeartbeats 8000000 in
set_option maxRecDepth 100000 in
theorem qAZ.calls (k : Nat) (a0_0 : ByteArray) (a0_1 : Int) (a0_2 : Int) (a0_3 : Bool) (A0_4 : Option Addr) (c0_4 : Nat) (l0_4 : List (S76)) (r : Int) (w : World) (hr0_4 : Kd.C k76 w A0_4 l0_4.length l0_4) (hc0_4 : l0_4.length ≤ c0_4) (h : qAZ.f k a0_0 a0_1 a0_2 a0_3 l0_4 = some r) :
  Calls Try.prog 26 #[.agg #[.string a0_0, .int .i64 a0_1, .int .i64 a0_2, .bool a0_3, .slice A0_4 l0_4.length c0_4]] w fun e w' => e = .returned (.int .i64 r) ∧ Below w.heap.size w w' := by
 have hu69 := Try.underlying69
 have hu76 := Try.underlying76
 have HR0_4 := qA0.mk hr0_4
 have HC0_4 := qA0.mk hc0_4
 clear hr0_4 hc0_4
 have HB := qA0.mk (Below.refl w.heap.size w)
 have H : ((qCM.f a0_0).bind fun t136 => (if t136 = true then ((qD5.f a0_0 a0_1 a0_2 a0_3 l0_4).bind fun t137 => (if t137 = true then (if (l0_4.length : Int) = 0 then (some 13) else (if (l0_4.length : Int) > 20 then (some 2) else ((qCG.f a0_1).bind fun bt138 => ((qCG.f a0_2).bind fun bt140 => (if a0_3 = true then (qAZ.j0 k bt138.1 bt138.2 0 1000000 a0_0 a0_1 a0_2 a0_3 l0_4) else (qAZ.j0 k bt138.1 bt138.2 bt140.1 bt140.2 a0_0 a0_1 a0_2 a0_3 l0_4)))))) else (some 8))) else (some 15))) = some r := h
 clear h
 replace H := Option.bind_eq_some_iff.mp H
 obtain ⟨t136, A20, H⟩ := H
 have A2 := qA0.mk A20
 clear A20
 by_cases c3 : t136 = true
 ·subst c3
  rw [if_pos rfl] at H
  replace H := Option.bind_eq_some_iff.mp H
  obtain ⟨t137, A40, H⟩ := H
  have A4 := qA0.mk A40
  clear A40
  by_cases c5 : t137 = true
  ·subst c5
   rw [if_pos rfl] at H
   by_cases c6 : (l0_4.length : Int) = 0
   ·rw [if_pos c6] at H
    have ⟨c6b0, c6b1⟩ := ze c6
    clear c6
    obtain rfl := Option.some.inj H
    go_enter Try.func26, Try.ntmps26
    go_wp2_with (first | ((with_reducible refine qAC (N := 1) rfl ?_); refine qAD ?hg (N := 1) ?hd (cs := #[.string a0_0, .int .i64 a0_1, .int .i64 a0_2, .bool a0_3, .slice A0_4 l0_4.length c0_4]) (t := 69) ?hr ?_; (case hd => rfl); (case hg => rfl); (case hr => first | (go_simp; done) | (go_simp; rfl)); intro gb135 hg w7 hbox hb; have BK135 := qA0.mk (hbox); have GW135 := zg w gb135; have GE135 := zg w gb135; replace HB := qA0.mk (qA1 zb hb); clear hb hbox hg; obtain ⟨hcz8_0, hcz8_1, hcz8_2, hcz8_3, hcz8_4, hfz8_0, hfz8_1, hfz8_2, hfz8_3, hfz8_4⟩ := bc5 BK135.out) | (go_at_call 44; (with_reducible refine (qCM.calls a0_0 true _ A2.out).mono ?_); rintro e w9 ⟨rfl, hb⟩; replace BK135 := qA0.mk (qA5 (zk BK135) hb); replace HB := qA0.mk (qA1 zb hb); (try clear hb); (try clear hb2); (try clear hk); (try clear hi); obtain ⟨hcz10_0, hcz10_1, hcz10_2, hcz10_3, hcz10_4, hfz10_0, hfz10_1, hfz10_2, hfz10_3, hfz10_4⟩ := bc5 BK135.out) | (go_at_call 45; (with_reducible refine (qD5.calls a0_0 a0_1 a0_2 a0_3 _ _ l0_4 true _ ?side1 ?side2 A4.out).mono ?_); (case side1 => repeat (first | exact (Kd.qAQ HR0_4.out HB.out) | refine sC ?_)); (case side2 => exact HC0_4.out); rintro e w11 ⟨rfl, hb⟩; replace BK135 := qA0.mk (qA5 (zk BK135) hb); replace HB := qA0.mk (qA1 zb hb); (try clear hb); (try clear hb2); (try clear hk); (try clear hi); obtain ⟨hcz12_0, hcz12_1, hcz12_2, hcz12_3, hcz12_4, hfz12_0, hfz12_1, hfz12_2, hfz12_3, hfz12_4⟩ := bc5 BK135.out))
    go_ret
    exact ⟨zf, zb⟩
   ·rw [if_neg c6] at H
    have ⟨c6b0, c6b1⟩ := zn c6
    have c6b2 : ¬ (l0_4 = []) := fun h_ => c6 (by rw [h_]; rfl)
    by_cases c13 : (l0_4.length : Int) > 20
    ·rw [if_pos c13] at H
     have c13b0 := decide_eq_true c13
     have c13b1 : decide (20 < l0_4.length) = true := decide_eq_true (by omega)
     clear c13
     obtain rfl := Option.some.inj H
     go_enter Try.func26, Try.ntmps26
     go_wp2_with (first | ((with_reducible refine qAC (N := 1) rfl ?_); refine qAD ?hg (N := 1) ?hd (cs := #[.string a0_0, .int .i64 a0_1, .int .i64 a0_2, .bool a0_3, .slice A0_4 l0_4.length c0_4]) (t := 69) ?hr ?_; (case hd => rfl); (case hg => rfl); (case hr => first | (go_simp; done) | (go_simp; rfl)); intro gb135 hg w14 hbox hb; have BK135 := qA0.mk (hbox); have GW135 := zg w gb135; have GE135 := zg w gb135; replace HB := qA0.mk (qA1 zb hb); clear hb hbox hg; obtain ⟨hcz15_0, hcz15_1, hcz15_2, hcz15_3, hcz15_4, hfz15_0, hfz15_1, hfz15_2, hfz15_3, hfz15_4⟩ := bc5 BK135.out) | (go_at_call 44; (with_reducible refine (qCM.calls a0_0 true _ A2.out).mono ?_); rintro e w16 ⟨rfl, hb⟩; replace BK135 := qA0.mk (qA5 (zk BK135) hb); replace HB := qA0.mk (qA1 zb hb); (try clear hb); (try clear hb2); (try clear hk); (try clear hi); obtain ⟨hcz17_0, hcz17_1, hcz17_2, hcz17_3, hcz17_4, hfz17_0, hfz17_1, hfz17_2, hfz17_3, hfz17_4⟩ := bc5 BK135.out) | (go_at_call 45; (with_reducible refine (qD5.calls a0_0 a0_1 a0_2 a0_3 _ _ l0_4 true _ ?side1 ?side2 A4.out).mono ?_); (case side1 => repeat (first | exact (Kd.qAQ HR0_4.out HB.out) | refine sC ?_)); (case side2 => exact HC0_4.out); rintro e w18 ⟨rfl, hb⟩; replace BK135 := qA0.mk (qA5 (zk BK135) hb); replace HB := qA0.mk (qA1 zb hb); (try clear hb); (try clear hb2); (try clear hk); (try clear hi); obtain ⟨hcz19_0, hcz19_1, hcz19_2, hcz19_3, hcz19_4, hfz19_0, hfz19_1, hfz19_2, hfz19_3, hfz19_4⟩ := bc5 BK135.out))
     go_ret
     exact ⟨zf, zb⟩
    ·rw [if_neg c13] at H
     have c13b0 := decide_eq_false c13
     have c13b1 : decide (20 < l0_4.length) = false := decide_eq_false (by omega)
     clear c13
     replace H := Option.bind_eq_some_iff.mp H
     obtain ⟨⟨t138, t139⟩, A200, H⟩ := H
     replace H : ((qCG.f a0_2).bind fun bt140 => (if a0_3 = true then (qAZ.j0 k t138 t139 0 1000000 a0_0 a0_1 a0_2 a0_3 l0_4) else (qAZ.j0 k t138 t139 bt140.1 bt140.2 a0_0 a0_1 a0_2 a0_3 l0_4))) = some r := H
     have A20 := qA0.mk A200
     clear A200
     replace H := Option.bind_eq_some_iff.mp H
     obtain ⟨⟨t140, t141⟩, A210, H⟩ := H
     replace H : (if a0_3 = true then (qAZ.j0 k t138 t139 0 1000000 a0_0 a0_1 a0_2 a0_3 l0_4) else (qAZ.j0 k t138 t139 t140 t141 a0_0 a0_1 a0_2 a0_3 l0_4)) = some r := H
     have A21 := qA0.mk A210
     clear A210
     have HC22 := qA0.mk H
     clear H
     go_enter Try.func26, Try.ntmps26
     go_upto_if 41 with (first | ((with_reducible refine qAC (N := 1) rfl ?_); refine qAD ?hg (N := 1) ?hd (cs := #[.string a0_0, .int .i64 a0_1, .int .i64 a0_2, .bool a0_3, .slice A0_4 l0_4.length c0_4]) (t := 69) ?hr ?_; (case hd => rfl); (case hg => rfl); (case hr => first | (go_simp; done) | (go_simp; rfl)); intro gb135 hg w23 hbox hb; have BK135 := qA0.mk (hbox); have GW135 := zg w gb135; have GE135 := zg w gb135; replace HB := qA0.mk (qA1 zb hb); clear hb hbox hg; obtain ⟨hcz24_0, hcz24_1, hcz24_2, hcz24_3, hcz24_4, hfz24_0, hfz24_1, hfz24_2, hfz24_3, hfz24_4⟩ := bc5 BK135.out) | (go_at_call 44; (with_reducible refine (qCM.calls a0_0 true _ A2.out).mono ?_); rintro e w25 ⟨rfl, hb⟩; replace BK135 := qA0.mk (qA5 (zk BK135) hb); replace HB := qA0.mk (qA1 zb hb); (try clear hb); (try clear hb2); (try clear hk); (try clear hi); obtain ⟨hcz26_0, hcz26_1, hcz26_2, hcz26_3, hcz26_4, hfz26_0, hfz26_1, hfz26_2, hfz26_3, hfz26_4⟩ := bc5 BK135.out) | (go_at_call 45; (with_reducible refine (qD5.calls a0_0 a0_1 a0_2 a0_3 _ _ l0_4 true _ ?side1 ?side2 A4.out).mono ?_); (case side1 => repeat (first | exact (Kd.qAQ HR0_4.out HB.out) | refine sC ?_)); (case side2 => exact HC0_4.out); rintro e w27 ⟨rfl, hb⟩; replace BK135 := qA0.mk (qA5 (zk BK135) hb); replace HB := qA0.mk (qA1 zb hb); (try clear hb); (try clear hb2); (try clear hk); (try clear hi); obtain ⟨hcz28_0, hcz28_1, hcz28_2, hcz28_3, hcz28_4, hfz28_0, hfz28_1, hfz28_2, hfz28_3, hfz28_4⟩ := bc5 BK135.out) | (go_at_call 46; (with_reducible refine (qCG.calls a0_1 t138 t139 _ A20.out).mono ?_); rintro e w' ⟨rfl, ⟨nd, rfl⟩⟩; (try first | exact ⟨rfl, _, World.drewN_drewN _ _ _⟩ | exact ⟨rfl, _, Eq.trans (World.drewN_drewN _ _ _) (congrArg (World.drewN _) (Nat.add_assoc _ _ _))⟩)) | (go_at_call 46; (with_reducible refine (qCG.calls a0_2 t140 t141 _ A21.out).mono ?_); rintro e w' ⟨rfl, ⟨nd, rfl⟩⟩; (try first | exact ⟨rfl, _, World.drewN_drewN _ _ _⟩ | exact ⟨rfl, _, Eq.trans (World.drewN_drewN _ _ _) (congrArg (World.drewN _) (Nat.add_assoc _ _ _))⟩)))
     go_cut [5, 6] (fun v5 v6 wc => ∃ (kq : Nat) (x5_21 : Int) (x6_21 : Int), v5 = .int .i64 x5_21 ∧ v6 = .int .i64 x6_21 ∧ qA0 (qAZ.j0 kq t138 t139 x5_21 x6_21 a0_0 a0_1 a0_2 a0_3 l0_4 = some r) ∧ qA0 (kq ≤ k) ∧ qA0 (wc.heap[gb135]? = some (.cells #[.string a0_0, .int .i64 a0_1, .int .i64 a0_2, .bool a0_3, (.slice A0_4 l0_4.length c0_4)] 69 (0, 0))) ∧ qA0 (Below w.heap.size w wc))
     case first =>
      have H := HC22.out
      clear HC22
      by_cases c29 : a0_3 = true
      ·subst c29
       rw [if_pos rfl] at H
       have H' := qA0.mk H
       clear H
       go_wp2
       go_meet
       case rel => exact ⟨_, (0), (1000000), zs, zs, H', ⟨by first | omega | exact Nat.le_refl _⟩, ⟨zk BK135⟩, ⟨zb⟩⟩
      ·replace c29 := Bool.eq_false_iff.mpr c29
       subst c29
       rw [if_neg (show ¬ (false = true) by decide)] at H
       have H' := qA0.mk H
       clear H
       go_wp2
       go_meet
       case rel => exact ⟨_, (t140), (t141), zs, zs, H', ⟨by first | omega | exact Nat.le_refl _⟩, ⟨zk BK135⟩, ⟨zb⟩⟩
     case rest =>
      clear HC22 c6 c6b0 c6b1 c6b2 c13b0 c13b1 hcz24_0 hcz24_1 hcz24_2 hcz24_3 hcz24_4 hcz26_0 hcz26_1 hcz26_2 hcz26_3 hcz26_4 hcz28_0 hcz28_1 hcz28_2 hcz28_3 hcz28_4 hfz24_0 hfz24_1 hfz24_2 hfz24_3 hfz24_4 hfz26_0 hfz26_1 hfz26_2 hfz26_3 hfz26_4 hfz28_0 hfz28_1 hfz28_2 hfz28_3 hfz28_4
      obtain ⟨kq, x5_21, x6_21, rfl, rfl, HA, HJ21, BK135, HB⟩ := hcut
      cases kq with
      | zero => exact absurd HA.out (by simp [qAZ.j0])
      | succ kj21 =>
       have H := HA.out
       clear HA
       simp only [qAZ.j0] at H
       have H' := qA0.mk H
       clear H
       obtain ⟨hcz30_0, hcz30_1, hcz30_2, hcz30_3, hcz30_4, hfz30_0, hfz30_1, hfz30_2, hfz30_3, hfz30_4⟩ := bc5 BK135.out
       go_wp2
       go_loopg [45] kj21 (fun kq v45 w' => ∃ (x45_2 : Int), v45 = .int .i64 x45_2 ∧ qA0 (qAZ.l0 kq t138 t139 x5_21 x6_21 l0_4 (l0_4.length : Int) x45_2 a0_0 a0_1 a0_2 a0_3 l0_4 = some r) ∧ qA0 (kq ≤ kj21) ∧ qA0 (w'.heap[gb135]? = some (.cells #[.string a0_0, .int .i64 a0_1, .int .i64 a0_2, .bool a0_3, (.slice A0_4 l0_4.length c0_4)] 69 (0, 0))) ∧ qA0 (Below w.heap.size w w'))
       case atStart => exact ⟨(0), zs, H', ⟨Nat.le_refl _⟩, ⟨zk BK135⟩, ⟨zb⟩⟩
       case round =>
        clear H' hcz30_0 hcz30_1 hcz30_2 hcz30_3 hcz30_4 hfz30_0 hfz30_1 hfz30_2 hfz30_3 hfz30_4
        obtain ⟨x45_2, rfl, HA, HK2, BK135, HB⟩ := hrel
        cases gk with
        | zero => exact absurd HA.out (by simp [qAZ.l0])
        | succ k2 =>
         have H := HA.out
         clear HA
         simp only [qAZ.l0] at H
         by_cases c31 : x45_2 < (l0_4.length : Int)
         ·rw [if_pos c31] at H
          have c31b0 := decide_eq_true c31
          clear c31
          by_cases c32 : 0 ≤ x45_2
          ·rw [if_pos c32] at H
           have c32b0 := decide_eq_true c32
           clear c32
           by_cases c33 : x45_2 < (l0_4.length : Int)
           ·rw [if_pos c33] at H
            have c33b0 := decide_eq_true c33
            clear c33
            have HC34 := qA0.mk H
            clear H
            have p142 : 0 ≤ (x45_2 : Int) := zd
            have q142 : x45_2 < (l0_4.length : Int) := zd
            obtain ⟨ad142, e142, hx142_0, hx142_1⟩ := at_T76 HR0_4.out x45_2 p142 q142
            cases e142
            (try replace hx142_0 := zh hx142_0)
            replace hx142_1 := zh hx142_1
            replace p142 := eq_true p142
            replace q142 := eq_true q142
            go_upto_region 16 with (((with_reducible refine qAC (N := 8) rfl ?_); refine qAD ?hg (N := 8) ?hd (cs := #[.int .i64 0, .int .i64 0]) (t := 76) ?hr ?_; (case hd => rfl); (case hg => rfl); (case hr => first | (go_simp; done) | (go_simp; rfl)); intro gb143 hg w35 hbox hb; have BK143 := qA0.mk (hbox); have GW143 := zg w gb143; have GE143 := zg w gb143; have NB135_143 := zl BK135 gb143; have NB143_135 := zu BK135 gb143; replace BK135 := qA0.mk (qA5 (zk BK135) hb); replace HB := qA0.mk (qA1 zb hb); clear hb hbox hg; have hnb36 := NB143_135.out; have hnc36 := NB135_143.out; obtain ⟨hcz37_0, hcz37_1, hfz37_0, hfz37_1⟩ := bc2 BK143.out))
            go_cut [50] (fun v50 wc => ∃ (kq : Nat) (x50_33 : Bool), v50 = .bool x50_33 ∧ qA0 (qAZ.j2 kq t138 t139 x5_21 x6_21 x45_2 l0_4 (l0_4.length : Int) x45_2 x50_33 a0_0 a0_1 a0_2 a0_3 l0_4 ((qCK l0_4 x45_2).f0) ((qCK l0_4 x45_2).f1) = some r) ∧ qA0 (kq ≤ k2) ∧ qA0 (wc.heap[gb135]? = some (.cells #[.string a0_0, .int .i64 a0_1, .int .i64 a0_2, .bool a0_3, (.slice (some ad142) l0_4.length c0_4)] 69 (0, 0))) ∧ qA0 (wc.heap[gb143]? = some (.cells #[.int .i64 ((qCK l0_4 x45_2).f0), .int .i64 ((qCK l0_4 x45_2).f1)] 76 (0, 0))) ∧ qA0 (Below w.heap.size w wc))
            case first =>
             have H := HC34.out
             clear HC34
             by_cases c38 : ((qCK l0_4 x45_2).f0) < t138
             ·rw [if_pos c38] at H
              have c38b0 := decide_eq_true c38
              clear c38
              (first | rw [c38b0] | (simp only [qCE, qCJ]; rw [c38b0]) | skip)
              have H' := qA0.mk H
              clear H
              have hnb39 := NB143_135.out
              have hnc39 := NB135_143.out
              obtain ⟨hcz40_0, hcz40_1, hfz40_0, hfz40_1⟩ := bc2 BK143.out
              go_wp2
              go_meet
              case rel => exact ⟨_, (true), zs, H', ⟨by have := HJ21.out; have := HK2.out; first | omega | exact Nat.le_refl _⟩, ⟨by refine zf_ ?_ NB135_143; refine zf_ ?_ NB135_143; (with_reducible repeat refine st ?_); exact BK135.out⟩, ⟨by refine zp_ (cs := #[.int .i64 ((qCK l0_4 x45_2).f0), .int .i64 0]) ?_ 1; refine zp_ (cs := #[.int .i64 0, .int .i64 0]) ?_ 0; (with_reducible repeat refine st ?_); exact BK143.out⟩, ⟨zb⟩⟩
             ·rw [if_neg c38] at H
              have c38b0 := decide_eq_false c38
              clear c38
              (first | rw [c38b0] | (simp only [qCE, qCJ]; rw [c38b0]) | skip)
              by_cases c41 : ((qCK l0_4 x45_2).f0) > t139
              ·rw [if_pos c41] at H
               have c41b0 := decide_eq_true c41
               clear c41
               have H' := qA0.mk H
               clear H
               have hnb42 := NB143_135.out
               have hnc42 := NB135_143.out
               obtain ⟨hcz43_0, hcz43_1, hfz43_0, hfz43_1⟩ := bc2 BK143.out
               go_wp2
               go_meet
               case rel => exact ⟨_, (true), zs, H', ⟨by have := HJ21.out; have := HK2.out; first | omega | exact Nat.le_refl _⟩, ⟨by refine zf_ ?_ NB135_143; refine zf_ ?_ NB135_143; (with_reducible repeat refine st ?_); exact BK135.out⟩, ⟨by refine zp_ (cs := #[.int .i64 ((qCK l0_4 x45_2).f0), .int .i64 0]) ?_ 1; refine zp_ (cs := #[.int .i64 0, .int .i64 0]) ?_ 0; (with_reducible repeat refine st ?_); exact BK143.out⟩, ⟨zb⟩⟩
              ·rw [if_neg c41] at H
               have c41b0 := decide_eq_false c41
               clear c41
               by_cases c44 : ((qCK l0_4 x45_2).f1) < x5_21
               ·rw [if_pos c44] at H
                have c44b0 := decide_eq_true c44
                clear c44
                have H' := qA0.mk H
                clear H
                have hnb45 := NB143_135.out
                have hnc45 := NB135_143.out
                obtain ⟨hcz46_0, hcz46_1, hfz46_0, hfz46_1⟩ := bc2 BK143.out
                go_wp2
                go_meet
                case rel => exact ⟨_, (true), zs, H', ⟨by have := HJ21.out; have := HK2.out; first | omega | exact Nat.le_refl _⟩, ⟨by refine zf_ ?_ NB135_143; refine zf_ ?_ NB135_143; (with_reducible repeat refine st ?_); exact BK135.out⟩, ⟨by refine zp_ (cs := #[.int .i64 ((qCK l0_4 x45_2).f0), .int .i64 0]) ?_ 1; refine zp_ (cs := #[.int .i64 0, .int .i64 0]) ?_ 0; (with_reducible repeat refine st ?_); exact BK143.out⟩, ⟨zb⟩⟩
               ·rw [if_neg c44] at H
                have c44b0 := decide_eq_false c44
                clear c44
                have H' := qA0.mk H
                clear H
                have hnb47 := NB143_135.out
                have hnc47 := NB135_143.out
                obtain ⟨hcz48_0, hcz48_1, hfz48_0, hfz48_1⟩ := bc2 BK143.out
                go_wp2
                go_meet
                case rel => exact ⟨_, (decide (((qCK l0_4 x45_2).f1) > x6_21)), zs, H', ⟨by have := HJ21.out; have := HK2.out; first | omega | exact Nat.le_refl _⟩, ⟨by refine zf_ ?_ NB135_143; refine zf_ ?_ NB135_143; (with_reducible repeat refine st ?_); exact BK135.out⟩, ⟨by refine zp_ (cs := #[.int .i64 ((qCK l0_4 x45_2).f0), .int .i64 0]) ?_ 1; refine zp_ (cs := #[.int .i64 0, .int .i64 0]) ?_ 0; (with_reducible repeat refine st ?_); exact BK143.out⟩, ⟨zb⟩⟩
            case rest =>
             clear HC34 c31b0 c32b0 c33b0 hcz37_0 hcz37_1 hfz37_0 hfz37_1 hx142_0 hx142_1 p142 q142
             obtain ⟨kq, x50_33, rfl, HA, HJ33, BK135, BK143, HB⟩ := hcut
             cases kq with
             | zero => exact absurd HA.out (by simp [qAZ.j2])
             | succ kj33 =>
              have H := HA.out
              clear HA
              simp only [qAZ.j2] at H
              by_cases c49 : x50_33 = true
              ·subst c49
               rw [if_pos rfl] at H
               obtain rfl := Option.some.inj H
               go_wp2
               go_ret
               exact ⟨zf, zb⟩
              ·replace c49 := Bool.eq_false_iff.mpr c49
               subst c49
               rw [if_neg (show ¬ (false = true) by decide)] at H
               by_cases c50 : x45_2 > 0
               ·rw [if_pos c50] at H
                have c50b0 := decide_eq_true c50
                clear c50
                obtain ⟨ji51, hji51⟩ : ∃ j_ : Int, (wrap64 (x45_2 - 1)) = j_ := ⟨_, rfl⟩
                replace H : (if 0 ≤ (ji51) then (if (ji51) < (l0_4.length : Int) then (if ((qCK l0_4 x45_2).f0) ≤ ((qCK l0_4 (ji51)).f0) then (some 9) else (qAZ.l0 kj33 t138 t139 x5_21 x6_21 l0_4 (l0_4.length : Int) (wrap64 (x45_2 + 1)) a0_0 a0_1 a0_2 a0_3 l0_4)) else (none)) else (none)) = some r := by first | (rw [hji51] at H; exact H) | (simp only [hji51] at H ⊢; exact H)
                have hji51w : (IntKind.i64.wrap (x45_2 - 1)) = ji51 := (qCE _).trans hji51
                by_cases c52 : 0 ≤ (ji51)
                ·rw [if_pos c52] at H
                 have c52b0 := decide_eq_true c52
                 clear c52
                 by_cases c53 : (ji51) < (l0_4.length : Int)
                 ·rw [if_pos c53] at H
                  have c53b0 := decide_eq_true c53
                  clear c53
                  by_cases c54 : ((qCK l0_4 x45_2).f0) ≤ ((qCK l0_4 (ji51)).f0)
                  ·rw [if_pos c54] at H
                   have c54b0 := decide_eq_true c54
                   clear c54
                   obtain rfl := Option.some.inj H
                   have hnb55 := NB143_135.out
                   have hnc55 := NB135_143.out
                   obtain ⟨hcz56_0, hcz56_1, hfz56_0, hfz56_1⟩ := bc2 BK143.out
                   obtain ⟨hcz57_0, hcz57_1, hcz57_2, hcz57_3, hcz57_4, hfz57_0, hfz57_1, hfz57_2, hfz57_3, hfz57_4⟩ := bc5 BK135.out
                   have p144 : 0 ≤ ((ji51) : Int) := zd
                   have q144 : (ji51) < (l0_4.length : Int) := zd
                   obtain ⟨ad144, e144, hx144_0, hx144_1⟩ := at_T76 HR0_4.out (ji51) p144 q144
                   obtain rfl : ad142 = ad144 := (by injection e144)
                   (try replace hx144_0 := zh hx144_0)
                   replace hx144_1 := zh hx144_1
                   replace p144 := eq_true p144
                   replace q144 := eq_true q144
                   go_wp2
                   repeat (go_quiet (fail); try go_wp2)
                   go_ret
                   exact ⟨by first | rfl | (simp [qBU, qBT] <;> rfl) | (simp only [← hji51]; first | rfl | (simp [qBU, qBT] <;> rfl)) | (simp [*, qBU, qBT] <;> rfl), zb⟩
                  ·rw [if_neg c54] at H
                   have c54b0 := decide_eq_false c54
                   clear c54
                   have H' := qA0.mk H
                   clear H
                   have hnb58 := NB143_135.out
                   have hnc58 := NB135_143.out
                   obtain ⟨hcz59_0, hcz59_1, hfz59_0, hfz59_1⟩ := bc2 BK143.out
                   obtain ⟨hcz60_0, hcz60_1, hcz60_2, hcz60_3, hcz60_4, hfz60_0, hfz60_1, hfz60_2, hfz60_3, hfz60_4⟩ := bc5 BK135.out
                   have p144 : 0 ≤ ((ji51) : Int) := zd
                   have q144 : (ji51) < (l0_4.length : Int) := zd
                   obtain ⟨ad144, e144, hx144_0, hx144_1⟩ := at_T76 HR0_4.out (ji51) p144 q144
                   obtain rfl : ad142 = ad144 := (by injection e144)
                   (try replace hx144_0 := zh hx144_0)
                   replace hx144_1 := zh hx144_1
                   replace p144 := eq_true p144
                   replace q144 := eq_true q144
                   go_wp2
                   repeat (go_quiet (fail); try go_wp2)
                   go_roundg kj33
                   case measure => have := HJ21.out; have := HK2.out; have := HJ33.out; omega
                   case rel => exact ⟨(wrap64 (x45_2 + 1)), zs, H', ⟨by have := HJ21.out; have := HK2.out; have := HJ33.out; omega⟩, ⟨zk BK135⟩, ⟨zb⟩⟩
                 ·rw [if_neg c53] at H
                  exact absurd H (by simp)
                ·rw [if_neg c52] at H
                 exact absurd H (by simp)
               ·rw [if_neg c50] at H
                have c50b0 := decide_eq_false c50
                clear c50
                have H' := qA0.mk H
                clear H
                go_wp2
                repeat (go_quiet (fail); try go_wp2)
                go_roundg kj33
                case measure => have := HJ21.out; have := HK2.out; have := HJ33.out; omega
                case rel => exact ⟨(wrap64 (x45_2 + 1)), zs, H', ⟨by have := HJ21.out; have := HK2.out; have := HJ33.out; omega⟩, ⟨zk BK135⟩, ⟨zb⟩⟩
           ·rw [if_neg c33] at H
            exact absurd H (by simp)
          ·rw [if_neg c32] at H
           exact absurd H (by simp)
         ·rw [if_neg c31] at H
          have c31b0 := decide_eq_false c31
          clear c31
          obtain rfl := Option.some.inj H
          go_wp2
          go_ret
          exact ⟨zf, zb⟩
  ·replace c5 := Bool.eq_false_iff.mpr c5
   subst c5
   rw [if_neg (show ¬ (false = true) by decide)] at H
   obtain rfl := Option.some.inj H
   go_enter Try.func26, Try.ntmps26
   go_wp2_with (first | ((with_reducible refine qAC (N := 1) rfl ?_); refine qAD ?hg (N := 1) ?hd (cs := #[.string a0_0, .int .i64 a0_1, .int .i64 a0_2, .bool a0_3, .slice A0_4 l0_4.length c0_4]) (t := 69) ?hr ?_; (case hd => rfl); (case hg => rfl); (case hr => first | (go_simp; done) | (go_simp; rfl)); intro gb135 hg w61 hbox hb; have BK135 := qA0.mk (hbox); have GW135 := zg w gb135; have GE135 := zg w gb135; replace HB := qA0.mk (qA1 zb hb); clear hb hbox hg; obtain ⟨hcz62_0, hcz62_1, hcz62_2, hcz62_3, hcz62_4, hfz62_0, hfz62_1, hfz62_2, hfz62_3, hfz62_4⟩ := bc5 BK135.out) | (go_at_call 44; (with_reducible refine (qCM.calls a0_0 true _ A2.out).mono ?_); rintro e w63 ⟨rfl, hb⟩; replace BK135 := qA0.mk (qA5 (zk BK135) hb); replace HB := qA0.mk (qA1 zb hb); (try clear hb); (try clear hb2); (try clear hk); (try clear hi); obtain ⟨hcz64_0, hcz64_1, hcz64_2, hcz64_3, hcz64_4, hfz64_0, hfz64_1, hfz64_2, hfz64_3, hfz64_4⟩ := bc5 BK135.out) | (go_at_call 45; (with_reducible refine (qD5.calls a0_0 a0_1 a0_2 a0_3 _ _ l0_4 false _ ?side1 ?side2 A4.out).mono ?_); (case side1 => repeat (first | exact (Kd.qAQ HR0_4.out HB.out) | refine sC ?_)); (case side2 => exact HC0_4.out); rintro e w65 ⟨rfl, hb⟩; replace BK135 := qA0.mk (qA5 (zk BK135) hb); replace HB := qA0.mk (qA1 zb hb); (try clear hb); (try clear hb2); (try clear hk); (try clear hi)))
   go_ret
   exact ⟨zf, zb⟩
 ·replace c3 := Bool.eq_false_iff.mpr c3
  subst c3
  rw [if_neg (show ¬ (false = true) by decide)] at H
  obtain rfl := Option.some.inj H
  go_enter Try.func26, Try.ntmps26
  go_wp2_with (first | ((with_reducible refine qAC (N := 1) rfl ?_); refine qAD ?hg (N := 1) ?hd (cs := #[.string a0_0, .int .i64 a0_1, .int .i64 a0_2, .bool a0_3, .slice A0_4 l0_4.length c0_4]) (t := 69) ?hr ?_; (case hd => rfl); (case hg => rfl); (case hr => first | (go_simp; done) | (go_simp; rfl)); intro gb135 hg w66 hbox hb; have BK135 := qA0.mk (hbox); have GW135 := zg w gb135; have GE135 := zg w gb135; replace HB := qA0.mk (qA1 zb hb); clear hb hbox hg; obtain ⟨hcz67_0, hcz67_1, hcz67_2, hcz67_3, hcz67_4, hfz67_0, hfz67_1, hfz67_2, hfz67_3, hfz67_4⟩ := bc5 BK135.out) | (go_at_call 44; (with_reducible refine (qCM.calls a0_0 false _ A2.out).mono ?_); rintro e w68 ⟨rfl, hb⟩; replace BK135 := qA0.mk (qA5 (zk BK135) hb); replace HB := qA0.mk (qA1 zb hb); (try clear hb); (try clear hb2); (try clear hk); (try clear hi)))
  go_ret
  exact ⟨zf, zb⟩
end
end Go.Proofs.Ytnliaialemfcaaa.PRateFinds
end
section
namespace Go.Proofs.Ytnliaialemfcaaa.PRateFinds
noncomputable section
open Go.RowKit Go.Proofs.YtnliaialemfcaaaW.PrintWords Go.Proofs.YtnliaialemfcaaaW.PrintLast Go.Proofs.YtnliaialemfcaaaW.PrintMore
def attrF (x : S83) : Option Int := qBQ.f 10 x.f0 x.f1 x.f2 x.f3 x.f4 x.f5.f0 x.f5.f1
def tableF (t : S69) : Option Int := qAZ.f 50 t.f0 t.f1 t.f2 t.f3 t.f4
def qE1 {α : Type} (nm : α → ByteArray) (ck : α → Option Int) : List α → List ByteArray → Option (Int × List ByteArray)
 | [], L => some (0, L)
 | x :: xs, L => if L.length < 1000000 then (if addR L (nm x) ≠ 0 then some (addR L (nm x), L) else (ck x).bind fun e => if e ≠ 0 then some (e, L) else qE1 nm ck xs (nm x :: L)) else none
def qBK.k2 (a : S48) (next : List ByteArray → Option Int) (q : Int × List ByteArray) : Option Int := if q.1 ≠ 0 then some q.1 else next q.2
def qBK.k1 (a : S48) (B : List ByteArray) (next : List ByteArray → List ByteArray → Option Int) (p : Int × List ByteArray) : Option Int := if p.1 ≠ 0 then some p.1 else (qE1 (fun t : S69 => t.f0) tableF a.f4 B).bind (qBK.k2 a (next p.2))
def qBK.go : List S48 → List ByteArray → List ByteArray → List ByteArray → Option Int
 | [], _, _, _ => some 0
 | a :: r, A, T, B => if A.length < 1000000 then (if addR A a.f0 ≠ 0 then some (addR A a.f0) else if a.f1 < 0 ∨ 9 < a.f1 ∨ a.f2 < 0 ∨ 1048575 < a.f2 then some 1 else (qE1 (fun x : S83 => x.f0) attrF a.f3 T).bind (qBK.k1 a B fun T' B' => qBK.go r (a.f0 :: A) T' B')) else none
def qBK.f (l0 : List S48) : Option Int := qBK.go l0 [] [] []
structure PInv (w W : World) (A T B : List ByteArray) : Prop where
 hB : Below w.heap.size w W
 hA : Names W w.heap.size A
 hT : Names W (w.heap.size + 1) T
 hN : Names W (w.heap.size + 1 + 1) B
theorem PInv.below {w W W' : World} {A T B : List ByteArray} (h : PInv w W A T B) (hb : Below W.heap.size W W') : PInv w W' A T B := ⟨qA1 h.hB hb, h.hA.below hb, h.hT.below hb, h.hN.below hb⟩
theorem PInv.putA {w W W' : World} {A T B A' : List ByteArray} (h : PInv w W A T B) (hg : W.grownBy W' (some w.heap.size)) (hn : Names W' w.heap.size A') : PInv w W' A' T B :=
 ⟨qBN h.hB (some w.heap.size) h.hB.size hg (fun k e => by obtain rfl := Option.some.inj e; exact Nat.le_refl _), hn, h.hT.kept hg (by simp), h.hN.kept hg (by simp; omega)⟩
theorem PInv.putT {w W W' : World} {A T B T' : List ByteArray} (h : PInv w W A T B) (hg : W.grownBy W' (some (w.heap.size + 1))) (hn : Names W' (w.heap.size + 1) T') : PInv w W' A T' B :=
 ⟨qBN h.hB (some (w.heap.size + 1)) h.hB.size hg (fun k e => by obtain rfl := Option.some.inj e; omega), h.hA.kept hg (by simp), hn, h.hN.kept hg (by simp)⟩
theorem PInv.putB {w W W' : World} {A T B B' : List ByteArray} (h : PInv w W A T B) (hg : W.grownBy W' (some (w.heap.size + 1 + 1))) (hn : Names W' (w.heap.size + 1 + 1) B') : PInv w W' A T B' :=
 ⟨qBN h.hB (some (w.heap.size + 1 + 1)) h.hB.size hg (fun k e => by obtain rfl := Option.some.inj e; omega), h.hA.kept hg (by simp; omega), h.hT.kept hg (by simp), hn⟩
set_option maxRecDepth 100000 in
set_option maxHeartbeats 4000000 in
theorem qBK.calls (A0 : Option Addr) (c0 : Nat) (l0 : List (S48)) (r : Int) (w : World) (hr0 : Kd.C k48 w A0 l0.length l0) (hc0 : l0.length ≤ c0) (h : qBK.f l0 = some r) :
  Calls Try.prog 12 #[.slice A0 l0.length c0] w fun e w' => e = .returned (.int .i64 r) ∧ Below w.heap.size w w' := by
 have HR := qA0.mk hr0
 have HC := qA0.mk hc0
 have H0 := qA0.mk h
 have hm : l0.length ≤ 9223372036854775807 := Kd.qEI hr0
 clear hr0 hc0 h
 generalize hW0 : ((w.alloc (.map #[] 0)).alloc (.map #[] 0)).alloc (.map #[] 0) = W0
 have HP0 : PInv w W0 [] [] [] := by
  rw [← hW0]
  have b1 : Below w.heap.size w (w.alloc (.map #[] 0)) := qAG (Below.refl _ _) _
  have b2 : Below (w.alloc (.map #[] 0)).heap.size (w.alloc (.map #[] 0)) ((w.alloc (.map #[] 0)).alloc (.map #[] 0)) := qAG (Below.refl _ _) _
  have b3 : Below ((w.alloc (.map #[] 0)).alloc (.map #[] 0)).heap.size ((w.alloc (.map #[] 0)).alloc (.map #[] 0)) (((w.alloc (.map #[] 0)).alloc (.map #[] 0)).alloc (.map #[] 0)) := qAG (Below.refl _ _) _
  have n2 := Names.made (w.alloc (.map #[] 0))
  have n3 := Names.made ((w.alloc (.map #[] 0)).alloc (.map #[] 0))
  rw [show (w.alloc (.map #[] 0)).heap.size = w.heap.size + 1 from by simp] at n2
  rw [show ((w.alloc (.map #[] 0)).alloc (.map #[] 0)).heap.size = w.heap.size + 1 + 1 from by simp] at n3
  exact ⟨qA1 (qA1 b1 b2) b3, ((Names.made w).below b2).below b3, n2.below b3, n3⟩
 have HW0 := qA0.mk hW0
 have HP := qA0.mk HP0
 clear hW0 HP0
 have hmm := @run_makeMap Try.prog
 go_enter Try.func12, Try.ntmps12
 go_wp2_with fail
 rw [HW0.out]
 clear HW0
 go_loopw [22] (fun v22 wr => ∃ (i : Nat) (A T B : List ByteArray), i ≤ l0.length ∧ v22 = .int .i64 (i : Int) ∧ qA0 (qBK.go (l0.drop i) A T B = some r) ∧ qA0 (PInv w wr A T B)) (fun v22 _ => l0.length - (RowKit.intOf v22).toNat)
 case atStart => exact ⟨0, [], [], [], by omega, rfl, ⟨by simpa [qBK.f] using H0.out⟩, HP⟩
 case round =>
  clear H0 HP
  obtain ⟨i, A, T, B, hi, rfl, HG, HP⟩ := hrel
  by_cases hlt : i < l0.length
  ·obtain ⟨ad, A3, c3, A4, c4, A5, c5, e0, hx0, hx1, hx2, hx3, hx4, hx5, hl3, hi3, hl4, hi4, hl5, hi5⟩ := qEM HR.out (i : Int) (by omega) (by omega)
   cases e0
   simp only [Int.toNat_natCast] at hx0 hx1 hx2 hx3 hx4 hx5
   have hB := HP.out.hB
   replace hx0 := (hB.cell (World.block_lt_of_cell? w _ hx0)).trans hx0
   replace hx1 := (hB.cell (World.block_lt_of_cell? w _ hx1)).trans hx1
   replace hx2 := (hB.cell (World.block_lt_of_cell? w _ hx2)).trans hx2
   replace hx3 := (hB.cell (World.block_lt_of_cell? w _ hx3)).trans hx3
   replace hx4 := (hB.cell (World.block_lt_of_cell? w _ hx4)).trans hx4
   replace hx5 := (hB.cell (World.block_lt_of_cell? w _ hx5)).trans hx5
   have hd : l0.drop i = qA3 l0 (i : Int) :: l0.drop (i + 1) := by rw [List.drop_eq_getElem_cons hlt]; simp [qA3, hlt]
   have hG := HG.out
   rw [hd] at hG
   generalize qA3 l0 (i : Int) = a at *
   simp only [qBK.go] at hG
   have HG' := qA0.mk hG
   have HI3 := qA0.mk (And.intro hl3 hi3)
   have HI4 := qA0.mk (And.intro hl4 hi4)
   have HI5 := qA0.mk (And.intro hl5 hi5)
   clear hG HG hd hl3 hi3 hl4 hi4 hl5 hi5 hB
   by_cases hal : A.length < 1000000
   case neg => have := HG'.out; rw [if_neg hal] at this; cases this
   have HG1 := qA0.mk (by have := HG'.out; rwa [if_pos hal] at this)
   have hs := Gen.qDZ hlt hm
   clear HG'
   obtain ⟨wo, rfl⟩ : ∃ wo : World, wo = wr := ⟨_, rfl⟩
   generalize hW1 : wo.alloc (.cells #[.string a.f0, .int .i64 a.f1, .int .i64 a.f2, .slice A3 a.f3.length c3, .slice A4 a.f4.length c4, .slice A5 a.f5.length c5] 48) = W1
   have hB1 : Below wo.heap.size wo W1 := by rw [← hW1]; exact qAG (Below.refl _ _) _
   have hK1 : W1.heap[wo.heap.size]? = some (.cells #[.string a.f0, .int .i64 a.f1, .int .i64 a.f2, .slice A3 a.f3.length c3, .slice A4 a.f4.length c4, .slice A5 a.f5.length c5] 48 (0, 0)) := by rw [← hW1]; exact heap_alloc_new _ _
   have HW1 := qA0.mk hW1
   have HP1 := qA0.mk (HP.out.below hB1)
   have HK1 := qA0.mk hK1
   have hpw : w.heap.size + 1 + 1 < wo.heap.size := HP.out.hN.lt
   clear hW1 hB1 hK1 HP
   go_wp2_with fail
   rw [HW1.out]
   refine (names_add.walk w.heap.size A a.f0 W1 HP1.out.hA (by simp only [maxLen]; omega)).mono ?_
   rintro e W2 ⟨rfl, hn, hg⟩
   have HK2 := qA0.mk (qAN HK1.out hg (by simp; omega))
   have HP2 := qA0.mk (HP1.out.putA hg hn)
   clear hn hg HK1 HP1 HW1 hx0 hx1 hx2 hx3 hx4 hx5
   generalize addR A a.f0 = e1 at *
   by_cases c1 : e1 = 0
   case neg =>
    have hr : r = e1 := by have := HG1.out; rw [if_pos c1] at this; exact (Option.some.inj this).symm
    subst hr
    have c1b : (r != 0) = true := bne_iff_ne.mpr c1
    clear c1
    go_wp2_with fail
    go_ret
    exact ⟨rfl, HP2.out.hB⟩
   subst c1
   have HG2 := qA0.mk (by have := HG1.out; rwa [if_neg (by simp)] at this)
   rw [if_pos rfl] at HP2
   clear HG1 hal
   have k0 := (qA4 HK2.out 0).trans rfl
   have k1 := (qA4 HK2.out 1).trans rfl
   have k2 := (qA4 HK2.out 2).trans rfl
   have k3 := (qA4 HK2.out 3).trans rfl
   by_cases d1 : a.f1 < 0
   ·have hr : r = 1 := by have := HG2.out; rw [if_pos (.inl d1)] at this; exact (Option.some.inj this).symm
    subst hr
    have d1b : decide (a.f1 < 0) = true := decide_eq_true d1
    clear d1
    go_wp2_with fail
    go_ret
    exact ⟨rfl, HP2.out.hB⟩
   have d1b : decide (a.f1 < 0) = false := decide_eq_false d1
   by_cases d2 : 9 < a.f1
   ·have hr : r = 1 := by have := HG2.out; rw [if_pos (.inr (.inl d2))] at this; exact (Option.some.inj this).symm
    subst hr
    have d2b : decide (9 < a.f1) = true := decide_eq_true d2
    clear d1 d2
    go_wp2_with fail
    go_ret
    exact ⟨rfl, HP2.out.hB⟩
   have d2b : decide (9 < a.f1) = false := decide_eq_false d2
   by_cases d3 : a.f2 < 0
   ·have hr : r = 1 := by have := HG2.out; rw [if_pos (.inr (.inr (.inl d3)))] at this; exact (Option.some.inj this).symm
    subst hr
    have d3b : decide (a.f2 < 0) = true := decide_eq_true d3
    clear d1 d2 d3
    go_wp2_with fail
    go_ret
    exact ⟨rfl, HP2.out.hB⟩
   have d3b : decide (a.f2 < 0) = false := decide_eq_false d3
   by_cases d4 : 1048575 < a.f2
   ·have hr : r = 1 := by have := HG2.out; rw [if_pos (.inr (.inr (.inr d4)))] at this; exact (Option.some.inj this).symm
    subst hr
    have d4b : decide (1048575 < a.f2) = true := decide_eq_true d4
    clear d1 d2 d3 d4
    go_wp2_with fail
    go_ret
    exact ⟨rfl, HP2.out.hB⟩
   have d4b : decide (1048575 < a.f2) = false := decide_eq_false d4
   have HG3 := qA0.mk (by have := HG2.out; rwa [if_neg (by omega)] at this)
   clear d1 d2 d3 d4 HG2
   have hm3 := Kd.qEI HI3.out.2
   have hm4 := Kd.qEI HI4.out.2
   have HS := qA0.mk hs
   clear hs
   go_wp2_with fail
   clear d1b d2b d3b d4b k0 k1 k2 k3
   go_loopw [54] (fun v54 wx => ∃ (j : Nat) (T' : List ByteArray), j ≤ a.f3.length ∧ v54 = .int .i64 (j : Int) ∧ qA0 ((qE1 (fun x : S83 => x.f0) attrF (a.f3.drop j) T').bind (qBK.k1 a B fun T' B' => qBK.go (l0.drop (i + 1)) (a.f0 :: A) T' B') = some r) ∧ qA0 (PInv w wx (a.f0 :: A) T' B) ∧ qA0 (wx.heap[wo.heap.size]? = some (.cells #[.string a.f0, .int .i64 a.f1, .int .i64 a.f2, .slice A3 a.f3.length c3, .slice A4 a.f4.length c4, .slice A5 a.f5.length c5] 48 (0, 0)))) (fun v54 _ => a.f3.length - (RowKit.intOf v54).toNat)
   case atStart => exact ⟨0, T, by omega, rfl, ⟨by simpa using HG3.out⟩, HP2, HK2⟩
   case round =>
    clear HG3 HP2 HK2
    obtain ⟨j, T', hj, rfl, HG4, HP4, HK4⟩ := hrel
    by_cases hjl : j < a.f3.length
    ·obtain ⟨ad3, e3, y0, y1, y2, y3, y4, y5, y6⟩ := at_T83 HI3.out.2 (j : Int) (by omega) (by omega)
     cases e3
     simp only [Int.toNat_natCast] at y0 y1 y2 y3 y4 y5 y6
     have hB := HP4.out.hB
     replace y0 := (hB.cell (World.block_lt_of_cell? w _ y0)).trans y0
     replace y1 := (hB.cell (World.block_lt_of_cell? w _ y1)).trans y1
     replace y2 := (hB.cell (World.block_lt_of_cell? w _ y2)).trans y2
     replace y3 := (hB.cell (World.block_lt_of_cell? w _ y3)).trans y3
     replace y4 := (hB.cell (World.block_lt_of_cell? w _ y4)).trans y4
     replace y5 := (hB.cell (World.block_lt_of_cell? w _ y5)).trans y5
     replace y6 := (hB.cell (World.block_lt_of_cell? w _ y6)).trans y6
     have hd : a.f3.drop j = qC6 a.f3 (j : Int) :: a.f3.drop (j + 1) := by rw [List.drop_eq_getElem_cons hjl]; simp [qC6, hjl]
     have hG := HG4.out
     rw [hd] at hG
     generalize qC6 a.f3 (j : Int) = x at hG y0 y1 y2 y3 y4 y5 y6
     simp only [qE1] at hG
     have hs := Gen.qDZ hjl hm3
     by_cases hal : T'.length < 1000000
     case neg => rw [if_neg hal] at hG; cases hG
     rw [if_pos hal] at hG
     have HG5 := qA0.mk hG
     clear hG HG4 hd hB
     obtain ⟨wi, rfl⟩ : ∃ wi : World, wi = wr := ⟨_, rfl⟩
     generalize hW5 : wi.alloc (.cells #[.string x.f0, .int .i64 x.f1, .bool x.f2, .int .i64 x.f3, .int .i64 x.f4, .int .i64 x.f5.f0, .int .i64 x.f5.f1] 83) = W5
     have hB5 : Below wi.heap.size wi W5 := by rw [← hW5]; exact qAG (Below.refl _ _) _
     have hK5 : W5.heap[wi.heap.size]? = some (.cells #[.string x.f0, .int .i64 x.f1, .bool x.f2, .int .i64 x.f3, .int .i64 x.f4, .int .i64 x.f5.f0, .int .i64 x.f5.f1] 83 (0, 0)) := by rw [← hW5]; exact heap_alloc_new _ _
     have HW5 := qA0.mk hW5
     have HP5 := qA0.mk (HP4.out.below hB5)
     have HK5 := qA0.mk hK5
     have HKo5 := qA0.mk (qAN HK4.out (qB4 hB5 none) (by simp))
     have hpi : w.heap.size + 1 + 1 < wi.heap.size := HP4.out.hN.lt
     have hpo : w.heap.size + 1 + 1 < wo.heap.size := hpw
     clear hW5 hB5 hK5 HP4 HK4
     go_wp2_with fail
     rw [HW5.out]
     refine (names_add.walk (w.heap.size + 1) T' x.f0 W5 HP5.out.hT (by simp only [maxLen]; omega)).mono ?_
     rintro e W6 ⟨rfl, hn, hg⟩
     have HK6 := qA0.mk (qAN HK5.out hg (by simp; omega))
     have HKo6 := qA0.mk (qAN HKo5.out hg (by simp; omega))
     have HP6 := qA0.mk (HP5.out.putT hg hn)
     clear hn hg HK5 HKo5 HP5 HW5 y0 y1 y2 y3 y4 y5 y6
     generalize addR T' x.f0 = e1 at *
     by_cases c1 : e1 = 0
     case neg =>
      have hr : r = e1 := by have := HG5.out; rw [if_pos c1, Option.bind_some] at this; simp only [qBK.k1] at this; rw [if_pos c1] at this; exact (Option.some.inj this).symm
      subst hr
      have c1b : (r != 0) = true := bne_iff_ne.mpr c1
      clear c1
      go_wp2_with fail
      go_ret
      exact ⟨rfl, HP6.out.hB⟩
     subst c1
     rw [if_pos rfl] at HP6
     have hG6 := HG5.out
     rw [if_neg (by simp)] at hG6
     obtain ⟨q, hq, hK⟩ := Option.bind_eq_some_iff.mp hG6
     obtain ⟨ee, he, hF⟩ := Option.bind_eq_some_iff.mp hq
     have HE := qA0.mk he
     have HF := qA0.mk (And.intro hF hK)
     clear hG6 hq he hF hK HG5 hal
     have k0 := (qA4 HK6.out 0).trans rfl
     have k1 := (qA4 HK6.out 1).trans rfl
     have k2 := (qA4 HK6.out 2).trans rfl
     have k3 := (qA4 HK6.out 3).trans rfl
     have k4 := (qA4 HK6.out 4).trans rfl
     have k5 := (qA4 HK6.out 5).trans rfl
     have k6 := (qA4 HK6.out 6).trans rfl
     go_wp2_with fail
     refine (qBQ.calls 10 x.f0 x.f1 x.f2 x.f3 x.f4 x.f5.f0 x.f5.f1 ee W6 HE.out).mono ?_
     rintro e W7 ⟨rfl, hb⟩
     have HP7 := qA0.mk (HP6.out.below hb)
     have HK7 := qA0.mk (qAN HKo6.out (qB4 hb none) (by simp))
     clear hb HP6 HK6 HKo6 k0 k1 k2 k3 k4 k5 k6
     by_cases c2 : ee = 0
     ·have c2b : (ee != 0) = false := bne_eq_false_iff_eq.mpr c2
      have HG8 := qA0.mk (by have := HF.out.1; rw [if_neg (by simpa using c2)] at this; exact Option.bind_eq_some_iff.mpr ⟨q, this, HF.out.2⟩)
      clear c2 HF
      go_wp2_with fail
      go_roundw
      case rel => exact ⟨j + 1, x.f0 :: T', by omega, by first | rfl | (simp; done) | rw [Int.natCast_add]; rfl, HG8, HP7, HK7⟩
      case measure => simp [RowKit.intOf]; omega
     ·have hr : r = ee := by
       have := HF.out.1
       rw [if_pos (by simpa using c2)] at this
       have h2 := HF.out.2
       rw [← Option.some.inj this] at h2
       simp only [qBK.k1] at h2
       rw [if_pos c2] at h2
       exact (Option.some.inj h2).symm
      subst hr
      have c2b : (r != 0) = true := bne_iff_ne.mpr c2
      clear c2
      go_wp2_with fail
      go_ret
      exact ⟨rfl, HP7.out.hB⟩
    ·obtain rfl : j = a.f3.length := by omega
     have HG5 := qA0.mk (by have := HG4.out; rw [List.drop_length] at this; simpa [qE1, qBK.k1] using this)
     clear HG4 hj
     have k4 := (qA4 HK4.out 4).trans rfl
     go_wp2_with fail
     clear k4
     go_loopw [74] (fun v74 wx => ∃ (j : Nat) (T'' : List ByteArray), j ≤ a.f4.length ∧ v74 = .int .i64 (j : Int) ∧ qA0 ((qE1 (fun t : S69 => t.f0) tableF (a.f4.drop j) T'').bind (qBK.k2 a ((fun T' B' => qBK.go (l0.drop (i + 1)) (a.f0 :: A) T' B') T')) = some r) ∧ qA0 (PInv w wx (a.f0 :: A) T' T'') ∧ qA0 (wx.heap[wo.heap.size]? = some (.cells #[.string a.f0, .int .i64 a.f1, .int .i64 a.f2, .slice A3 a.f3.length c3, .slice A4 a.f4.length c4, .slice A5 a.f5.length c5] 48 (0, 0)))) (fun v74 _ => a.f4.length - (RowKit.intOf v74).toNat)
     case atStart => exact ⟨0, B, by omega, rfl, ⟨by simpa using HG5.out⟩, HP4, HK4⟩
     case round =>
      clear HG5 HP4 HK4
      obtain ⟨T1, rfl⟩ : ∃ T1, T1 = T' := ⟨_, rfl⟩
      obtain ⟨j, T', hj, rfl, HG6, HP9, HK9⟩ := hrel
      by_cases hjl : j < a.f4.length
      ·obtain ⟨ad4, A44, c44, e4, y0, y1, y2, y3, y4, hl44, hi44⟩ := at_T69 HI4.out.2 (j : Int) (by omega) (by omega)
       cases e4
       simp only [Int.toNat_natCast] at y0 y1 y2 y3 y4
       have hB := HP9.out.hB
       replace y0 := (hB.cell (World.block_lt_of_cell? w _ y0)).trans y0
       replace y1 := (hB.cell (World.block_lt_of_cell? w _ y1)).trans y1
       replace y2 := (hB.cell (World.block_lt_of_cell? w _ y2)).trans y2
       replace y3 := (hB.cell (World.block_lt_of_cell? w _ y3)).trans y3
       replace y4 := (hB.cell (World.block_lt_of_cell? w _ y4)).trans y4
       have hd : a.f4.drop j = qAL a.f4 (j : Int) :: a.f4.drop (j + 1) := by rw [List.drop_eq_getElem_cons hjl]; simp [qAL, hjl]
       have hG := HG6.out
       rw [hd] at hG
       generalize qAL a.f4 (j : Int) = x at hG y0 y1 y2 y3 y4 hl44 hi44
       have HI44 := qA0.mk (And.intro hl44 hi44)
       clear hl44 hi44
       simp only [qE1] at hG
       have hs := Gen.qDZ hjl hm4
       by_cases hal : T'.length < 1000000
       case neg => rw [if_neg hal] at hG; cases hG
       rw [if_pos hal] at hG
       have HG7 := qA0.mk hG
       clear hG HG6 hd hB
       obtain ⟨wj, rfl⟩ : ∃ wj : World, wj = wr := ⟨_, rfl⟩
       generalize hW5 : wj.alloc (.cells #[.string x.f0, .int .i64 x.f1, .int .i64 x.f2, .bool x.f3, .slice A44 x.f4.length c44] 69) = W5
       have hB5 : Below wj.heap.size wj W5 := by rw [← hW5]; exact qAG (Below.refl _ _) _
       have hK5 : W5.heap[wj.heap.size]? = some (.cells #[.string x.f0, .int .i64 x.f1, .int .i64 x.f2, .bool x.f3, .slice A44 x.f4.length c44] 69 (0, 0)) := by rw [← hW5]; exact heap_alloc_new _ _
       have HW5 := qA0.mk hW5
       have HP5 := qA0.mk (HP9.out.below hB5)
       have HK5 := qA0.mk hK5
       have HKo5 := qA0.mk (qAN HK9.out (qB4 hB5 none) (by simp))
       have hpi : w.heap.size + 1 + 1 < wj.heap.size := HP9.out.hN.lt
       have hpo : w.heap.size + 1 + 1 < wo.heap.size := hpw
       clear hW5 hB5 hK5 HP9 HK9
       go_wp2_with fail
       rw [HW5.out]
       refine (names_add.walk (w.heap.size + 1 + 1) T' x.f0 W5 HP5.out.hN (by simp only [maxLen]; omega)).mono ?_
       rintro e W6 ⟨rfl, hn, hg⟩
       have HK6 := qA0.mk (qAN HK5.out hg (by simp; omega))
       have HKo6 := qA0.mk (qAN HKo5.out hg (by simp; omega))
       have HP6 := qA0.mk (HP5.out.putB hg hn)
       clear hn hg HK5 HKo5 HP5 HW5 y0 y1 y2 y3 y4
       generalize addR T' x.f0 = e1 at *
       by_cases c1 : e1 = 0
       case neg =>
        have hr : r = e1 := by have := HG7.out; rw [if_pos c1, Option.bind_some] at this; simp only [qBK.k2] at this; rw [if_pos c1] at this; exact (Option.some.inj this).symm
        subst hr
        have c1b : (r != 0) = true := bne_iff_ne.mpr c1
        clear c1
        go_wp2_with fail
        go_ret
        exact ⟨rfl, HP6.out.hB⟩
       subst c1
       rw [if_pos rfl] at HP6
       have hG6 := HG7.out
       rw [if_neg (by simp)] at hG6
       obtain ⟨q, hq, hK⟩ := Option.bind_eq_some_iff.mp hG6
       obtain ⟨ee, he, hF⟩ := Option.bind_eq_some_iff.mp hq
       have HE := qA0.mk he
       have HF := qA0.mk (And.intro hF hK)
       clear hG6 hq he hF hK HG7 hal
       have k0 := (qA4 HK6.out 0).trans rfl
       have k1 := (qA4 HK6.out 1).trans rfl
       have k2 := (qA4 HK6.out 2).trans rfl
       have k3 := (qA4 HK6.out 3).trans rfl
       have k4 := (qA4 HK6.out 4).trans rfl
       go_wp2_with fail
       refine (qAZ.calls 50 x.f0 x.f1 x.f2 x.f3 A44 c44 x.f4 ee W6 (Kd.qAQ HI44.out.2 HP6.out.hB) HI44.out.1 HE.out).mono ?_
       rintro e W7 ⟨rfl, hb⟩
       have HP7 := qA0.mk (HP6.out.below hb)
       have HK7 := qA0.mk (qAN HKo6.out (qB4 hb none) (by simp))
       clear hb HP6 HK6 HKo6 k0 k1 k2 k3 k4
       by_cases c2 : ee = 0
       ·have c2b : (ee != 0) = false := bne_eq_false_iff_eq.mpr c2
        have HG8 := qA0.mk (by have := HF.out.1; rw [if_neg (by simpa using c2)] at this; exact Option.bind_eq_some_iff.mpr ⟨q, this, HF.out.2⟩)
        clear c2 HF
        go_wp2_with fail
        go_roundw
        case rel => exact ⟨j + 1, x.f0 :: T', by omega, by first | rfl | (simp; done) | rw [Int.natCast_add]; rfl, HG8, HP7, HK7⟩
        case measure => simp [RowKit.intOf]; omega
       ·have hr : r = ee := by
         have := HF.out.1
         rw [if_pos (by simpa using c2)] at this
         have h2 := HF.out.2
         rw [← Option.some.inj this] at h2
         simp only [qBK.k2] at h2
         rw [if_pos c2] at h2
         exact (Option.some.inj h2).symm
        subst hr
        have c2b : (r != 0) = true := bne_iff_ne.mpr c2
        clear c2
        go_wp2_with fail
        go_ret
        exact ⟨rfl, HP7.out.hB⟩
      ·obtain rfl : j = a.f4.length := by omega
       have HG7 := qA0.mk (by have := HG6.out; rw [List.drop_length] at this; simpa [qE1, qBK.k2] using this)
       clear HG6 hj
       have hsn := HS.out
       go_wp2_with fail
       go_roundw
       case rel => exact ⟨i + 1, a.f0 :: A, T1, T', by omega, by first | rfl | (simp; done) | rw [Int.natCast_add]; rfl, HG7, HP9⟩
       case measure => simp [RowKit.intOf]; omega
  ·obtain rfl : i = l0.length := by omega
   have hr : r = 0 := by have := HG.out; rw [List.drop_length] at this; simp only [qBK.go] at this; exact (Option.some.inj this).symm
   subst hr
   go_wp2_with fail
   go_ret
   exact ⟨rfl, HP.out.hB⟩
mutual
def qB2.l0 : Nat → ByteArray → List (S48) → Int → Int → Option (ByteArray × Int × Bool × Int × Int × Int × Int × Bool)
 | 0, _, _, _, _ => none
 | k + 1, x1, x10, x11, x12 => if x12 < x11 then (if 0 ≤ x12 then (if x12 < (x10.length : Int) then (qB2.l1 k x1 x10 x11 x12 ((qA3 x10 x12).f3) (((qA3 x10 x12).f3).length : Int) 0) else (none)) else (none)) else (some ((⟨#[]⟩ : ByteArray), 0, false, 0, 0, 0, 0, false))
def qB2.l1 : Nat → ByteArray → List (S48) → Int → Int → List (S83) → Int → Int → Option (ByteArray × Int × Bool × Int × Int × Int × Int × Bool)
 | 0, _, _, _, _, _, _, _ => none
 | k + 1, x1, x10, x11, x12, x17, x18, x19 => if x19 < x18 then (if 0 ≤ x19 then (if x19 < (x17.length : Int) then (if ((qC6 x17 x19).f0).toList = x1.toList then (some ((qC6 x17 x19).f0, (qC6 x17 x19).f1, (qC6 x17 x19).f2, (qC6 x17 x19).f3, (qC6 x17 x19).f4, (qC6 x17 x19).f5.f0, (qC6 x17 x19).f5.f1, true)) else (qB2.l1 k x1 x10 x11 x12 x17 x18 (wrap64 (x19 + 1)))) else (none)) else (none)) else (qB2.l0 k x1 x10 x11 (wrap64 (x12 + 1)))
end
def qB2.f (k : Nat) (l0 : List (S48)) (a1 : ByteArray) : Option (ByteArray × Int × Bool × Int × Int × Int × Int × Bool) := qB2.l0 k a1 l0 (l0.length : Int) 0
theorem qB2.qBY : ∀ k, (∀ y0 y1 y2 y3, LeO (qB2.l0 k y0 y1 y2 y3) (qB2.l0 (k + 1) y0 y1 y2 y3)) ∧ (∀ y0 y1 y2 y3 y4 y5 y6, LeO (qB2.l1 k y0 y1 y2 y3 y4 y5 y6) (qB2.l1 (k + 1) y0 y1 y2 y3 y4 y5 y6))
 | 0 => ⟨fun _ _ _ _ r h => by simp [qB2.l0] at h, fun _ _ _ _ _ _ _ r h => by simp [qB2.l1] at h⟩
 | k + 1 => by
  obtain ⟨ih0, ih1⟩ := qB2.qBY k
  refine ⟨?_, ?_⟩
  ·intro y0 y1 y2 y3
   unfold qB2.l0
   exact zm
  ·intro y0 y1 y2 y3 y4 y5 y6
   unfold qB2.l1
   exact zm
theorem qB2.mono : ∀ a0 a1 k, LeO (qB2.f k a0 a1) (qB2.f (k + 1) a0 a1) := by
 intro a0 a1 k
 obtain ⟨ih0, ih1⟩ := qB2.qBY k
 unfold qB2.f
 exact zm
set_option maxHeartbeats 8000000 in
set_option maxRecDepth 100000 in
theorem qB2.calls (k : Nat) (A0 : Option Addr) (c0 : Nat) (l0 : List (S48)) (a1 : ByteArray) (r1 : ByteArray) (r2 : Int) (r3 : Bool) (r4 : Int) (r5 : Int) (r6 : Int) (r7 : Int) (r8 : Bool) (w : World) (hr0 : Kd.C k48 w A0 l0.length l0) (hc0 : l0.length ≤ c0) (h : qB2.f k l0 a1 = some (r1, r2, r3, r4, r5, r6, r7, r8)) :
  Calls Try.prog 28 #[.slice A0 l0.length c0, .string a1] w fun e w' => e = .returned (.tuple #[.agg #[.string r1, .int .i64 r2, .bool r3, .int .i64 r4, .int .i64 r5, .int .i64 r6, .int .i64 r7], .bool r8]) ∧ Below w.heap.size w w' := by
 have hu83 := Try.underlying83
 have hu48 := Try.underlying48
 have HR0 := qA0.mk hr0
 have HC0 := qA0.mk hc0
 clear hr0 hc0
 have HB := qA0.mk (Below.refl w.heap.size w)
 have H : (qB2.l0 k a1 l0 (l0.length : Int) 0) = some (r1, r2, r3, r4, r5, r6, r7, r8) := h
 clear h
 have H' := qA0.mk H
 clear H
 go_enter Try.func28, Try.ntmps28
 go_wp2_with (((with_reducible refine qAC (N := 4) rfl ?_); refine qAD ?hg (N := 4) ?hd (cs := #[.string (⟨#[]⟩ : ByteArray), .int .i64 0, .bool false, .int .i64 0, .int .i64 0, .int .i64 0, .int .i64 0]) (t := 83) ?hr ?_; (case hd => rfl); (case hg => rfl); (case hr => first | (go_simp; done) | (go_simp; rfl)); intro gb145 hg w3 hbox hb; have BK145 := qA0.mk (hbox); have GW145 := zg w gb145; have GE145 := zg w gb145; replace HB := qA0.mk (qA1 zb hb); clear hb hbox hg))
 go_loopg [12] k (fun kq v12 w' => ∃ (x12_1 : Int) (x146000_1 : ByteArray) (x146001_1 : Int) (x146002_1 : Bool) (x146003_1 : Int) (x146004_1 : Int) (x146005_1 : Int) (x146006_1 : Int), v12 = .int .i64 x12_1 ∧ qA0 (qB2.l0 kq a1 l0 (l0.length : Int) x12_1 = some (r1, r2, r3, r4, r5, r6, r7, r8)) ∧ qA0 (kq ≤ k) ∧ qA0 (w'.heap[gb145]? = some (.cells #[.string x146000_1, .int .i64 x146001_1, .bool x146002_1, .int .i64 x146003_1, .int .i64 x146004_1, .int .i64 x146005_1, .int .i64 x146006_1] 83 (0, 0))) ∧ qA0 (Below w.heap.size w w'))
 case atStart => exact ⟨(0), ((⟨#[]⟩ : ByteArray)), (0), (false), (0), (0), (0), (0), zs, H', ⟨Nat.le_refl _⟩, ⟨zk BK145⟩, ⟨zb⟩⟩
 case round =>
  clear H'
  obtain ⟨x12_1, x146000_1, x146001_1, x146002_1, x146003_1, x146004_1, x146005_1, x146006_1, rfl, HA, HK1, BK145, HB⟩ := hrel
  cases gk with
  | zero => exact absurd HA.out (by simp [qB2.l0])
  | succ k1 =>
   have H := HA.out
   clear HA
   simp only [qB2.l0] at H
   by_cases c4 : x12_1 < (l0.length : Int)
   ·rw [if_pos c4] at H
    have c4b0 := decide_eq_true c4
    clear c4
    by_cases c5 : 0 ≤ x12_1
    ·rw [if_pos c5] at H
     have c5b0 := decide_eq_true c5
     clear c5
     by_cases c6 : x12_1 < (l0.length : Int)
     ·rw [if_pos c6] at H
      have c6b0 := decide_eq_true c6
      clear c6
      have H' := qA0.mk H
      clear H
      have p146 : 0 ≤ (x12_1 : Int) := zd
      have q146 : x12_1 < (l0.length : Int) := zd
      obtain ⟨ad146, A146_3, c146_3, A146_4, c146_4, A146_5, c146_5, e146, hx146_0, hx146_1, hx146_2, hx146_3, hx146_4, hx146_5, hl146_3, hi146_3, hl146_4, hi146_4, hl146_5, hi146_5⟩ := qEM HR0.out x12_1 p146 q146
      cases e146
      (try replace hx146_0 := zh hx146_0)
      replace hx146_1 := zh hx146_1
      replace hx146_2 := zh hx146_2
      replace hx146_3 := zh hx146_3
      replace hx146_4 := zh hx146_4
      replace hx146_5 := zh hx146_5
      have HR146_3 := qA0.mk hi146_3
      have HC146_3 := qA0.mk hl146_3
      clear hi146_3 hl146_3
      have HR146_4 := qA0.mk hi146_4
      have HC146_4 := qA0.mk hl146_4
      clear hi146_4 hl146_4
      have HR146_5 := qA0.mk hi146_5
      have HC146_5 := qA0.mk hl146_5
      clear hi146_5 hl146_5
      replace p146 := eq_true p146
      replace q146 := eq_true q146
      go_wp2_with (((with_reducible refine qAC (N := 7) rfl ?_); refine qAD ?hg (N := 7) ?hd (cs := #[.string (⟨#[]⟩ : ByteArray), .int .i64 0, .int .i64 0, .slice none 0 0, .slice none 0 0, .slice none 0 0]) (t := 48) ?hr ?_; (case hd => rfl); (case hg => rfl); (case hr => first | (go_simp; done) | (go_simp; rfl)); intro gb147 hg w7 hbox hb; have BK147 := qA0.mk (hbox); have GW147 := zg w gb147; have GE147 := zg w gb147; have NB145_147 := zl BK145 gb147; have NB147_145 := zu BK145 gb147; replace BK145 := qA0.mk (qA5 (zk BK145) hb); replace HB := qA0.mk (qA1 zb hb); clear hb hbox hg; have hnb8 := NB147_145.out; have hnc8 := NB145_147.out; obtain ⟨hcz9_0, hcz9_1, hcz9_2, hcz9_3, hcz9_4, hcz9_5, hfz9_0, hfz9_1, hfz9_2, hfz9_3, hfz9_4, hfz9_5⟩ := bc6 BK147.out))
      go_loopg [19] k1 (fun kq v19 w' => ∃ (x19_2 : Int) (x146000_2 : ByteArray) (x146001_2 : Int) (x146002_2 : Bool) (x146003_2 : Int) (x146004_2 : Int) (x146005_2 : Int) (x146006_2 : Int), v19 = .int .i64 x19_2 ∧ qA0 (qB2.l1 kq a1 l0 (l0.length : Int) x12_1 ((qA3 l0 x12_1).f3) (((qA3 l0 x12_1).f3).length : Int) x19_2 = some (r1, r2, r3, r4, r5, r6, r7, r8)) ∧ qA0 (kq ≤ k1) ∧ qA0 (w'.heap[gb145]? = some (.cells #[.string x146000_2, .int .i64 x146001_2, .bool x146002_2, .int .i64 x146003_2, .int .i64 x146004_2, .int .i64 x146005_2, .int .i64 x146006_2] 83 (0, 0))) ∧ qA0 (w'.heap[gb147]? = some (.cells #[.string ((qA3 l0 x12_1).f0), .int .i64 ((qA3 l0 x12_1).f1), .int .i64 ((qA3 l0 x12_1).f2), (.slice A146_3 ((qA3 l0 x12_1).f3).length c146_3), (.slice A146_4 ((qA3 l0 x12_1).f4).length c146_4), (.slice A146_5 ((qA3 l0 x12_1).f5).length c146_5)] 48 (0, 0))) ∧ qA0 (Below w.heap.size w w'))
      case atStart => exact ⟨(0), (x146000_1), (x146001_1), (x146002_1), (x146003_1), (x146004_1), (x146005_1), (x146006_1), zs, H', ⟨Nat.le_refl _⟩, ⟨by refine zf_ ?_ NB145_147; refine zf_ ?_ NB145_147; refine zf_ ?_ NB145_147; refine zf_ ?_ NB145_147; refine zf_ ?_ NB145_147; refine zf_ ?_ NB145_147; (with_reducible repeat refine st ?_); exact BK145.out⟩, ⟨by refine zp_ (cs := #[.string ((qA3 l0 x12_1).f0), .int .i64 ((qA3 l0 x12_1).f1), .int .i64 ((qA3 l0 x12_1).f2), .slice A146_3 ((qA3 l0 x12_1).f3).length c146_3, .slice A146_4 ((qA3 l0 x12_1).f4).length c146_4, .slice none 0 0]) ?_ 5; refine zp_ (cs := #[.string ((qA3 l0 x12_1).f0), .int .i64 ((qA3 l0 x12_1).f1), .int .i64 ((qA3 l0 x12_1).f2), .slice A146_3 ((qA3 l0 x12_1).f3).length c146_3, .slice none 0 0, .slice none 0 0]) ?_ 4; refine zp_ (cs := #[.string ((qA3 l0 x12_1).f0), .int .i64 ((qA3 l0 x12_1).f1), .int .i64 ((qA3 l0 x12_1).f2), .slice none 0 0, .slice none 0 0, .slice none 0 0]) ?_ 3; refine zp_ (cs := #[.string ((qA3 l0 x12_1).f0), .int .i64 ((qA3 l0 x12_1).f1), .int .i64 0, .slice none 0 0, .slice none 0 0, .slice none 0 0]) ?_ 2; refine zp_ (cs := #[.string ((qA3 l0 x12_1).f0), .int .i64 0, .int .i64 0, .slice none 0 0, .slice none 0 0, .slice none 0 0]) ?_ 1; (with_reducible repeat refine st ?_); refine qAJ (cs := #[.string (⟨#[]⟩ : ByteArray), .int .i64 0, .int .i64 0, .slice none 0 0, .slice none 0 0, .slice none 0 0]) ?_ 0 _ rfl; (with_reducible repeat refine st ?_); exact BK147.out⟩, ⟨zb⟩⟩
      case round =>
       clear H' c4b0 c5b0 c6b0 hcz9_0 hcz9_1 hcz9_2 hcz9_3 hcz9_4 hcz9_5 hfz9_0 hfz9_1 hfz9_2 hfz9_3 hfz9_4 hfz9_5 hx146_0 hx146_1 hx146_2 hx146_3 hx146_4 hx146_5 p146 q146
       obtain ⟨x19_2, x146000_2, x146001_2, x146002_2, x146003_2, x146004_2, x146005_2, x146006_2, rfl, HA, HK2, BK145, BK147, HB⟩ := hrel
       cases gk with
       | zero => exact absurd HA.out (by simp [qB2.l1])
       | succ k2 =>
        have H := HA.out
        clear HA
        simp only [qB2.l1] at H
        by_cases c10 : x19_2 < (((qA3 l0 x12_1).f3).length : Int)
        ·rw [if_pos c10] at H
         have c10b0 := decide_eq_true c10
         clear c10
         by_cases c11 : 0 ≤ x19_2
         ·rw [if_pos c11] at H
          have c11b0 := decide_eq_true c11
          clear c11
          by_cases c12 : x19_2 < (((qA3 l0 x12_1).f3).length : Int)
          ·rw [if_pos c12] at H
           have c12b0 := decide_eq_true c12
           clear c12
           by_cases c13 : ((qC6 ((qA3 l0 x12_1).f3) x19_2).f0).toList = a1.toList
           ·rw [if_pos c13] at H
            have ⟨c13b0, c13b1⟩ := ze c13
            clear c13
            simp only [Option.some.injEq, Prod.mk.injEq] at H
            obtain ⟨rfl, rfl, rfl, rfl, rfl, rfl, rfl, rfl⟩ := H
            have p148 : 0 ≤ (x19_2 : Int) := zd
            have q148 : x19_2 < (((qA3 l0 x12_1).f3).length : Int) := zd
            obtain ⟨ad148, e148, hx148_0, hx148_1, hx148_2, hx148_3, hx148_4, hx148_5, hx148_6⟩ := at_T83 HR146_3.out x19_2 p148 q148
            cases e148
            (try replace hx148_0 := zh hx148_0)
            replace hx148_1 := zh hx148_1
            replace hx148_2 := zh hx148_2
            replace hx148_3 := zh hx148_3
            replace hx148_4 := zh hx148_4
            replace hx148_5 := zh hx148_5
            replace hx148_6 := zh hx148_6
            replace p148 := eq_true p148
            replace q148 := eq_true q148
            go_wp2_with (((with_reducible refine qAC (N := 9) rfl ?_); refine qAD ?hg (N := 9) ?hd (cs := #[.string (⟨#[]⟩ : ByteArray), .int .i64 0, .bool false, .int .i64 0, .int .i64 0, .int .i64 0, .int .i64 0]) (t := 83) ?hr ?_; (case hd => rfl); (case hg => rfl); (case hr => first | (go_simp; done) | (go_simp; rfl)); intro gb149 hg w14 hbox hb; have BK149 := qA0.mk (hbox); have GW149 := zg w gb149; have GE149 := zg w gb149; have NB145_149 := zl BK145 gb149; have NB149_145 := zu BK145 gb149; have NB147_149 := zl BK147 gb149; have NB149_147 := zu BK147 gb149; replace BK145 := qA0.mk (qA5 (zk BK145) hb); replace BK147 := qA0.mk (qA5 (zk BK147) hb); replace HB := qA0.mk (qA1 zb hb); clear hb hbox hg; have hnb15 := NB149_145.out; have hnc15 := NB145_149.out; have hnb16 := NB149_147.out; have hnc16 := NB147_149.out; obtain ⟨hcz17_0, hcz17_1, hcz17_2, hcz17_3, hcz17_4, hcz17_5, hcz17_6, hfz17_0, hfz17_1, hfz17_2, hfz17_3, hfz17_4, hfz17_5, hfz17_6⟩ := bc7 BK149.out; have hnb18 := NB145_147.out; have hnc18 := NB147_145.out; obtain ⟨hcz19_0, hcz19_1, hcz19_2, hcz19_3, hcz19_4, hcz19_5, hcz19_6, hfz19_0, hfz19_1, hfz19_2, hfz19_3, hfz19_4, hfz19_5, hfz19_6⟩ := bc7 BK145.out))
            refine bodyPost_ret (qDR rfl _ _ gb145 83 #[.string ((qC6 ((qA3 l0 x12_1).f3) x19_2).f0), .int .i64 ((qC6 ((qA3 l0 x12_1).f3) x19_2).f1), .bool ((qC6 ((qA3 l0 x12_1).f3) x19_2).f2), .int .i64 ((qC6 ((qA3 l0 x12_1).f3) x19_2).f3), .int .i64 ((qC6 ((qA3 l0 x12_1).f3) x19_2).f4), .int .i64 ((qC6 ((qA3 l0 x12_1).f3) x19_2).f5.f0), .int .i64 ((qC6 ((qA3 l0 x12_1).f3) x19_2).f5.f1)] (0, 0) _ rfl (by refine zp_ (cs := #[.string ((qC6 ((qA3 l0 x12_1).f3) x19_2).f0), .int .i64 ((qC6 ((qA3 l0 x12_1).f3) x19_2).f1), .bool ((qC6 ((qA3 l0 x12_1).f3) x19_2).f2), .int .i64 ((qC6 ((qA3 l0 x12_1).f3) x19_2).f3), .int .i64 ((qC6 ((qA3 l0 x12_1).f3) x19_2).f4), .int .i64 ((qC6 ((qA3 l0 x12_1).f3) x19_2).f5.f0), .int .i64 x146006_2]) ?_ 6; refine zp_ (cs := #[.string ((qC6 ((qA3 l0 x12_1).f3) x19_2).f0), .int .i64 ((qC6 ((qA3 l0 x12_1).f3) x19_2).f1), .bool ((qC6 ((qA3 l0 x12_1).f3) x19_2).f2), .int .i64 ((qC6 ((qA3 l0 x12_1).f3) x19_2).f3), .int .i64 ((qC6 ((qA3 l0 x12_1).f3) x19_2).f4), .int .i64 x146005_2, .int .i64 x146006_2]) ?_ 5; refine zp_ (cs := #[.string ((qC6 ((qA3 l0 x12_1).f3) x19_2).f0), .int .i64 ((qC6 ((qA3 l0 x12_1).f3) x19_2).f1), .bool ((qC6 ((qA3 l0 x12_1).f3) x19_2).f2), .int .i64 ((qC6 ((qA3 l0 x12_1).f3) x19_2).f3), .int .i64 x146004_2, .int .i64 x146005_2, .int .i64 x146006_2]) ?_ 4; refine zp_ (cs := #[.string ((qC6 ((qA3 l0 x12_1).f3) x19_2).f0), .int .i64 ((qC6 ((qA3 l0 x12_1).f3) x19_2).f1), .bool ((qC6 ((qA3 l0 x12_1).f3) x19_2).f2), .int .i64 x146003_2, .int .i64 x146004_2, .int .i64 x146005_2, .int .i64 x146006_2]) ?_ 3; refine zp_ (cs := #[.string ((qC6 ((qA3 l0 x12_1).f3) x19_2).f0), .int .i64 ((qC6 ((qA3 l0 x12_1).f3) x19_2).f1), .bool x146002_2, .int .i64 x146003_2, .int .i64 x146004_2, .int .i64 x146005_2, .int .i64 x146006_2]) ?_ 2; refine zp_ (cs := #[.string ((qC6 ((qA3 l0 x12_1).f3) x19_2).f0), .int .i64 x146001_2, .bool x146002_2, .int .i64 x146003_2, .int .i64 x146004_2, .int .i64 x146005_2, .int .i64 x146006_2]) ?_ 1; refine zp_ (cs := #[.string x146000_2, .int .i64 x146001_2, .bool x146002_2, .int .i64 x146003_2, .int .i64 x146004_2, .int .i64 x146005_2, .int .i64 x146006_2]) ?_ 0; refine zf_ ?_ NB145_149; refine zf_ ?_ NB145_149; refine zf_ ?_ NB145_149; refine zf_ ?_ NB145_149; refine zf_ ?_ NB145_149; refine zf_ ?_ NB145_149; refine zf_ ?_ NB145_149; (with_reducible repeat refine st ?_); exact BK145.out) Try.underlying83 rfl (by kernel_rfl)) rfl ?_
            exact ⟨zf, zb⟩
           ·rw [if_neg c13] at H
            have ⟨c13b0, c13b1⟩ := zn c13
            have H' := qA0.mk H
            clear H
            have p148 : 0 ≤ (x19_2 : Int) := zd
            have q148 : x19_2 < (((qA3 l0 x12_1).f3).length : Int) := zd
            obtain ⟨ad148, e148, hx148_0, hx148_1, hx148_2, hx148_3, hx148_4, hx148_5, hx148_6⟩ := at_T83 HR146_3.out x19_2 p148 q148
            cases e148
            (try replace hx148_0 := zh hx148_0)
            replace hx148_1 := zh hx148_1
            replace hx148_2 := zh hx148_2
            replace hx148_3 := zh hx148_3
            replace hx148_4 := zh hx148_4
            replace hx148_5 := zh hx148_5
            replace hx148_6 := zh hx148_6
            replace p148 := eq_true p148
            replace q148 := eq_true q148
            go_wp2_with (((with_reducible refine qAC (N := 9) rfl ?_); refine qAD ?hg (N := 9) ?hd (cs := #[.string (⟨#[]⟩ : ByteArray), .int .i64 0, .bool false, .int .i64 0, .int .i64 0, .int .i64 0, .int .i64 0]) (t := 83) ?hr ?_; (case hd => rfl); (case hg => rfl); (case hr => first | (go_simp; done) | (go_simp; rfl)); intro gb149 hg w20 hbox hb; have BK149 := qA0.mk (hbox); have GW149 := zg w gb149; have GE149 := zg w gb149; have NB145_149 := zl BK145 gb149; have NB149_145 := zu BK145 gb149; have NB147_149 := zl BK147 gb149; have NB149_147 := zu BK147 gb149; replace BK145 := qA0.mk (qA5 (zk BK145) hb); replace BK147 := qA0.mk (qA5 (zk BK147) hb); replace HB := qA0.mk (qA1 zb hb); clear hb hbox hg; have hnb21 := NB149_145.out; have hnc21 := NB145_149.out; have hnb22 := NB149_147.out; have hnc22 := NB147_149.out; obtain ⟨hcz23_0, hcz23_1, hcz23_2, hcz23_3, hcz23_4, hcz23_5, hcz23_6, hfz23_0, hfz23_1, hfz23_2, hfz23_3, hfz23_4, hfz23_5, hfz23_6⟩ := bc7 BK149.out))
            go_roundg k2
            case measure => have := HK1.out; have := HK2.out; omega
            case rel => exact ⟨(wrap64 (x19_2 + 1)), (x146000_2), (x146001_2), (x146002_2), (x146003_2), (x146004_2), (x146005_2), (x146006_2), zs, H', ⟨by have := HK1.out; have := HK2.out; omega⟩, ⟨by refine zf_ ?_ NB145_149; refine zf_ ?_ NB145_149; refine zf_ ?_ NB145_149; refine zf_ ?_ NB145_149; refine zf_ ?_ NB145_149; refine zf_ ?_ NB145_149; refine zf_ ?_ NB145_149; (with_reducible repeat refine st ?_); exact BK145.out⟩, ⟨by refine zf_ ?_ NB147_149; refine zf_ ?_ NB147_149; refine zf_ ?_ NB147_149; refine zf_ ?_ NB147_149; refine zf_ ?_ NB147_149; refine zf_ ?_ NB147_149; refine zf_ ?_ NB147_149; (with_reducible repeat refine st ?_); exact BK147.out⟩, ⟨zb⟩⟩
          ·rw [if_neg c12] at H
           exact absurd H (by simp)
         ·rw [if_neg c11] at H
          exact absurd H (by simp)
        ·rw [if_neg c10] at H
         have c10b0 := decide_eq_false c10
         clear c10
         have H' := qA0.mk H
         clear H
         go_wp2
         go_roundg k2
         case measure => have := HK1.out; have := HK2.out; omega
         case rel => exact ⟨(wrap64 (x12_1 + 1)), (x146000_2), (x146001_2), (x146002_2), (x146003_2), (x146004_2), (x146005_2), (x146006_2), zs, H', ⟨by have := HK1.out; have := HK2.out; omega⟩, ⟨zk BK145⟩, ⟨zb⟩⟩
     ·rw [if_neg c6] at H
      exact absurd H (by simp)
    ·rw [if_neg c5] at H
     exact absurd H (by simp)
   ·rw [if_neg c4] at H
    have c4b0 := decide_eq_false c4
    clear c4
    simp only [Option.some.injEq, Prod.mk.injEq] at H
    obtain ⟨rfl, rfl, rfl, rfl, rfl, rfl, rfl, rfl⟩ := H
    obtain ⟨hcz24_0, hcz24_1, hcz24_2, hcz24_3, hcz24_4, hcz24_5, hcz24_6, hfz24_0, hfz24_1, hfz24_2, hfz24_3, hfz24_4, hfz24_5, hfz24_6⟩ := bc7 BK145.out
    go_wp2
    refine bodyPost_ret (qDR rfl _ _ gb145 83 #[.string (⟨#[]⟩ : ByteArray), .int .i64 0, .bool false, .int .i64 0, .int .i64 0, .int .i64 0, .int .i64 0] (0, 0) _ rfl (by (with_reducible repeat refine st ?_); refine qAJ (cs := #[.string (⟨#[]⟩ : ByteArray), .int .i64 0, .bool false, .int .i64 0, .int .i64 0, .int .i64 0, .int .i64 x146006_1]) ?_ 6 _ rfl; (with_reducible repeat refine st ?_); refine qAJ (cs := #[.string (⟨#[]⟩ : ByteArray), .int .i64 0, .bool false, .int .i64 0, .int .i64 0, .int .i64 x146005_1, .int .i64 x146006_1]) ?_ 5 _ rfl; (with_reducible repeat refine st ?_); refine qAJ (cs := #[.string (⟨#[]⟩ : ByteArray), .int .i64 0, .bool false, .int .i64 0, .int .i64 x146004_1, .int .i64 x146005_1, .int .i64 x146006_1]) ?_ 4 _ rfl; (with_reducible repeat refine st ?_); refine qAJ (cs := #[.string (⟨#[]⟩ : ByteArray), .int .i64 0, .bool false, .int .i64 x146003_1, .int .i64 x146004_1, .int .i64 x146005_1, .int .i64 x146006_1]) ?_ 3 _ rfl; (with_reducible repeat refine st ?_); refine qAJ (cs := #[.string (⟨#[]⟩ : ByteArray), .int .i64 0, .bool x146002_1, .int .i64 x146003_1, .int .i64 x146004_1, .int .i64 x146005_1, .int .i64 x146006_1]) ?_ 2 _ rfl; (with_reducible repeat refine st ?_); refine qAJ (cs := #[.string (⟨#[]⟩ : ByteArray), .int .i64 x146001_1, .bool x146002_1, .int .i64 x146003_1, .int .i64 x146004_1, .int .i64 x146005_1, .int .i64 x146006_1]) ?_ 1 _ rfl; refine zp_ (cs := #[.string x146000_1, .int .i64 x146001_1, .bool x146002_1, .int .i64 x146003_1, .int .i64 x146004_1, .int .i64 x146005_1, .int .i64 x146006_1]) ?_ 0; (with_reducible repeat refine st ?_); exact BK145.out) Try.underlying83 rfl (by kernel_rfl)) rfl ?_
    exact ⟨zf, zb⟩
end
end Go.Proofs.Ytnliaialemfcaaa.PRateFinds
end
