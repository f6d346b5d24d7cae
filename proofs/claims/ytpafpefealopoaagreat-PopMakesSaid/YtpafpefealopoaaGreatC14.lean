/- Whatever the body, the model, the state and the numbers: Check, One, Make and Members of pop return what the reference says, and the arguments read as they did. No condition. The row of PopMakes, out of the pure law and the walk. -/
import Derived.Test.YtpafpefealopoaaGreatC0
import Derived.Test.YtpafpefealopoaaGreatC1
import Derived.Test.YtpafpefealopoaaGreatC12
import Derived.Test.YtpafpefealopoaaGreatC13
import Derived.Test.YtpafpefealopoaaGreatRows
import Derived.ChangeArms
import Derived.Deep.Slices
import Derived.SizedLaws
import Derived.WalkKit
import Derived.ProofKit
import Derived.OpenShut
import Derived.ShutString
import Derived.ChangeOld
import Derived.Below
set_option linter.unusedVariables false
set_option linter.unusedSimpArgs false
section
namespace Go.Proofs.YtpafpefealopoaaGreat.Open
open Go Go.Deep Go.ChangeShapes Go.WideShapes Go.Proofs.YtpafpefealopoaaGreatW.PrintWords
variable {P : Program}
def Fit {H : Type} (P : Program) (t : TypeId) (d : DataW H) : Prop := (d.weights P t).all (· ≤ reachBytes) = true
def qFH {α : Type} (k : Kd α) (P : Program) (t : TypeId) (Ok : α → Prop) : Prop :=
 P.cellsOf t = k.sz ∧ ∀ (H : Type) (enc : TypeId × Value → H) (w : World) (spare : Nat → Bool) (held : Bool) (fuel : Nat) (cs : List Value) (x : DataW H × List MemPlace), DataW.trod enc P w 0 spare held fuel t cs = some x → ∃ v : α, k.K w v cs ∧ (Fit P t x.1 → Ok v)
def OpensF {α : Type} (k : Kd α) (P : Program) (fs : Array Field) (_j off tot : Nat) (Ok : α → Prop) : Prop :=
 ∀ (H : Type) (enc : TypeId × Value → H) (w : World) (spare : Nat → Bool) (held : Bool) (n : Nat) (cs : List Value) (xs : List (DataW H × List MemPlace)), cs.length = tot → xs.length = fs.size →
  (∀ (i : Nat) (f : Field), fs[i]? = some f → DataW.trod enc P w 0 spare held n f.type ((cs.drop f.offset).take (P.cellsOf f.type)) = xs[i]?) →
  ∃ v : α, k.K w v (cs.drop off) ∧ ((∀ (i : Nat) (f : Field) (x : DataW H × List MemPlace), fs[i]? = some f → xs[i]? = some x → Fit P f.type x.1) → Ok v)
theorem qCK {kk : IntKind} {t : TypeId} (hu : P.underlying t = some (.int kk)) (hc : P.cellsOf t = 1) : qFH (Kd.int kk) P t (fun n => (Lit.int kk n).wf = true) :=
 ⟨hc, fun H enc w spare held fuel cs x h => by
  obtain ⟨n, rfl, rfl, hw⟩ := DataW.trod_int hu h
  exact ⟨n, rfl, fun _ => hw⟩⟩
theorem opens_bool {t : TypeId} (hu : P.underlying t = some .bool) (hc : P.cellsOf t = 1) : qFH Kd.bool P t (fun _ => True) :=
 ⟨hc, fun H enc w spare held fuel cs x h => by
  obtain ⟨n, rfl, rfl⟩ := DataW.trod_bool hu h
  exact ⟨n, rfl, fun _ => trivial⟩⟩
theorem qDG {t : TypeId} (hu : P.underlying t = some .string) (hc : P.cellsOf t = 1) : qFH Kd.string P t (fun s => s.size ≤ reachBytes) :=
 ⟨hc, fun H enc w spare held fuel cs x h => by
  obtain ⟨s, rfl, rfl, hs⟩ := DataW.trod_string hu h
  refine ⟨s, rfl, fun hf => ?_⟩
  have hf' := List.all_eq_true.1 hf s.data.toList.length (by simp [DataW.weights])
  simpa using hf'⟩
theorem list_of {α : Type} {p : Nat → α → Prop} : ∀ (n : Nat), (∀ i, i < n → ∃ v, p i v) → ∃ l : List α, l.length = n ∧ ∀ i v, l[i]? = some v → p i v
 | 0, _ => ⟨[], rfl, fun i v h => by simp at h⟩
 | n + 1, h => by
  obtain ⟨l, hl, hp⟩ := list_of n (fun i hi => h i (by omega))
  obtain ⟨v, hv⟩ := h n (by omega)
  refine ⟨l ++ [v], by simp [hl], fun i u hu => ?_⟩
  rcases Nat.lt_or_ge i l.length with hi | hi
  ·exact hp i u (by rwa [List.getElem?_append_left hi] at hu)
  ·rw [List.getElem?_append_right hi] at hu
   have h0 : i - l.length = 0 := by
    rcases Nat.eq_zero_or_pos (i - l.length) with h | h
    ·exact h
    ·rw [List.getElem?_eq_none (by simp only [List.length_singleton]; omega)] at hu; cases hu
   rw [h0, List.getElem?_cons_zero] at hu
   injection hu with hu
   subst hu
   obtain rfl : i = n := by omega
   exact hv
theorem fit_all {H : Type} {e : TypeId} : ∀ {l : List (DataW H)}, (DataW.weightsAll P e l).all (· ≤ reachBytes) = true → ∀ d ∈ l, Fit P e d
 | [], _, d, hd => by cases hd
 | d0 :: l, h, d, hd => by
  rw [DataW.weightsAll, List.all_append, Bool.and_eq_true] at h
  rcases List.mem_cons.1 hd with rfl | hd
  ·exact h.1
  ·exact fit_all h.2 d hd
theorem qCU {α : Type} {k : Kd α} {t e : TypeId} {Ok : α → Prop} (hu : P.underlying t = some (.slice e)) (hc : P.cellsOf t = 1) (he : qFH k P e Ok) : qFH (Kd.slice e k) P t (fun l => l.length * P.bytesOf e ≤ reachBytes ∧ ∀ x ∈ l, Ok x) :=
 ⟨hc, fun H enc w spare held fuel cs x h => by
  rcases open_slice hu h with ⟨rfl, rfl⟩ | ⟨a, len, cap, m, n, D, Pl, rfl, _, hl, hm, hmm, rfl, hx⟩
  ·exact ⟨[], ⟨none, 0, rfl, Nat.le_refl _, rfl, Nat.zero_le _, fun h => absurd h (Nat.lt_irrefl _)⟩, fun _ => ⟨by simp, fun x hx => by cases hx⟩⟩
  ·have hlm : len ≤ m := by rw [hmm]; split <;> omega
   obtain ⟨l, hll, hlp⟩ := list_of (p := fun i v => (∃ cs', w.cells? 0 (a.add (i * P.cellsOf e)) (P.cellsOf e) = some cs' ∧ k.K w v cs') ∧ (Fit P e (D i) → Ok v)) len (fun i hi => by
    obtain ⟨cs', h1, h2⟩ := hx i (by omega)
    obtain ⟨v, hv, hf⟩ := he.2 H enc w spare held n cs' _ h2
    exact ⟨v, ⟨cs', h1, hv⟩, hf⟩)
   refine ⟨l, ⟨some a, cap, by rw [hll], by omega, rfl, by rw [hll]; exact Nat.le_trans hl hm, fun _ => ⟨a, rfl, fun j p hj => ?_⟩⟩, fun hf => ⟨?_, fun v hv => ?_⟩⟩
   ·obtain ⟨⟨cs', h1, hK⟩, _⟩ := hlp j p hj
    obtain ⟨_, hlen, hcell⟩ := World.cells?_some h1
    refine ⟨cs', k.K_len hK, hK, fun i u hi => ?_⟩
    have hi' : i < cs'.length := (List.getElem?_eq_some_iff.1 hi).1
    have := hcell i (by omega)
    rw [Deep.add_add, he.1] at this
    rw [this, hi]
   ·unfold Fit at hf
    simp only [DataW.weights, hu, List.all_cons, Bool.and_eq_true, decide_eq_true_eq, List.length_map, List.length_range] at hf
    rw [hll]
    exact Nat.le_trans (Nat.mul_le_mul_right _ (Nat.le_add_right _ _)) hf.1
   ·obtain ⟨i, hi, rfl⟩ := List.getElem_of_mem hv
    refine (hlp i _ (List.getElem?_eq_getElem hi)).2 ?_
    unfold Fit at hf
    simp only [DataW.weights, hu, List.all_cons, Bool.and_eq_true, List.all_append] at hf
    exact fit_all hf.2.1 _ (List.mem_map.2 ⟨i, by simp; omega, rfl⟩)⟩
theorem qDV {α : Type} {k : Kd α} {fs : Array Field} {j off tot : Nat} {f : Field} {Ok : α → Prop} (hf : fs[j]? = some f) (ho : f.offset = off) (hs : off + k.sz = tot) (h : qFH k P f.type Ok) : OpensF k P fs j off tot Ok := by
 intro H enc w spare held n cs xs hcs hxs hx
 have h1 := hx j f hf
 have hj : j < xs.length := by rw [hxs]; exact (Array.getElem?_eq_some_iff.1 hf).1
 rw [List.getElem?_eq_getElem hj] at h1
 obtain ⟨v, hK, hO⟩ := h.2 H enc w spare held n _ _ h1
 rw [ho, h.1, List.take_of_length_le (by rw [List.length_drop]; omega)] at hK
 exact ⟨v, hK, fun hfit => hO (hfit j f _ hf (List.getElem?_eq_getElem hj))⟩
theorem qBK {α β : Type} {a : Kd α} {b : Kd β} {fs : Array Field} {j off tot : Nat} {f : Field} {Oa : α → Prop} {Ob : β → Prop} (hf : fs[j]? = some f) (ho : f.offset = off) (h : qFH a P f.type Oa) (r : OpensF b P fs (j + 1) (off + a.sz) tot Ob) : OpensF (Kd.pair a b) P fs j off tot (fun p => Oa p.1 ∧ Ob p.2) := by
 intro H enc w spare held n cs xs hcs hxs hx
 have h1 := hx j f hf
 have hj : j < xs.length := by rw [hxs]; exact (Array.getElem?_eq_some_iff.1 hf).1
 rw [List.getElem?_eq_getElem hj] at h1
 obtain ⟨v, hK, hO⟩ := h.2 H enc w spare held n _ _ h1
 obtain ⟨u, hK2, hO2⟩ := r H enc w spare held n cs xs hcs hxs hx
 rw [ho, h.1] at hK
 refine ⟨(v, u), ⟨_, _, ?_, hK, hK2⟩, fun hfit => ⟨hO (hfit j f _ hf (List.getElem?_eq_getElem hj)), hO2 hfit⟩⟩
 rw [← List.drop_drop, List.take_append_drop]
theorem qDA {α β : Type} {k : Kd β} {t : TypeId} {fs : Array Field} {tot : Nat} {Ok : β → Prop} (f : α → β) (g : β → α) (hfg : ∀ x, f (g x) = x) (hu : P.underlying t = some (.struct fs)) (hc : P.cellsOf t = tot) (hk : k.sz = tot) (r : OpensF k P fs 0 0 tot Ok) : qFH (Kd.iso k f) P t (fun v => Ok (f v)) :=
 ⟨by rw [hc, ← hk]; rfl, fun H enc w spare held fuel cs x h => by
  obtain ⟨xs, n, rfl, rfl, hcs, hxs, hx⟩ := DataW.trod_struct hu h
  obtain ⟨v, hK, hO⟩ := r H enc w spare held n cs xs (by rw [hcs, hc]) hxs hx
  refine ⟨g v, ?_, fun hfit => ?_⟩
  ·show k.K w (f (g v)) cs
   rw [hfg]
   rwa [List.drop_zero] at hK
  ·show Ok (f (g v))
   rw [hfg]
   refine hO fun i f' x hf' hx' => List.all_eq_true.2 fun m hm => ?_
   unfold Fit at hfit
   simp only [DataW.weights, hu] at hfit
   refine List.all_eq_true.1 hfit m (DataW.weights_mem_each (j := i) (t := f'.type) (d := x.1) ?_ ?_ m hm)
   ·rw [List.getElem?_map, Array.getElem?_toList, hf']; rfl
   ·rw [List.getElem?_map, hx']; rfl⟩
end Go.Proofs.YtpafpefealopoaaGreat.Open
end
section
namespace Go.Proofs.YtpafpefealopoaaGreat.PPopMakes
open Go.Proofs.YtpafpefealopoaaGreat.Open Go.Proofs.YtpafpefealopoaaGreatW.PrintWords
theorem oI : qFH (Kd.int .i64) Tryz.prog 3 (fun n => (Lit.int .i64 n).wf = true) := qCK Tryz.underlying3 (by kernel_rfl)
theorem oT : qFH Kd.string Tryz.prog 9 (fun s => s.size ≤ reachBytes) := qDG Tryz.underlying9 (by kernel_rfl)
theorem oB : qFH Kd.bool Tryz.prog 4 (fun _ => True) := opens_bool Tryz.underlying4 (by kernel_rfl)
theorem oL : qFH (Kd.slice 3 (Kd.int .i64)) Tryz.prog 24 (fun l => l.length * Tryz.prog.bytesOf 3 ≤ reachBytes ∧ ∀ x ∈ l, (Lit.int .i64 x).wf = true) := qCU Tryz.underlying24 (by kernel_rfl) oI
def ok58 (x : S58) : Prop := (Lit.int .i64 x.f0).wf = true ∧ (Lit.int .i64 x.f1).wf = true
theorem o58 : qFH k58 Tryz.prog 58 ok58 := qDA (Ok := _) (fun x : S58 => (x.f0, x.f1)) (fun p => ⟨p.1, p.2⟩) (fun _ => rfl) Tryz.underlying58 (by kernel_rfl) rfl (qBK (f := _) rfl rfl oI (qDV (f := _) rfl rfl rfl oI))
def ok60 (x : S60) : Prop := x.f0.size ≤ reachBytes ∧ (Lit.int .i64 x.f1).wf = true ∧ True ∧ (Lit.int .i64 x.f3).wf = true ∧ (Lit.int .i64 x.f4).wf = true ∧ ok58 x.f5
theorem o60 : qFH k60 Tryz.prog 60 ok60 := qDA (Ok := _) (fun x : S60 => (x.f0, x.f1, x.f2, x.f3, x.f4, x.f5)) (fun p => ⟨p.1, p.2.1, p.2.2.1, p.2.2.2.1, p.2.2.2.2.1, p.2.2.2.2.2⟩) (fun _ => rfl) Tryz.underlying60 (by kernel_rfl) rfl (qBK (f := _) rfl rfl oT (qBK (f := _) rfl rfl oI (qBK (f := _) rfl rfl oB (qBK (f := _) rfl rfl oI (qBK (f := _) rfl rfl oI (qDV (f := _) rfl rfl rfl o58))))))
def ok134 (x : S134) : Prop := (Lit.int .i64 x.f0).wf = true ∧ (Lit.int .i64 x.f1).wf = true
theorem o134 : qFH k134 Tryz.prog 134 ok134 := qDA (Ok := _) (fun x : S134 => (x.f0, x.f1)) (fun p => ⟨p.1, p.2⟩) (fun _ => rfl) Tryz.underlying134 (by kernel_rfl) rfl (qBK (f := _) rfl rfl oI (qDV (f := _) rfl rfl rfl oI))
def ok95 (x : S95) : Prop := x.f0.size ≤ reachBytes ∧ (Lit.int .i64 x.f1).wf = true ∧ (Lit.int .i64 x.f2).wf = true ∧ True ∧ (x.f4.length * Tryz.prog.bytesOf 134 ≤ reachBytes ∧ ∀ y ∈ x.f4, ok134 y)
theorem o95 : qFH k95 Tryz.prog 95 ok95 := qDA (Ok := _) (fun x : S95 => (x.f0, x.f1, x.f2, x.f3, x.f4)) (fun p => ⟨p.1, p.2.1, p.2.2.1, p.2.2.2.1, p.2.2.2.2⟩) (fun _ => rfl) Tryz.underlying95 (by kernel_rfl) rfl (qBK (f := _) rfl rfl oT (qBK (f := _) rfl rfl oI (qBK (f := _) rfl rfl oI (qBK (f := _) rfl rfl oB (qDV (f := _) rfl rfl rfl (qCU Tryz.underlying93 (by kernel_rfl) o134))))))
def ok66 (x : S66) : Prop := (Lit.int .i64 x.f0).wf = true ∧ (x.f1.length * Tryz.prog.bytesOf 3 ≤ reachBytes ∧ ∀ n ∈ x.f1, (Lit.int .i64 n).wf = true) ∧ (Lit.int .i64 x.f2).wf = true ∧ (Lit.int .i64 x.f3).wf = true ∧ x.f4.size ≤ reachBytes
theorem o66 : qFH k66 Tryz.prog 66 ok66 := qDA (Ok := _) (fun x : S66 => (x.f0, x.f1, x.f2, x.f3, x.f4)) (fun p => ⟨p.1, p.2.1, p.2.2.1, p.2.2.2.1, p.2.2.2.2⟩) (fun _ => rfl) Tryz.underlying66 (by kernel_rfl) rfl (qBK (f := _) rfl rfl oI (qBK (f := _) rfl rfl oL (qBK (f := _) rfl rfl oI (qBK (f := _) rfl rfl oI (qDV (f := _) rfl rfl rfl oT)))))
def ok114 (x : S114) : Prop := x.f0.size ≤ reachBytes ∧ x.f1.size ≤ reachBytes
theorem o114 : qFH k114 Tryz.prog 114 ok114 := qDA (Ok := _) (fun x : S114 => (x.f0, x.f1)) (fun p => ⟨p.1, p.2⟩) (fun _ => rfl) Tryz.underlying114 (by kernel_rfl) rfl (qBK (f := _) rfl rfl oT (qDV (f := _) rfl rfl rfl oT))
def ok72 (x : S72) : Prop := x.f0.size ≤ reachBytes ∧ x.f1.size ≤ reachBytes ∧ (x.f2.length * Tryz.prog.bytesOf 66 ≤ reachBytes ∧ ∀ y ∈ x.f2, ok66 y) ∧ (x.f3.length * Tryz.prog.bytesOf 66 ≤ reachBytes ∧ ∀ y ∈ x.f3, ok66 y) ∧ (x.f4.length * Tryz.prog.bytesOf 114 ≤ reachBytes ∧ ∀ y ∈ x.f4, ok114 y) ∧ (Lit.int .i64 x.f5).wf = true
theorem o72 : qFH k72 Tryz.prog 72 ok72 := qDA (Ok := _) (fun x : S72 => (x.f0, x.f1, x.f2, x.f3, x.f4, x.f5)) (fun p => ⟨p.1, p.2.1, p.2.2.1, p.2.2.2.1, p.2.2.2.2.1, p.2.2.2.2.2⟩) (fun _ => rfl) Tryz.underlying72 (by kernel_rfl) rfl (qBK (f := _) rfl rfl oT (qBK (f := _) rfl rfl oT (qBK (f := _) rfl rfl (qCU Tryz.underlying68 (by kernel_rfl) o66) (qBK (f := _) rfl rfl (qCU Tryz.underlying68 (by kernel_rfl) o66) (qBK (f := _) rfl rfl (qCU Tryz.underlying70 (by kernel_rfl) o114) (qDV (f := _) rfl rfl rfl oI))))))
def ok76 (x : S76) : Prop := x.f0.size ≤ reachBytes ∧ (Lit.int .i64 x.f1).wf = true ∧ (Lit.int .i64 x.f2).wf = true ∧ (x.f3.length * Tryz.prog.bytesOf 60 ≤ reachBytes ∧ ∀ y ∈ x.f3, ok60 y) ∧ (x.f4.length * Tryz.prog.bytesOf 95 ≤ reachBytes ∧ ∀ y ∈ x.f4, ok95 y) ∧ (x.f5.length * Tryz.prog.bytesOf 72 ≤ reachBytes ∧ ∀ y ∈ x.f5, ok72 y)
theorem o76 : qFH k76 Tryz.prog 76 ok76 := qDA (Ok := _) (fun x : S76 => (x.f0, x.f1, x.f2, x.f3, x.f4, x.f5)) (fun p => ⟨p.1, p.2.1, p.2.2.1, p.2.2.2.1, p.2.2.2.2.1, p.2.2.2.2.2⟩) (fun _ => rfl) Tryz.underlying76 (by kernel_rfl) rfl (qBK (f := _) rfl rfl oT (qBK (f := _) rfl rfl oI (qBK (f := _) rfl rfl oI (qBK (f := _) rfl rfl (qCU Tryz.underlying69 (by kernel_rfl) o60) (qBK (f := _) rfl rfl (qCU Tryz.underlying74 (by kernel_rfl) o95) (qDV (f := _) rfl rfl rfl (qCU Tryz.underlying73 (by kernel_rfl) o72)))))))
def ok56 (x : S56) : Prop := x.f0.size ≤ reachBytes ∧ (x.f1.length * Tryz.prog.bytesOf 3 ≤ reachBytes ∧ ∀ n ∈ x.f1, (Lit.int .i64 n).wf = true) ∧ (x.f2.length * Tryz.prog.bytesOf 3 ≤ reachBytes ∧ ∀ n ∈ x.f2, (Lit.int .i64 n).wf = true)
theorem o56 : qFH k56 Tryz.prog 56 ok56 := qDA (Ok := _) (fun x : S56 => (x.f0, x.f1, x.f2)) (fun p => ⟨p.1, p.2.1, p.2.2⟩) (fun _ => rfl) Tryz.underlying56 (by kernel_rfl) rfl (qBK (f := _) rfl rfl oT (qBK (f := _) rfl rfl oL (qDV (f := _) rfl rfl rfl oL)))
structure S27 where
 f0 : Int
 f1 : List Int
 f2 : List S56
 f3 : Int
def k27 : Kd S27 := Kd.iso (Kd.pair (Kd.int .i64) (Kd.pair (Kd.slice 3 (Kd.int .i64)) (Kd.pair (Kd.slice 56 k56) (Kd.int .i64)))) (fun x : S27 => (x.f0, x.f1, x.f2, x.f3))
theorem k27_open {w : World} {x : S27} {cs : List Value} (h : k27.K w x cs) : ∃ A1 c1 A2 c2, cs = [.int .i64 x.f0, .slice A1 x.f1.length c1, .slice A2 x.f2.length c2, .int .i64 x.f3] ∧ x.f1.length ≤ c1 ∧ (Kd.int .i64).C w A1 x.f1.length x.f1 ∧ x.f2.length ≤ c2 ∧ k56.C w A2 x.f2.length x.f2 := by
 obtain ⟨_, _, rfl, rfl, ⟨_, _, rfl, ⟨A1, c1, rfl, l1, g1⟩, ⟨_, _, rfl, ⟨A2, c2, rfl, l2, g2⟩, rfl⟩⟩⟩ := h
 exact ⟨A1, c1, A2, c2, rfl, l1, g1, l2, g2⟩
def ok27 (x : S27) : Prop := (Lit.int .i64 x.f0).wf = true ∧ (x.f1.length * Tryz.prog.bytesOf 3 ≤ reachBytes ∧ ∀ n ∈ x.f1, (Lit.int .i64 n).wf = true) ∧ (x.f2.length * Tryz.prog.bytesOf 56 ≤ reachBytes ∧ ∀ y ∈ x.f2, ok56 y) ∧ (Lit.int .i64 x.f3).wf = true
theorem o27 : qFH k27 Tryz.prog 27 ok27 := qDA (Ok := _) (fun x : S27 => (x.f0, x.f1, x.f2, x.f3)) (fun p => ⟨p.1, p.2.1, p.2.2.1, p.2.2.2⟩) (fun _ => rfl) Tryz.underlying27 (by kernel_rfl) rfl (qBK (f := _) rfl rfl oI (qBK (f := _) rfl rfl oL (qBK (f := _) rfl rfl (qCU Tryz.underlying25 (by kernel_rfl) o56) (qDV (f := _) rfl rfl rfl oI))))
theorem oBody : qFH (Kd.slice 76 k76) Tryz.prog 23 (fun l => l.length * Tryz.prog.bytesOf 76 ≤ reachBytes ∧ ∀ x ∈ l, ok76 x) := qCU Tryz.underlying23 (by kernel_rfl) o76
end Go.Proofs.YtpafpefealopoaaGreat.PPopMakes
end
section
namespace Go.Proofs.YtpafpefealopoaaGreat.Pure
open Go.RowKit Go.Proofs.YtpafpefealopoaaGreatW.PrintWords Go.Proofs.YtpafpefealopoaaGreatW.PrintLast Go.Proofs.YtpafpefealopoaaGreatW.PrintMore Go.Proofs.YtpafpefealopoaaGreat.PPopMakes
def Both {α : Type} (g h : Nat → Option α) (Q : α → Prop) : Prop := ∃ r, Ev g r ∧ Ev h r ∧ Q r
theorem Both.now {α : Type} {r : α} {Q : α → Prop} (q : Q r) : Both (fun _ => some r) (fun _ => some r) Q := ⟨r, Ev.now r, Ev.now r, q⟩
theorem Both.succ {α : Type} {g h : Nat → Option α} {Q : α → Prop} (i : Both (fun k => g (k + 1)) (fun k => h (k + 1)) Q) : Both g h Q := by
 obtain ⟨r, h1, h2, q⟩ := i
 exact ⟨r, Ev.step (fun _ => rfl) h1, Ev.step (fun _ => rfl) h2, q⟩
theorem Both.bind {α β γ : Type} {g : Nat → Option β} {h : Nat → Option γ} {f : Nat → β → Option α} {e : Nat → γ → Option α} {Q : α → Prop} {a : β} {c : γ} (h1 : Ev g a) (h2 : Ev h c) (i : Both (fun k => f k a) (fun k => e k c) Q) : Both (fun k => (g k).bind (f k)) (fun k => (h k).bind (e k)) Q := by
 obtain ⟨r, i1, i2, q⟩ := i
 exact ⟨r, Ev.bind h1 i1, Ev.bind h2 i2, q⟩
theorem Both.pos {α : Type} {c d : Prop} [Decidable c] [Decidable d] {a b g h : Nat → Option α} {Q : α → Prop} (hc : c) (hd : d) (i : Both a g Q) : Both (fun k => if c then a k else b k) (fun k => if d then g k else h k) Q := by
 simp only [if_pos hc, if_pos hd]; exact i
theorem Both.neg {α : Type} {c d : Prop} [Decidable c] [Decidable d] {a b g h : Nat → Option α} {Q : α → Prop} (hc : ¬ c) (hd : ¬ d) (i : Both b h Q) : Both (fun k => if c then a k else b k) (fun k => if d then g k else h k) Q := by
 simp only [if_neg hc, if_neg hd]; exact i
theorem Both.np {α : Type} {c d : Prop} [Decidable c] [Decidable d] {a b g h : Nat → Option α} {Q : α → Prop} (hc : ¬ c) (hd : d) (i : Both b g Q) : Both (fun k => if c then a k else b k) (fun k => if d then g k else h k) Q := by
 simp only [if_neg hc, if_pos hd]; exact i
theorem Both.pn {α : Type} {c d : Prop} [Decidable c] [Decidable d] {a b g h : Nat → Option α} {Q : α → Prop} (hc : c) (hd : ¬ d) (i : Both a h Q) : Both (fun k => if c then a k else b k) (fun k => if d then g k else h k) Q := by
 simp only [if_pos hc, if_neg hd]; exact i
abbrev Vw := Int × List S83 × List S86
theorem in_B {b : List S76} (hb : Sz b) {sizes : List Int} {inp : List S56} (hg : GoodM b sizes inp) (day opn dy n who : Int) (P : List S83) (Q : Vw → Prop) (N0 : Nat) (hN : N0 ≤ 1000)
  (next : ∀ s D, D.length ≤ N0 + inp.length → Both (fun k => qC0.l0 k b s n (wrap64 (who + 1)) day sizes inp opn dy P D) (fun k => qAP.l0 k b n (wrap64 (who + 1)) day sizes inp opn s dy P D) Q) :
  ∀ d i s D, inp.length - i = d → i ≤ inp.length → D.length ≤ N0 + i → Both (fun k => qC0.l1 k b s who n who inp (inp.length : Int) (i : Int) day sizes inp opn dy P D) (fun k => qAP.l1 k b n who inp (inp.length : Int) (i : Int) day sizes inp opn s dy P D) Q := by
 intro d
 induction d with
 | zero =>
  intro i s D hd hi hD
  refine Both.succ ?_
  simp only [qC0.l1, qAP.l1]
  exact Both.neg (by omega) (by omega) (next s D (by omega))
 | succ d ih =>
  intro i s D hd hi hD
  have hl := hg.inl
  have hlt : i < inp.length := by omega
  have hD2 : D.length < 3518437208883 := Nat.lt_of_le_of_lt hD (by omega)
  have ew : wrap64 ((i : Int) + 1) = ((i + 1 : Nat) : Int) := by rw [w64 (by omega) (by omega)]; rfl
  obtain ⟨g1, g2, g3⟩ := hg.ins _ (qDM z56 hlt)
  obtain ⟨o, b1, b2, _⟩ := below_is s 1000000 (by omega) (by omega)
  obtain ⟨x, hx, e1, e2⟩ := pick_both (IntKind.u64.wrap (s + 11400714819323198485)) (inp.getD i z56).f2 g2 g3
  refine Both.succ ?_
  simp only [qC0.l1, qAP.l1, rd56, b1, b2, Option.bind_some]
  refine Both.pos (by omega) (by omega) (Both.pos (by omega) (by omega) (Both.pos (by omega) (by omega) (Both.bind e1 e2 ?_)))
  dsimp only
  rw [ew]
  clear e1 e2 b1 b2 ew
  by_cases h : (o : Int) < opn
  ·refine Both.pn h (by omega) ?_
   exact ih (i + 1) _ D (by omega) (by omega) (by omega)
  ·refine Both.np h (by omega) (Both.bind (at_ev hb _) (at_ref hb _) ?_)
   have hx2 : (x : Int) < ((inp.getD i z56).f1.length : Int) := by omega
   have hx3 : 0 ≤ (x : Int) := Int.natCast_nonneg x
   refine Both.pos hx3 hx3 (Both.pos hx2 hx2 (Both.pos hD2 hD2 ?_))
   exact ih (i + 1) _ _ (by omega) (by omega) (by simp; omega)
theorem out_B {b : List S76} (hb : Sz b) {sizes : List Int} {inp : List S56} (hg : GoodM b sizes inp) (day opn dy : Int) (n : Nat) (hn : n ≤ 6) :
  ∀ d i s P D, n - i = d → i ≤ n → P.length = i → D.length ≤ i * inp.length → Both (fun k => qC0.l0 k b s (n : Int) (i : Int) day sizes inp opn dy P D) (fun k => qAP.l0 k b (n : Int) (i : Int) day sizes inp opn s dy P D) (fun r => r.2.1.length ≤ 6 ∧ r.2.2.length ≤ 240) := by
 intro d
 induction d with
 | zero =>
  intro i s P D hd hi hP hD
  refine Both.succ ?_
  simp only [qC0.l0, qAP.l0]
  have h1 : i * inp.length ≤ 6 * 40 := Nat.mul_le_mul (by omega) hg.inl
  exact Both.neg (by omega) (by omega) (Both.now ⟨by simp only; omega, by simp only; omega⟩)
 | succ d ih =>
  intro i s P D hd hi hP hD
  have h1 : i * inp.length ≤ 6 * 40 := Nat.mul_le_mul (by omega) hg.inl
  refine Both.succ ?_
  simp only [qC0.l0, qAP.l0]
  refine Both.pos (by omega) (by omega) (Both.pos (by omega) (by omega) (in_B hb hg day opn dy n i _ _ (i * inp.length) (by omega) (fun s' D' hD' => ?_) inp.length 0 s D rfl (Nat.zero_le _) (by omega)))
  rw [w64 (by omega) (by omega)]
  exact ih (i + 1) s' _ D' (by omega) (by omega) (by simp [hP]) (by rw [Nat.add_mul, Nat.one_mul]; exact hD')
def Lens (v : Vw) : Prop := v.2.1.length ≤ 6 ∧ v.2.2.length ≤ 240
theorem home_B {b : List S76} (hb : Sz b) {sizes : List Int} {inp : List S56} (hg : GoodM b sizes inp) (day opn seed i : Int) :
  ∃ t, qE6.f seed i = some t ∧ Both (fun k => qC0.f k b day sizes inp opn t) (fun k => qAP.f k b day sizes inp opn seed i) Lens := by
 obtain ⟨t, e1, e2⟩ := split_both seed i
 have h6 := hg.sz
 obtain ⟨x, hx, p1, p2⟩ := pick_both t sizes (by omega) hg.sw
 refine ⟨t, e1, ?_⟩
 unfold qC0.f qAP.f
 simp only [e2, Option.bind_some]
 refine Both.bind p1 p2 ?_
 dsimp only
 rw [w64 (by omega) (by omega)]
 exact out_B hb hg day opn day (x + 1) (by omega) (x + 1) 0 _ [] [] rfl (Nat.zero_le _) rfl (Nat.zero_le _)
theorem rd35 (l : List S35) (i : Nat) : qE0 l (i : Int) = l.getD i z35 := by simp [qE0]
def IsHome (b : List S76) (day : Int) (sizes : List Int) (inp : List S56) (opn seed i : Int) (v : Vw) : Prop := Ev (fun k => qAP.f k b day sizes inp opn seed i) v ∧ Lens v
theorem one_T {b : List S76} (hb : Sz b) {c : Int} (hc : qCJ.f b = some c) (day : Int) (sizes : List Int) (inp : List S56) (opn seed i : Int) :
  T (fun k => qD8.f k b day sizes inp opn seed i) (fun r => r.2.2.2 = (if mf b c day sizes inp opn = 0 ∧ (i < 0 ∨ 999 < i) then 1 else mf b c day sizes inp opn) ∧ (r.2.2.2 = 0 → IsHome b day sizes inp opn seed i (r.1, r.2.1, r.2.2.1)) ∧ (r.2.2.2 ≠ 0 → r = (0, [], [], r.2.2.2))) := by
 unfold qD8.f
 refine T.bind (chk_T hb hc day sizes inp opn) fun m hm => ?_
 rw [← hm]
 have hgood : m = 0 → GoodM b sizes inp := fun e => mf_good (hm ▸ e)
 refine T.ite (fun h => ?_) fun h => T.some ⟨by rw [if_neg (fun g => h g.1)], fun e => absurd e h, fun _ => rfl⟩
 have hj : ∀ bb : Bool, (bb = true ↔ i < 0 ∨ 999 < i) → T (fun k => qD8.j0 k b seed i bb day sizes inp opn) (fun r => r.2.2.2 = (if m = 0 ∧ (i < 0 ∨ 999 < i) then 1 else m) ∧ (r.2.2.2 = 0 → IsHome b day sizes inp opn seed i (r.1, r.2.1, r.2.2.1)) ∧ (r.2.2.2 ≠ 0 → r = (0, [], [], r.2.2.2))) := fun bb hbb => by
  refine T.succ ?_
  simp only [qD8.j0]
  refine T.ite (fun g => T.some ⟨by rw [if_pos ⟨h, hbb.1 g⟩], fun e => (by cases e), fun _ => rfl⟩) fun g => ?_
  obtain ⟨t, e1, v, v1, v2, hl⟩ := home_B hb (hgood h) day opn seed i
  rw [e1]
  simp only [Option.bind_some]
  exact evB v1 (T.some ⟨by rw [if_neg (fun q => g (hbb.2 q.2)), h], fun _ => ⟨v2, hl⟩, fun e => absurd rfl e⟩)
 exact T.ite (fun g => hj _ ⟨fun _ => .inl g, fun _ => rfl⟩) fun g => hj _ ⟨fun e => .inr (by have := of_decide_eq_true e; omega), fun e => decide_eq_true (by omega)⟩
theorem make_T {b : List S76} (hb : Sz b) {c : Int} (hc : qCJ.f b = some c) (day : Int) (sizes : List Int) (inp : List S56) (opn seed n : Int) :
  T (fun k => qC8.f k b day sizes inp opn seed n) (fun r => r.2 = (if mf b c day sizes inp opn = 0 ∧ (n < 0 ∨ 1000 < n) then 1 else mf b c day sizes inp opn) ∧ (r.2 ≠ 0 → r.1 = []) ∧ (r.2 = 0 → (r.1.length : Int) = n) ∧ r.1.length ≤ 1000 ∧ ∀ j, j < r.1.length → IsHome b day sizes inp opn seed j ((r.1.getD j z35).f0, (r.1.getD j z35).f1, (r.1.getD j z35).f2)) := by
 unfold qC8.f
 refine T.bind (chk_T hb hc day sizes inp opn) fun m hm => ?_
 rw [← hm]
 have hgood : m = 0 → GoodM b sizes inp := fun e => mf_good (hm ▸ e)
 refine T.ite (fun h => ?_) fun h => T.some ⟨by rw [if_neg (fun g => h g.1)], fun _ => rfl, fun e => absurd e h, Nat.zero_le _, fun j hj => absurd hj (Nat.not_lt_zero _)⟩
 have hj : ∀ bb : Bool, (bb = true ↔ n < 0 ∨ 1000 < n) → T (fun k => qC8.j0 k b seed n bb day sizes inp opn) (fun r => r.2 = (if m = 0 ∧ (n < 0 ∨ 1000 < n) then 1 else m) ∧ (r.2 ≠ 0 → r.1 = []) ∧ (r.2 = 0 → (r.1.length : Int) = n) ∧ r.1.length ≤ 1000 ∧ ∀ j, j < r.1.length → IsHome b day sizes inp opn seed j ((r.1.getD j z35).f0, (r.1.getD j z35).f1, (r.1.getD j z35).f2)) := fun bb hbb => by
  refine T.succ ?_
  simp only [qC8.j0]
  refine T.ite (fun g => T.some ⟨by rw [if_pos ⟨h, hbb.1 g⟩], fun _ => rfl, fun e => (by cases e), Nat.zero_le _, fun j hj => absurd hj (Nat.not_lt_zero _)⟩) fun g => ?_
  have hn : ¬ (n < 0 ∨ 1000 < n) := fun q => g (hbb.2 q)
  obtain ⟨q, rfl⟩ := Int.eq_ofNat_of_zero_le (show 0 ≤ n by omega)
  rw [if_neg (fun q => hn q.2), h]
  have loop : ∀ d i L, q - i = d → i ≤ q → L.length = i → (∀ j, j < i → IsHome b day sizes inp opn seed j ((L.getD j z35).f0, (L.getD j z35).f1, (L.getD j z35).f2)) → T (fun k => qC8.l0 k b seed L (q : Int) (i : Int) day sizes inp opn) (fun r => r.2 = 0 ∧ (r.2 ≠ 0 → r.1 = []) ∧ (r.2 = 0 → (r.1.length : Int) = (q : Int)) ∧ r.1.length ≤ 1000 ∧ ∀ j, j < r.1.length → IsHome b day sizes inp opn seed j ((r.1.getD j z35).f0, (r.1.getD j z35).f1, (r.1.getD j z35).f2)) := fun d => by
   induction d with
   | zero =>
    intro i L hd hi hL hall
    refine T.succ ?_
    simp only [qC8.l0]
    exact T.ng (T.some ⟨rfl, fun e => absurd rfl e, fun _ => by simp only; omega, by simp only; omega, fun j hj => hall j (by simp only at hj; omega)⟩)
   | succ d ih =>
    intro i L hd hi hL hall
    refine T.succ ?_
    simp only [qC8.l0]
    obtain ⟨t, e1, v, v1, v2, hl⟩ := home_B hb (hgood h) day opn seed i
    rw [e1]
    simp only [Option.bind_some]
    refine T.po (evB v1 (T.po ?_))
    rw [w64 (by omega) (by omega)]
    refine ih (i + 1) _ (by omega) (by omega) (by simp [hL]) fun j hj => ?_
    rcases Nat.lt_or_ge j i with hji | hji
    ·have e : (L ++ [(⟨v.1, v.2.1, v.2.2⟩ : S35)]).getD j z35 = L.getD j z35 := by
      rw [List.getD_eq_getElem?_getD, List.getElem?_append_left (by omega), ← List.getD_eq_getElem?_getD]
     rw [e]
     exact hall j hji
    ·obtain rfl : j = i := by omega
     have e : (L ++ [(⟨v.1, v.2.1, v.2.2⟩ : S35)]).getD j z35 = ⟨v.1, v.2.1, v.2.2⟩ := by
      rw [List.getD_eq_getElem?_getD, List.getElem?_append_right (by omega), hL, Nat.sub_self]; rfl
     rw [e]
     exact ⟨v2, hl⟩
  exact loop q 0 [] rfl (Nat.zero_le _) rfl fun j hj => absurd hj (Nat.not_lt_zero _)
 exact T.ite (fun g => hj _ ⟨fun _ => .inl g, fun _ => rfl⟩) fun g => hj _ ⟨fun e => .inr (by have := of_decide_eq_true e; omega), fun e => decide_eq_true (by omega)⟩
theorem same_T (v : Vw) (hl : Lens v) : T (fun k => qCC.f k v.1 v.2.1 v.2.2 v.1 v.2.1 v.2.2) (fun r => r = true) := by
 obtain ⟨h6, h240⟩ := hl
 have hp : T (fun k => qD1.f k v.2.1 v.2.1) (fun r => r = true) := by
  unfold qD1.f
  refine T.pos rfl (T.loop (σ := Unit) (g := fun k _ i => qD1.l0 k v.2.1 v.2.1 (v.2.1.length : Int) i) (n := v.2.1.length) (by omega) (I := fun _ _ => True) (fun _ _ => ?_) (fun i _ hi _ next => ?_) v.2.1.length 0 () rfl (Nat.zero_le _) trivial)
  ·refine T.succ ?_
   simp only [qD1.l0]
   exact T.ng (T.some rfl)
  ·refine T.succ ?_
   simp only [qD1.l0]
   exact T.po (T.po (T.po (T.po (T.neg (by simp) (next () trivial)))))
 have hd : T (fun k => qD7.f k v.2.2 v.2.2) (fun r => r = true) := by
  unfold qD7.f
  refine T.pos rfl (T.loop (σ := Unit) (g := fun k _ i => qD7.l0 k v.2.2 v.2.2 (v.2.2.length : Int) i) (n := v.2.2.length) (by omega) (I := fun _ _ => True) (fun _ _ => ?_) (fun i _ hi _ next => ?_) v.2.2.length 0 () rfl (Nat.zero_le _) trivial)
  ·refine T.succ ?_
   simp only [qD7.l0]
   exact T.ng (T.some rfl)
  ·refine T.succ ?_
   simp only [qD7.l0]
   exact T.po (T.po (T.po (T.po (T.neg (by simp) (next () trivial)))))
 unfold qCC.f
 refine T.pos rfl (T.bind hp fun r hr => T.pos hr (T.bind hd fun r hr => T.some hr))
theorem mem_T (L : List S35) (hl : L.length ≤ 1000) : T (fun k => qCG.f k L) (fun r => r = memF L) := by
 unfold qCG.f
 refine T.loop (σ := Int) (g := fun k s i => qCG.l0 k s L (L.length : Int) i) (n := L.length) (by omega) (I := fun i s => s = memF (L.take i)) (fun s hs => ?_) (fun i s hi hs next => ?_) L.length 0 0 rfl (Nat.zero_le _) rfl
 ·refine T.succ ?_
  simp only [qCG.l0]
  exact T.ng (T.some (by rw [hs, List.take_length]))
 ·refine T.succ ?_
  simp only [qCG.l0, rd35]
  refine T.po (T.po (T.po (next _ ?_)))
  rw [memF_succ L i hi, hs, rd35]
def sLaw : ByteArray := ⟨#[108, 97, 119]⟩
def sIn : ByteArray := ⟨#[105, 110]⟩
def sOut : ByteArray := ⟨#[111, 117, 116]⟩
def sA : ByteArray := ⟨#[97]⟩
def expr5 : List S66 := [⟨1, [], 0, 0, sIn⟩, ⟨0, [], 5, 0, ⟨#[]⟩⟩, ⟨10, [0, 1], 0, 0, ⟨#[]⟩⟩]
def art5 : S72 := ⟨sA, sOut, [], expr5, [], 0⟩
def flat5 : List S76 := [⟨sLaw, 0, 0, [⟨sIn, 5, true, 0, 9, ⟨0, 0⟩⟩, ⟨sOut, 5, false, 0, 0, ⟨0, 0⟩⟩], [], [art5]⟩]
theorem flat_is : qE4.f 0 = some flat5 := rfl
theorem lim5 : limitsF flat5 = some 0 := Gen.lim_eq (F := fun k => qBM.f k flat5) (fun k => qBM.mono _ _) (k := 10) (by kernel_rfl)
theorem parts5 : qBL.f flat5 = some 0 := by kernel_rfl
theorem art5_is : articleF flat5 art5 = some 0 := Gen.lim_eq (F := fun k => qBI.f k flat5 art5.f0 art5.f1 art5.f2 art5.f3 art5.f4 art5.f5) (fun k => qBI.mono _ _ _ _ _ _ _ _) (k := 60) (by kernel_rfl)
theorem over5 : overF flat5 sLaw art5 = some 0 := Gen.lim_eq (F := fun k => qBJ.f k flat5 sLaw art5.f0 art5.f0 art5.f1 art5.f2 art5.f3 art5.f4 art5.f5) (fun k => qBJ.mono _ _ _ _ _ _ _ _ _ _) (k := 5) (by kernel_rfl)
theorem add5 : ¬ addR [] sA ≠ 0 := fun h => h (by kernel_rfl)
theorem acts5 : qEE flat5 flat5 [] [] = some (0, [⟨sLaw, sA⟩], [(⟨sLaw, sA⟩, [])]) := by
 have h1 : chk_in flat5 sLaw [art5] [] [] [] = some (0, [⟨sLaw, sA⟩], [(⟨sLaw, sA⟩, [])]) := by
  rw [chk_in, if_pos ⟨by simp, by simp, by simp, by decide, by decide⟩, show art5.f0 = sA from rfl, if_neg add5, art5_is, Option.bind_some, if_neg (by decide), chk_in]
  rfl
 show (chk_in flat5 sLaw [art5] [] [] []).bind _ = _
 rw [h1]
 rfl
theorem overs5 : qDO flat5 flat5 = some 0 := by
 have h1 : qEN flat5 sLaw [art5] = some 0 := by
  rw [qEN, over5]
  rfl
 show (qEN flat5 sLaw [art5]).bind _ = _
 rw [h1]
 rfl
theorem names5 : (Gen.lim fun k => qAU.f k expr5) = some ([sIn], []) := Gen.lim_eq (F := fun k => qAU.f k expr5) (fun k => qAU.mono _ _) (k := 20) (by kernel_rfl)
theorem names0 : (Gen.lim fun k => qAU.f k []) = some ([], []) := Gen.lim_eq (F := fun k => qAU.f k []) (fun k => qAU.mono _ _) (k := 5) (by kernel_rfl)
theorem looks5 : qCM.f flat5 = some [(sOut, [sIn])] := by
 have h1 : qE7 [art5] [] = some [(sOut, [sIn])] := by
  rw [qE7, if_pos (by decide), if_pos (by decide), show art5.f2 = [] from rfl, show art5.f3 = expr5 from rfl, names0, names5, Option.bind_some, Option.bind_some, if_pos (by decide), qE7]
  rfl
 show (qE7 [art5] []).bind _ = _
 rw [h1]
 rfl
theorem reach_rank {U : Type} {next : U → List U} (rank : U → Nat) (h : ∀ y z, z ∈ next y → rank z < rank y) : ∀ (n : Nat) (x y : U), Dfs.reachN next n x y → rank y ≤ rank x
 | 0, x, y, e => by cases e; exact Nat.le_refl _
 | n + 1, x, y, ⟨u, hu, r⟩ => by
  have h1 := h x u hu
  have h2 := reach_rank rank h n u y r
  omega
theorem cyc_none {U : Type} {next : U → List U} (rank : U → Nat) (h : ∀ y z, z ∈ next y → rank z < rank y) (x : U) : ¬ Dfs.Cyc next x := by
 rintro ⟨y, z, _, hz, ⟨n, r⟩⟩
 have h1 := h y z hz
 have h2 := reach_rank rank h n z y r
 omega
theorem check5 : qCJ.f flat5 = some 0 := by
 unfold qCJ.f
 rw [lim5, Option.bind_some, if_neg (by decide), parts5, Option.bind_some, if_neg (by decide), acts5, Option.bind_some]
 unfold chk_k1
 rw [if_neg (by decide), overs5, Option.bind_some]
 unfold chk_k2
 rw [if_neg (by decide)]
 unfold chk_end
 rw [if_pos ⟨by decide, by decide⟩, if_neg ?_, looks5, Option.bind_some]
 ·unfold chk_last
  rw [if_pos ⟨by decide, by decide, by decide⟩, if_neg ?_]
  rintro ⟨s, _, hc⟩
  refine cyc_none (fun s => if s = sOut then 1 else 0) (fun y z hz => ?_) s hc
  obtain ⟨p, hp, hz⟩ := List.mem_flatMap.1 hz
  obtain ⟨hp1, hp2⟩ := List.mem_filter.1 hp
  obtain rfl := List.mem_singleton.1 hp1
  obtain rfl := List.mem_singleton.1 hz
  have hp2 : sOut = y := of_decide_eq_true hp2
  rw [if_pos hp2.symm, if_neg (by decide)]
  decide
 ·rintro ⟨x, _, hc⟩
  refine cyc_none (fun _ => 0) (fun y z hz => ?_) x hc
  unfold lookO at hz
  cases hf : List.find? (fun p : S114 × List S114 => decide (p.1 = y)) [((⟨sLaw, sA⟩ : S114), ([] : List S114))] with
  | none => rw [hf] at hz; cases hz
  | some q =>
   have hq := List.mem_of_find?_eq_some hf
   obtain rfl := List.mem_singleton.1 hq
   rw [hf] at hz
   cases hz
theorem sx5 : Sx flat5 where
 acts := by decide
 attrs := by decide
 tabs := by decide
 arts := by decide
 steps := by intro a ha t ht; obtain rfl := List.mem_singleton.1 ha; cases ht
 aname := by decide
 xname := by intro a ha x hx; obtain rfl := List.mem_singleton.1 ha; obtain rfl := List.mem_singleton.1 hx; decide
 refs := by intro a ha x hx r hr; obtain rfl := List.mem_singleton.1 ha; obtain rfl := List.mem_singleton.1 hx; cases hr
 cond := by intro a ha x hx r hr; obtain rfl := List.mem_singleton.1 ha; obtain rfl := List.mem_singleton.1 hx; cases hr
 then_ := by
  intro a ha x hx r hr
  obtain rfl := List.mem_singleton.1 ha
  obtain rfl := List.mem_singleton.1 hx
  rcases List.mem_cons.1 hr with rfl | hr
  ·decide
  rcases List.mem_cons.1 hr with rfl | hr
  ·decide
  obtain rfl := List.mem_singleton.1 hr
  decide
theorem len_of {n B : Nat} (h : n * B ≤ reachBytes) (hB : 1 ≤ B) : n ≤ 140737488355328 := by
 have h1 : n * 1 ≤ n * B := Nat.mul_le_mul_left _ hB
 have h2 : reachBytes = 140737488351232 := by decide
 omega
theorem size_of {n : Nat} (h : n ≤ reachBytes) : n ≤ maxLen := Nat.le_trans h (by decide)
theorem sx_of {b : List S76} (h : b.length * Tryz.prog.bytesOf 76 ≤ reachBytes ∧ ∀ y ∈ b, ok76 y) : Sx b ∧ ∀ a, a ∈ b → a.f3.length ≤ 140737488355328 := by
 have b48 : 1 ≤ Tryz.prog.bytesOf 76 := by decide +kernel
 have b83 : 1 ≤ Tryz.prog.bytesOf 60 := by decide +kernel
 have b69 : 1 ≤ Tryz.prog.bytesOf 95 := by decide +kernel
 have b54 : 1 ≤ Tryz.prog.bytesOf 72 := by decide +kernel
 have b76 : Tryz.prog.bytesOf 134 = 16 := by decide +kernel
 have b3 : Tryz.prog.bytesOf 3 = 8 := by decide +kernel
 have hr : reachBytes = 140737488351232 := by decide
 have h3 : ∀ a, a ∈ b → a.f3.length ≤ 140737488355328 := fun a ha => by
  obtain ⟨_, _, _, ⟨g, _⟩, _, _⟩ := h.2 a ha
  exact len_of g b83
 refine ⟨⟨⟨?_, ?_, ?_, ?_, ?_⟩, ?_, ?_, ?_, ?_, ?_⟩, h3⟩
 ·have := len_of h.1 b48
  omega
 ·intro a ha
  have := h3 a ha
  omega
 ·intro a ha
  obtain ⟨_, _, _, _, ⟨g, _⟩, _⟩ := h.2 a ha
  have := len_of g b69
  omega
 ·intro a ha
  obtain ⟨_, _, _, _, _, ⟨g, _⟩⟩ := h.2 a ha
  have := len_of g b54
  omega
 ·intro a ha t ht
  obtain ⟨_, _, _, _, ⟨_, g⟩, _⟩ := h.2 a ha
  obtain ⟨_, _, _, _, ⟨g, _⟩⟩ := g t ht
  rw [b76] at g
  omega
 ·intro a ha
  obtain ⟨g, _⟩ := h.2 a ha
  exact size_of g
 ·intro a ha x hx
  obtain ⟨_, _, _, _, _, ⟨_, g⟩⟩ := h.2 a ha
  obtain ⟨g1, g2, _⟩ := g x hx
  exact ⟨size_of g1, size_of g2⟩
 ·intro a ha x hx r hr
  obtain ⟨_, _, _, _, _, ⟨_, g⟩⟩ := h.2 a ha
  obtain ⟨_, _, _, _, ⟨_, g⟩, _⟩ := g x hx
  obtain ⟨g1, g2⟩ := g r hr
  exact ⟨size_of g1, size_of g2⟩
 ·intro a ha x hx n hn
  obtain ⟨_, _, _, _, _, ⟨_, g⟩⟩ := h.2 a ha
  obtain ⟨_, _, ⟨_, g⟩, _⟩ := g x hx
  obtain ⟨_, ⟨g1, _⟩, _, _, g2⟩ := g n hn
  rw [b3] at g1
  exact ⟨size_of g2, by omega⟩
 ·intro a ha x hx n hn
  obtain ⟨_, _, _, _, _, ⟨_, g⟩⟩ := h.2 a ha
  obtain ⟨_, _, _, ⟨_, g⟩, _⟩ := g x hx
  obtain ⟨_, ⟨g1, _⟩, _, _, g2⟩ := g n hn
  rw [b3] at g1
  exact ⟨size_of g2, by omega⟩
theorem all_k {P : Nat → Nat → Prop} : ∀ n, (∀ j, j < n → ∃ K, ∀ k, K ≤ k → P j k) → ∃ K, ∀ k, K ≤ k → ∀ j, j < n → P j k
 | 0, _ => ⟨0, fun k _ j hj => absurd hj (Nat.not_lt_zero _)⟩
 | n + 1, h => by
  obtain ⟨K1, h1⟩ := all_k n fun j hj => h j (by omega)
  obtain ⟨K2, h2⟩ := h n (by omega)
  refine ⟨K1 + K2, fun k hk j hj => ?_⟩
  rcases Nat.lt_or_ge j n with g | g
  ·exact h1 k (by omega) j g
  ·obtain rfl : j = n := by omega
   exact h2 k (by omega)
theorem flat0_chk : Ev (fun k => qAV.f k flat5 0 [] [] 0) 11 := by
 obtain ⟨r, h, e⟩ := chk_T sx5.toSz check5 0 [] [] 0
 have e2 : mf flat5 0 0 [] [] 0 = 11 := by
  unfold mf
  rw [if_pos rfl, if_neg (by decide), if_neg (by decide)]
  have e3 : wts [] = 11 := by decide
  rw [e3]; decide
 rw [← e2, ← e]
 exact h
theorem PopMakes (l0 : List S76) (x : S27) (h0 : l0.length * Tryz.prog.bytesOf 76 ≤ reachBytes ∧ ∀ y ∈ l0, ok76 y) (h1 : ok27 x) (a2 a3 a4 : Int) : ∃ k, qC4.F k l0 x.f0 x.f1 x.f2 x.f3 a2 a3 a4 := by
 obtain ⟨hx, h3⟩ := sx_of h0
 have b3 : Tryz.prog.bytesOf 3 = 8 := by decide +kernel
 have hr : reachBytes = 140737488351232 := by decide
 have hv : ∀ y, y ∈ x.f2 → y.f1.length ≤ 140737488355328 := fun y hy => by
  obtain ⟨_, _, ⟨_, g⟩, _⟩ := h1
  obtain ⟨_, ⟨g1, _⟩, _⟩ := g y hy
  rw [b3] at g1
  omega
 obtain ⟨c, hc, _⟩ := check_S l0 hx h3
 obtain ⟨m, e3, hm⟩ := mf_T hx.toSz hc x.f0 x.f1 x.f2 x.f3 hv
 obtain ⟨m2, e6, hm2⟩ := chk_T hx.toSz hc x.f0 x.f1 x.f2 x.f3
 obtain rfl : m2 = m := by rw [hm, hm2]
 obtain ⟨⟨v0, v1, v2, f⟩, e4, o1, o2, o3⟩ := one_T hx.toSz hc x.f0 x.f1 x.f2 x.f3 a2 a3
 obtain ⟨⟨L, hh⟩, e5, p1, p2, p3, p4, p5⟩ := make_T hx.toSz hc x.f0 x.f1 x.f2 x.f3 a2 a4
 rw [← hm2] at o1 p1
 simp only at o1 o2 o3 p1 p2 p3 p4 p5
 have hl : Lens (v0, v1, v2) := by
  by_cases h : f = 0
  ·exact (o2 h).2
  ·have := o3 h
   simp only [Prod.mk.injEq] at this
   obtain ⟨rfl, rfl, rfl, _⟩ := this
   exact ⟨Nat.zero_le _, Nat.zero_le _⟩
 obtain ⟨_, e11, rfl⟩ := same_T (v0, v1, v2) hl
 obtain ⟨_, e13, rfl⟩ := mem_T L p4
 have e9 : ∃ K, ∀ k, K ≤ k → f = 0 → qAP.f k l0 x.f0 x.f1 x.f2 x.f3 a2 a3 = some (v0, v1, v2) := by
  by_cases h : f = 0
  ·obtain ⟨K, hK⟩ := (o2 h).1
   exact ⟨K, fun k hk _ => hK k hk⟩
  ·exact ⟨0, fun k _ e => absurd e h⟩
 have e12 : ∃ K, ∀ k, K ≤ k → ∀ j : Nat, j < L.length → hh = 0 ∧ ∃ y0 y1 y2, qAP.f k l0 x.f0 x.f1 x.f2 x.f3 a2 (j : Int) = some (y0, y1, y2) ∧ qCC.f k (qE0 L (j : Int)).f0 (qE0 L (j : Int)).f1 (qE0 L (j : Int)).f2 y0 y1 y2 = some true := by
  refine all_k L.length fun j hj => ?_
  have hz : hh = 0 := by
   by_cases h : hh = 0
   ·exact h
   ·rw [p2 h] at hj
    exact absurd hj (Nat.not_lt_zero _)
  obtain ⟨q1, q2⟩ := p5 j hj
  obtain ⟨_, q3, rfl⟩ := same_T _ q2
  obtain ⟨K1, hK1⟩ := q1
  obtain ⟨K2, hK2⟩ := q3
  refine ⟨K1 + K2, fun k hk => ⟨hz, _, _, _, hK1 k (by omega), ?_⟩⟩
  rw [rd35]
  exact hK2 k (by omega)
 obtain ⟨k2, q2⟩ := flat0_chk
 obtain ⟨k3, q3⟩ := e3
 obtain ⟨k4, q4⟩ := e4
 obtain ⟨k5, q5⟩ := e5
 obtain ⟨k6, q6⟩ := e6
 obtain ⟨k9, q9⟩ := e9
 obtain ⟨k11, q11⟩ := e11
 obtain ⟨k12, q12⟩ := e12
 obtain ⟨k13, q13⟩ := e13
 refine ⟨k2 + k3 + k4 + k5 + k6 + k9 + k11 + k12 + k13, m2, f, hh, v0, v1, v2, L, flat5, v0, v1, v2, flat_is, q2 _ (by omega), q3 _ (by omega), q4 _ (by omega), q5 _ (by omega), q6 _ (by omega), o1, p1, q9 _ (by omega), fun h => ?_, q11 _ (by omega), q12 _ (by omega), q13 _ (by omega), p3⟩
 have := o3 h
 simp only [Prod.mk.injEq] at this
 exact ⟨this.1, this.2.1, this.2.2.1⟩
end Go.Proofs.YtpafpefealopoaaGreat.Pure
end
section
namespace Go.Proofs.YtpafpefealopoaaGreat.popMakes
open Go.ChangeShapes Go.WideShapes Go.ChangeAt Go.RowKit Go.Proofs.YtpafpefealopoaaGreat.Open Go.Proofs.YtpafpefealopoaaGreatW.PrintWords
open Go.Proofs.YtpafpefealopoaaGreat.PPopMakes (oBody o27 ok27 ok76 k27_open k76)
theorem own : ownKnob Tryz.prog.godebug = none := by kernel_rfl
theorem laidOut : laidOutB Tryz.prog = true := by kernel_rfl
set_option maxRecDepth 100000 in
theorem lifted (os : Os) (started : os.Started) (H : Type) (enc : TypeId × Value → H) :
  ReturnsInHanded {} Tryz.checked os 3 .any (Rows.popMakesSpec.pre6 enc Tryz.prog Tryz.f3 Rows.popMakesRow.domain false) (Rows.popMakesSpec.post enc Tryz.prog Tryz.f3 false true false false) := by
 refine returnsInHanded_of_change_sized (C := Tryz.checked) own started (by kernel_rfl) Tryz.func3
  (ChangeSpec.witness6 (enc := enc) (C := Tryz.checked) false ⟨#[], #[.slice none 0 0, .agg #[.int .i64 0, .slice none 0 0, .slice none 0 0, .int .i64 0], .int .u64 0, .int .i64 0, .int .i64 0], []⟩ 8 (by kernel_rfl) (by kernel_rfl) (by kernel_rfl) (by kernel_rfl)) ?_
 intro W base args ds gs before hval0 hW hcnd hsz0 _
 have hsz : (DataW.weightsEach Tryz.prog (Tryz.f3.params.toList ++ Rows.popMakesSpec.plain.varTypes Tryz.prog) (ds ++ gs)).all (· ≤ reachBytes) = true := hsz0
 have hval : ∀ (j : Nat) t v, Tryz.f3.params[j]? = some t → args[j]? = some v → Value.okWide Tryz.prog W .any base t v := hval0
 have hW' := hW
 obtain ⟨p, q, hA0, hV, rfl, hfz, hnd⟩ := hW
 have hA : DataW.TrodAll enc Tryz.prog W 0 (fun _ => true) true Tryz.f3.params.toList args.toList ds p := hA0
 rw [Tryz.params3] at hA hval hsz
 obtain ⟨v0, vs0, d0, ds0, p0, q0, hargs, rfl, rfl, h0, r0⟩ := trodAll_cons hA
 obtain ⟨v1, vs1, d1, ds1, p1, q1, rfl, rfl, rfl, h1, r1⟩ := trodAll_cons r0
 obtain ⟨v2, vs2, d2, ds2, p2, q2, rfl, rfl, rfl, h2, r2⟩ := trodAll_cons r1
 obtain ⟨v3, vs3, d3, ds3, p3, q3, rfl, rfl, rfl, h3, r3⟩ := trodAll_cons r2
 obtain ⟨v4, vs4, d4, ds4, p4, q4, rfl, rfl, rfl, h4, r4⟩ := trodAll_cons r3
 obtain ⟨rfl, rfl, rfl⟩ := trodAll_nil r4
 obtain rfl : args = #[v0, v1, v2, v3, v4] := by cases args; simp_all
 obtain ⟨rfl, rfl⟩ := trodVars_none hV
 obtain ⟨a0, len0, cap0, rfl⟩ := okWide_slice Tryz.underlying23 (hval 0 23 v0 rfl rfl)
 obtain ⟨cs1, rfl, _⟩ := okWide_struct Tryz.underlying27 (hval 1 27 v1 rfl rfl)
 have k0 := h0
 have k1 := h1
 have lt0 : ∀ x ∈ p0, x.block < W.heap.size := by obtain ⟨m, hm⟩ := k0; exact DataW.trod_lt m _ _ _ hm
 have lt1 : ∀ x ∈ p1, x.block < W.heap.size := by obtain ⟨m, hm⟩ := k1; exact DataW.trod_lt m _ _ _ hm
 obtain ⟨n0, hn0⟩ := h0
 obtain ⟨n1, hn1⟩ := h1
 obtain ⟨l0, ⟨A0, c0, e0, hc0, hC0⟩, hO0⟩ := oBody.2 H enc W _ _ n0 _ _ hn0
 obtain ⟨x1, hK1, hO1⟩ := o27.2 H enc W _ _ n1 _ _ hn1
 obtain ⟨B1, m1, B2, m2, e1, hm1, hD1, hm2, hD2⟩ := k27_open hK1
 have e0' : #[Value.slice a0 len0 cap0].toList = [.slice A0 l0.length c0] := e0
 have e1' : cs1.toList = [.int .i64 x1.f0, .slice B1 x1.f1.length m1, .slice B2 x1.f2.length m2, .int .i64 x1.f3] := e1
 obtain rfl : cs1 = #[.int .i64 x1.f0, .slice B1 x1.f1.length m1, .slice B2 x1.f2.length m2, .int .i64 x1.f3] := by cases cs1; simp_all
 simp only [List.cons.injEq, and_true, Value.slice.injEq] at e0'
 obtain ⟨rfl, rfl, rfl⟩ := e0'
 have f0 : Fit Tryz.prog 23 d0 := List.all_eq_true.2 fun m hm => List.all_eq_true.1 hsz m (DataW.weights_mem_each (j := 0) (t := 23) (d := d0) rfl rfl m hm)
 have f1 : Fit Tryz.prog 27 d1 := List.all_eq_true.2 fun m hm => List.all_eq_true.1 hsz m (DataW.weights_mem_each (j := 1) (t := 27) (d := d1) rfl rfl m hm)
 obtain ⟨a2, rfl, rfl, rfl, w2⟩ := open_int Tryz.underlying28 (hval 2 28 v2 rfl rfl) h2
 obtain ⟨a3, rfl, rfl, rfl, w3⟩ := open_int Tryz.underlying3 (hval 3 3 v3 rfl rfl) h3
 obtain ⟨a4, rfl, rfl, rfl, w4⟩ := open_int Tryz.underlying3 (hval 4 3 v4 rfl rfl) h4
 obtain ⟨k, hk⟩ := Pure.PopMakes l0 x1 (hO0 f0) (hO1 f1) a2 a3 a4
 clear hA0 hval0 hsz0 hsz
 refine (PPopMakes.qC4.calls k a0 cap0 l0 x1.f0 B1 m1 x1.f1 B2 m2 x1.f2 x1.f3 a2 a3 a4 W hC0 hc0 hD1 hm1 hD2 hm2 hk).mono fun e W' ⟨he, bel⟩ => ?_
 subst he
 exact ⟨_, rfl, _, _, _, [], _, [], hW', trodAll_mk1 (shut_bool Tryz.underlying4 _), (trodAll_cons_mk (Below.trod laidOut (by kernel_rfl) (of_decide_eq_true (by kernel_rfl)) k0 bel lt0) (trodAll_cons_mk (Below.trod laidOut (by kernel_rfl) (of_decide_eq_true (by kernel_rfl)) k1 bel lt1) (trodAll_cons_mk (shut_int Tryz.underlying28 w2) (trodAll_cons_mk (shut_int Tryz.underlying3 w3) (trodAll_cons_mk (shut_int Tryz.underlying3 w4) trodAll_mk0))))), rfl, bel.frame _, fun h => by cases h⟩
theorem over : Rows.popMakesRow.holds Tryz.pinned (OpenSpec.ofChange Rows.popMakesSpec) :=
 OpenClaim.holds_of_wide 3 Tryz.f3 rfl rfl rfl rfl rfl rfl rfl ⟨rfl, rfl, rfl, rfl, rfl⟩ rfl rfl rfl rfl rfl (by kernel_rfl) Tryz.func3 (by kernel_rfl)
  (of_decide_eq_true (by kernel_rfl)) (by unfold Func.isWrapper; first | (rw [if_pos (by decide +kernel)]; kernel_rfl) | (rw [if_neg (by decide +kernel)]; exact ⟨rfl, rfl⟩))
  (fun os started H enc _ => lifted os started H enc)
theorem proved : Rows.PopMakesSaid := over
#print axioms proved
end Go.Proofs.YtpafpefealopoaaGreat.popMakes
namespace Go.Proofs.YtpafpefealopoaaGreat
theorem popMakes_holds : Rows.PopMakesSaid := popMakes.proved
end Go.Proofs.YtpafpefealopoaaGreat
end
