/- Whatever the body, the place and the number, where they are of bulk at most 1048576: Put returns what the reference says, and the arguments read as they did. The row of RatePuts in the second form, out of the pure law and the walk. -/
import Derived.Test.YtfnejdbjekkadaaGreatC0
import Derived.Test.YtfnejdbjekkadaaGreatC1
import Derived.Test.YtfnejdbjekkadaaGreatC11
import Derived.Test.YtfnejdbjekkadaaGreatRows
import Derived.ChangeArms
import Derived.Deep.Slices
import Derived.SizedLaws
import Derived.WalkKit
import Derived.ProofKit
import Derived.OpenShut
import Derived.ShutString
import Derived.ChangeOld
import Derived.Below
import Derived.Deep.CondSized
set_option linter.unusedVariables false
set_option linter.unusedSimpArgs false
section
namespace Go.Proofs.YtfnejdbjekkadaaGreat.OpenU
open Go Go.Deep Go.ChangeShapes Go.WideShapes Go.Proofs.YtfnejdbjekkadaaGreatW.PrintWords Go.Proofs.YtfnejdbjekkadaaGreat.Rows
variable {P : Program}
def qFA {α : Type} (k : Kd α) (P : Program) (t : TypeId) (mu : α → Nat) : Prop :=
 P.cellsOf t = k.sz ∧ ∀ (H : Type) (enc : TypeId × Value → H) (w : World) (spare : Nat → Bool) (held : Bool) (fuel : Nat) (cs : List Value) (x : DataW H × List MemPlace), DataW.trod enc P w 0 spare held fuel t cs = some x → ∃ v : α, k.K w v cs ∧ mu v ≤ uptoBulk x.1
def OpensF {α : Type} (k : Kd α) (P : Program) (fs : Array Field) (j off tot : Nat) (mu : α → Nat) : Prop :=
 ∀ (H : Type) (enc : TypeId × Value → H) (w : World) (spare : Nat → Bool) (held : Bool) (n : Nat) (cs : List Value) (xs : List (DataW H × List MemPlace)), cs.length = tot → xs.length = fs.size →
  (∀ (i : Nat) (f : Field), fs[i]? = some f → DataW.trod enc P w 0 spare held n f.type ((cs.drop f.offset).take (P.cellsOf f.type)) = xs[i]?) →
  ∃ v : α, k.K w v (cs.drop off) ∧ mu v ≤ uptoBulkAll ((xs.drop j).map (·.1))
theorem opens_int {kk : IntKind} {t : TypeId} (hu : P.underlying t = some (.int kk)) (hc : P.cellsOf t = 1) : qFA (Kd.int kk) P t (fun _ => 1) :=
 ⟨hc, fun H enc w spare held fuel cs x h => by
  obtain ⟨n, rfl, rfl, hw⟩ := DataW.trod_int hu h
  exact ⟨n, rfl, by simp [uptoBulk]⟩⟩
theorem opens_bool {t : TypeId} (hu : P.underlying t = some .bool) (hc : P.cellsOf t = 1) : qFA Kd.bool P t (fun _ => 1) :=
 ⟨hc, fun H enc w spare held fuel cs x h => by
  obtain ⟨n, rfl, rfl⟩ := DataW.trod_bool hu h
  exact ⟨n, rfl, by simp [uptoBulk]⟩⟩
theorem opens_string {t : TypeId} (hu : P.underlying t = some .string) (hc : P.cellsOf t = 1) : qFA Kd.string P t (fun s => s.size + 1) :=
 ⟨hc, fun H enc w spare held fuel cs x h => by
  obtain ⟨s, rfl, rfl, hs⟩ := DataW.trod_string hu h
  exact ⟨s, rfl, by simp [uptoBulk]⟩⟩
theorem list_of {α : Type} {p : Nat → α → Prop} : ∀ (n : Nat), (∀ i, i < n → ∃ v, p i v) → ∃ l : List α, l.length = n ∧ ∀ i v, l[i]? = some v → p i v
 | 0, _ => ⟨[], rfl, fun i v h => by simp at h⟩
 | n + 1, h => by
  obtain ⟨l, hl, hp⟩ := list_of n (fun i hi => h i (by omega))
  obtain ⟨v, hv⟩ := h n (by omega)
  refine ⟨l ++ [v], by simp [hl], fun i u hu => ?_⟩
  rcases Nat.lt_or_ge i l.length with hi | hi
  ·exact hp i u (by rwa [List.getElem?_append_left hi] at hu)
  ·rw [List.getElem?_append_right hi] at hu
   have h0 : i - l.length = 0 := by
    rcases Nat.eq_zero_or_pos (i - l.length) with h | h
    ·exact h
    ·rw [List.getElem?_eq_none (by simp only [List.length_singleton]; omega)] at hu; cases hu
   rw [h0, List.getElem?_cons_zero] at hu
   injection hu with hu
   subst hu
   obtain rfl : i = n := by omega
   exact hv
theorem all_le {α : Type} {H : Type} {mu : α → Nat} : ∀ {l : List α} {D : Nat → DataW H}, (∀ i v, l[i]? = some v → mu v ≤ uptoBulk (D i)) → (l.map mu).sum ≤ uptoBulkAll ((List.range l.length).map D)
 | [], _, _ => Nat.zero_le _
 | v :: l, D, h => by
  have h0 := h 0 v rfl
  have h1 := all_le (l := l) (D := fun i => D (i + 1)) fun i u hu => h (i + 1) u (by simpa using hu)
  rw [List.length_cons, List.range_succ_eq_map, List.map_cons, List.map_cons, List.map_map, List.sum_cons, uptoBulkAll]
  exact Nat.add_le_add h0 h1
theorem qDN {α : Type} {k : Kd α} {t e : TypeId} {mu : α → Nat} (hu : P.underlying t = some (.slice e)) (hc : P.cellsOf t = 1) (he : qFA k P e mu) : qFA (Kd.slice e k) P t (fun l => (l.map mu).sum + 1) :=
 ⟨hc, fun H enc w spare held fuel cs x h => by
  rcases open_slice hu h with ⟨rfl, rfl⟩ | ⟨a, len, cap, m, n, D, Pl, rfl, _, hl, hm, hmm, rfl, hx⟩
  ·exact ⟨[], ⟨none, 0, rfl, Nat.le_refl _, rfl, Nat.zero_le _, fun h => absurd h (Nat.lt_irrefl _)⟩, by simp [uptoBulk]⟩
  ·have hlm : len ≤ m := by rw [hmm]; split <;> omega
   obtain ⟨l, hll, hlp⟩ := list_of (p := fun i v => (∃ cs', w.cells? 0 (a.add (i * P.cellsOf e)) (P.cellsOf e) = some cs' ∧ k.K w v cs') ∧ mu v ≤ uptoBulk (D i)) len (fun i hi => by
    obtain ⟨cs', h1, h2⟩ := hx i (by omega)
    obtain ⟨v, hv, hf⟩ := he.2 H enc w spare held n cs' _ h2
    exact ⟨v, ⟨cs', h1, hv⟩, hf⟩)
   refine ⟨l, ⟨some a, cap, by rw [hll], by omega, rfl, by rw [hll]; exact Nat.le_trans hl hm, fun _ => ⟨a, rfl, fun j p hj => ?_⟩⟩, ?_⟩
   ·obtain ⟨⟨cs', h1, hK⟩, _⟩ := hlp j p hj
    obtain ⟨_, hlen, hcell⟩ := World.cells?_some h1
    refine ⟨cs', k.K_len hK, hK, fun i u hi => ?_⟩
    have hi' : i < cs'.length := (List.getElem?_eq_some_iff.1 hi).1
    have := hcell i (by omega)
    rw [Deep.add_add, he.1] at this
    rw [this, hi]
   ·have h9 := all_le (l := l) (D := D) fun i v hv => (hlp i v hv).2
    rw [hll] at h9
    show (l.map mu).sum + 1 ≤ uptoBulk (DataW.slice _ _)
    rw [uptoBulk]
    omega⟩
theorem qE1 {α : Type} {k : Kd α} {fs : Array Field} {j off tot : Nat} {f : Field} {mu : α → Nat} (hf : fs[j]? = some f) (ho : f.offset = off) (hs : off + k.sz = tot) (h : qFA k P f.type mu) : OpensF k P fs j off tot mu := by
 intro H enc w spare held n cs xs hcs hxs hx
 have h1 := hx j f hf
 have hj : j < xs.length := by rw [hxs]; exact (Array.getElem?_eq_some_iff.1 hf).1
 rw [List.getElem?_eq_getElem hj] at h1
 obtain ⟨v, hK, hO⟩ := h.2 H enc w spare held n _ _ h1
 rw [ho, h.1, List.take_of_length_le (by rw [List.length_drop]; omega)] at hK
 refine ⟨v, hK, Nat.le_trans hO ?_⟩
 rw [List.drop_eq_getElem_cons hj, List.map_cons, uptoBulkAll]
 exact Nat.le_add_right _ _
theorem qBC {α β : Type} {a : Kd α} {b : Kd β} {fs : Array Field} {j off tot : Nat} {f : Field} {ma : α → Nat} {mb : β → Nat} (hf : fs[j]? = some f) (ho : f.offset = off) (h : qFA a P f.type ma) (r : OpensF b P fs (j + 1) (off + a.sz) tot mb) : OpensF (Kd.pair a b) P fs j off tot (fun p => ma p.1 + mb p.2) := by
 intro H enc w spare held n cs xs hcs hxs hx
 have h1 := hx j f hf
 have hj : j < xs.length := by rw [hxs]; exact (Array.getElem?_eq_some_iff.1 hf).1
 rw [List.getElem?_eq_getElem hj] at h1
 obtain ⟨v, hK, hO⟩ := h.2 H enc w spare held n _ _ h1
 obtain ⟨u, hK2, hO2⟩ := r H enc w spare held n cs xs hcs hxs hx
 rw [ho, h.1] at hK
 refine ⟨(v, u), ⟨_, _, ?_, hK, hK2⟩, ?_⟩
 ·rw [← List.drop_drop, List.take_append_drop]
 ·rw [List.drop_eq_getElem_cons hj, List.map_cons, uptoBulkAll]
  exact Nat.add_le_add hO hO2
theorem qD7 {α β : Type} {k : Kd β} {t : TypeId} {fs : Array Field} {tot : Nat} {mu : β → Nat} (f : α → β) (g : β → α) (hfg : ∀ x, f (g x) = x) (hu : P.underlying t = some (.struct fs)) (hc : P.cellsOf t = tot) (hk : k.sz = tot) (r : OpensF k P fs 0 0 tot mu) : qFA (Kd.iso k f) P t (fun v => mu (f v)) :=
 ⟨by rw [hc, ← hk]; rfl, fun H enc w spare held fuel cs x h => by
  obtain ⟨xs, n, rfl, rfl, hcs, hxs, hx⟩ := DataW.trod_struct hu h
  obtain ⟨v, hK, hO⟩ := r H enc w spare held n cs xs (by rw [hcs, hc]) hxs hx
  refine ⟨g v, ?_, ?_⟩
  ·show k.K w (f (g v)) cs
   rw [hfg]
   rwa [List.drop_zero] at hK
  ·show mu (f (g v)) ≤ uptoBulk (DataW.agg _)
   rw [hfg, uptoBulk]
   rw [List.drop_zero] at hO
   exact Nat.le_succ_of_le hO⟩
end Go.Proofs.YtfnejdbjekkadaaGreat.OpenU
end
section
namespace Go.Proofs.YtfnejdbjekkadaaGreat.PRatePuts
open Go.Proofs.YtfnejdbjekkadaaGreat.OpenU Go.Proofs.YtfnejdbjekkadaaGreatW.PrintWords
theorem uI : qFA (Kd.int .i64) Tryz.prog 3 (fun _ => 1) := opens_int Tryz.underlying3 (by kernel_rfl)
theorem uT : qFA Kd.string Tryz.prog 9 (fun s => s.size + 1) := opens_string Tryz.underlying9 (by kernel_rfl)
theorem uB : qFA Kd.bool Tryz.prog 4 (fun _ => 1) := opens_bool Tryz.underlying4 (by kernel_rfl)
theorem uL : qFA (Kd.slice 3 (Kd.int .i64)) Tryz.prog 77 (fun l => (l.map fun _ => 1).sum + 1) := qDN Tryz.underlying77 (by kernel_rfl) uI
def mu69 (x : S69) : Nat := 1 + 1
theorem u69 : qFA k69 Tryz.prog 69 mu69 := qD7 (mu := _) (fun x : S69 => (x.f0, x.f1)) (fun p => ⟨p.1, p.2⟩) (fun _ => rfl) Tryz.underlying69 (by kernel_rfl) rfl (qBC (f := _) rfl rfl uI (qE1 (f := _) rfl rfl rfl uI))
def mu98 (x : S98) : Nat := (x.f0.size + 1) + (1 + (1 + (1 + (1 + mu69 x.f5))))
theorem u98 : qFA k98 Tryz.prog 98 mu98 := qD7 (mu := _) (fun x : S98 => (x.f0, x.f1, x.f2, x.f3, x.f4, x.f5)) (fun p => ⟨p.1, p.2.1, p.2.2.1, p.2.2.2.1, p.2.2.2.2.1, p.2.2.2.2.2⟩) (fun _ => rfl) Tryz.underlying98 (by kernel_rfl) rfl (qBC (f := _) rfl rfl uT (qBC (f := _) rfl rfl uI (qBC (f := _) rfl rfl uB (qBC (f := _) rfl rfl uI (qBC (f := _) rfl rfl uI (qE1 (f := _) rfl rfl rfl u69))))))
def mu75 (x : S75) : Nat := 1 + 1
theorem u75 : qFA k75 Tryz.prog 75 mu75 := qD7 (mu := _) (fun x : S75 => (x.f0, x.f1)) (fun p => ⟨p.1, p.2⟩) (fun _ => rfl) Tryz.underlying75 (by kernel_rfl) rfl (qBC (f := _) rfl rfl uI (qE1 (f := _) rfl rfl rfl uI))
def mu73 (x : S73) : Nat := (x.f0.size + 1) + (1 + (1 + (1 + ((x.f4.map mu75).sum + 1))))
theorem u73 : qFA k73 Tryz.prog 73 mu73 := qD7 (mu := _) (fun x : S73 => (x.f0, x.f1, x.f2, x.f3, x.f4)) (fun p => ⟨p.1, p.2.1, p.2.2.1, p.2.2.2.1, p.2.2.2.2⟩) (fun _ => rfl) Tryz.underlying73 (by kernel_rfl) rfl (qBC (f := _) rfl rfl uT (qBC (f := _) rfl rfl uI (qBC (f := _) rfl rfl uI (qBC (f := _) rfl rfl uB (qE1 (f := _) rfl rfl rfl (qDN Tryz.underlying71 (by kernel_rfl) u75))))))
def mu79 (x : S79) : Nat := 1 + (((x.f1.map fun _ => 1).sum + 1) + (1 + (1 + (x.f4.size + 1))))
theorem u79 : qFA k79 Tryz.prog 79 mu79 := qD7 (mu := _) (fun x : S79 => (x.f0, x.f1, x.f2, x.f3, x.f4)) (fun p => ⟨p.1, p.2.1, p.2.2.1, p.2.2.2.1, p.2.2.2.2⟩) (fun _ => rfl) Tryz.underlying79 (by kernel_rfl) rfl (qBC (f := _) rfl rfl uI (qBC (f := _) rfl rfl uL (qBC (f := _) rfl rfl uI (qBC (f := _) rfl rfl uI (qE1 (f := _) rfl rfl rfl uT)))))
def mu59 (x : S59) : Nat := (x.f0.size + 1) + (x.f1.size + 1)
theorem u59 : qFA k59 Tryz.prog 59 mu59 := qD7 (mu := _) (fun x : S59 => (x.f0, x.f1)) (fun p => ⟨p.1, p.2⟩) (fun _ => rfl) Tryz.underlying59 (by kernel_rfl) rfl (qBC (f := _) rfl rfl uT (qE1 (f := _) rfl rfl rfl uT))
def mu55 (x : S55) : Nat := (x.f0.size + 1) + ((x.f1.size + 1) + (((x.f2.map mu79).sum + 1) + (((x.f3.map mu79).sum + 1) + (((x.f4.map mu59).sum + 1) + 1))))
theorem u55 : qFA k55 Tryz.prog 55 mu55 := qD7 (mu := _) (fun x : S55 => (x.f0, x.f1, x.f2, x.f3, x.f4, x.f5)) (fun p => ⟨p.1, p.2.1, p.2.2.1, p.2.2.2.1, p.2.2.2.2.1, p.2.2.2.2.2⟩) (fun _ => rfl) Tryz.underlying55 (by kernel_rfl) rfl (qBC (f := _) rfl rfl uT (qBC (f := _) rfl rfl uT (qBC (f := _) rfl rfl (qDN Tryz.underlying53 (by kernel_rfl) u79) (qBC (f := _) rfl rfl (qDN Tryz.underlying53 (by kernel_rfl) u79) (qBC (f := _) rfl rfl (qDN Tryz.underlying44 (by kernel_rfl) u59) (qE1 (f := _) rfl rfl rfl uI))))))
def mu49 (x : S49) : Nat := (x.f0.size + 1) + (1 + (1 + (((x.f3.map mu98).sum + 1) + (((x.f4.map mu73).sum + 1) + ((x.f5.map mu55).sum + 1)))))
theorem u49 : qFA k49 Tryz.prog 49 mu49 := qD7 (mu := _) (fun x : S49 => (x.f0, x.f1, x.f2, x.f3, x.f4, x.f5)) (fun p => ⟨p.1, p.2.1, p.2.2.1, p.2.2.2.1, p.2.2.2.2.1, p.2.2.2.2.2⟩) (fun _ => rfl) Tryz.underlying49 (by kernel_rfl) rfl (qBC (f := _) rfl rfl uT (qBC (f := _) rfl rfl uI (qBC (f := _) rfl rfl uI (qBC (f := _) rfl rfl (qDN Tryz.underlying45 (by kernel_rfl) u98) (qBC (f := _) rfl rfl (qDN Tryz.underlying46 (by kernel_rfl) u73) (qE1 (f := _) rfl rfl rfl (qDN Tryz.underlying47 (by kernel_rfl) u55)))))))
def mu25 (x : S25) : Nat := (x.f0.size + 1) + ((x.f1.size + 1) + (1 + 1))
theorem u25 : qFA k25 Tryz.prog 25 mu25 := qD7 (mu := _) (fun x : S25 => (x.f0, x.f1, x.f2, x.f3)) (fun p => ⟨p.1, p.2.1, p.2.2.1, p.2.2.2⟩) (fun _ => rfl) Tryz.underlying25 (by kernel_rfl) rfl (qBC (f := _) rfl rfl uT (qBC (f := _) rfl rfl uT (qBC (f := _) rfl rfl uI (qE1 (f := _) rfl rfl rfl uI))))
theorem uBody : qFA (Kd.slice 49 k49) Tryz.prog 23 (fun l => (l.map mu49).sum + 1) := qDN Tryz.underlying23 (by kernel_rfl) u49
end Go.Proofs.YtfnejdbjekkadaaGreat.PRatePuts
end
section
namespace Go.Proofs.YtfnejdbjekkadaaGreat.Pure
open Go.RowKit Go.Proofs.YtfnejdbjekkadaaGreatW.PrintWords Go.Proofs.YtfnejdbjekkadaaGreatW.PrintLast Go.Proofs.YtfnejdbjekkadaaGreatW.PrintMore Go.Proofs.YtfnejdbjekkadaaGreat.PRatePuts
def T {α : Type} (g : Nat → Option α) (Q : α → Prop) : Prop := ∃ r, Ev g r ∧ Q r
theorem T.some {α : Type} {r : α} {Q : α → Prop} (h : Q r) : T (fun _ => some r) Q := ⟨r, Ev.now r, h⟩
theorem T.mono {α : Type} {g : Nat → Option α} {Q R : α → Prop} (h : T g Q) (i : ∀ r, Q r → R r) : T g R := by
 obtain ⟨r, h1, h2⟩ := h
 exact ⟨r, h1, i r h2⟩
theorem T.succ {α : Type} {g : Nat → Option α} {Q : α → Prop} (h : T (fun k => g (k + 1)) Q) : T g Q := by
 obtain ⟨r, h1, h2⟩ := h
 exact ⟨r, Ev.step (fun _ => rfl) h1, h2⟩
theorem T.bind {α β : Type} {g : Nat → Option α} {f : Nat → α → Option β} {R : α → Prop} {Q : β → Prop} (h : T g R) (k : ∀ a, R a → T (fun n => f n a) Q) : T (fun n => (g n).bind (f n)) Q := by
 obtain ⟨a, h1, h2⟩ := h
 obtain ⟨r, h3, h4⟩ := k a h2
 exact ⟨r, Ev.bind h1 h3, h4⟩
theorem T.ite {α : Type} {c : Prop} [Decidable c] {a b : Nat → Option α} {Q : α → Prop} (h1 : c → T a Q) (h2 : ¬ c → T b Q) : T (fun k => if c then a k else b k) Q := by
 by_cases h : c
 ·simp only [if_pos h]; exact h1 h
 ·simp only [if_neg h]; exact h2 h
theorem T.pos {α : Type} {c : Prop} [Decidable c] {a b : Nat → Option α} {Q : α → Prop} (h : c) (h1 : T a Q) : T (fun k => if c then a k else b k) Q := by
 simp only [if_pos h]; exact h1
theorem T.neg {α : Type} {c : Prop} [Decidable c] {a b : Nat → Option α} {Q : α → Prop} (h : ¬ c) (h1 : T b Q) : T (fun k => if c then a k else b k) Q := by
 simp only [if_neg h]; exact h1
theorem T.po {α : Type} {c : Prop} [Decidable c] {a b : Nat → Option α} {Q : α → Prop} (h1 : T a Q) (h : c := by omega) : T (fun k => if c then a k else b k) Q := T.pos h h1
theorem T.ng {α : Type} {c : Prop} [Decidable c] {a b : Nat → Option α} {Q : α → Prop} (h1 : T b Q) (h : ¬ c := by omega) : T (fun k => if c then a k else b k) Q := T.neg h h1
theorem T.lim {α : Type} {g : Nat → Option α} {Q : α → Prop} (hm : ∀ k, LeO (g k) (g (k + 1))) (h : T g Q) : ∃ r, Gen.lim g = Option.some r ∧ Q r := by
 obtain ⟨r, ⟨K, h1⟩, h2⟩ := h
 exact ⟨r, Gen.lim_eq hm (h1 K (Nat.le_refl _)), h2⟩
theorem w64 {x : Int} (h0 : -9223372036854775808 ≤ x) (h1 : x < 9223372036854775808) : wrap64 x = x := by unfold wrap64; omega
theorem T.loop {σ : Type} {α : Type} {n : Nat} (hn : n < 9223372036854775807) {g : Nat → σ → Int → Option α} {I : Nat → σ → Prop} {Q : α → Prop}
  (hend : ∀ s, I n s → T (fun k => g k s (n : Int)) Q)
  (hstep : ∀ i s, i < n → I i s → (∀ s', I (i + 1) s' → T (fun k => g k s' (wrap64 ((i : Int) + 1))) Q) → T (fun k => g k s (i : Int)) Q) :
  ∀ (d i : Nat) (s : σ), n - i = d → i ≤ n → I i s → T (fun k => g k s (i : Int)) Q
 | 0, i, s, hd, hi, hI => by
  obtain rfl : i = n := by omega
  exact hend s hI
 | d + 1, i, s, hd, hi, hI => by
  refine hstep i s (by omega) hI fun s' hI' => ?_
  rw [w64 (by omega) (by omega)]
  exact T.loop hn hend hstep d (i + 1) s' (by omega) (by omega) hI'
theorem rd48 (l : List S49) (i : Nat) : qA4 l (i : Int) = l.getD i z49 := by simp [qA4]
theorem qDD {α : Type} {l : List α} {i : Nat} (z : α) (h : i < l.length) : l.getD i z ∈ l := by
 rw [List.getD_eq_getElem?_getD, List.getElem?_eq_getElem h]
 exact List.getElem_mem h
structure Lim (b : List S49) : Prop where
 acts : b.length ≤ 8
 arts : ∀ a, a ∈ b → a.f5.length ≤ 60
 tabs : ∀ a, a ∈ b → a.f4.length ≤ 8
 attrs : (b.flatMap fun a => a.f3).length ≤ 40
theorem limits_is (b : List S49) (hb : b.length < 9223372036854775807) (ha : ∀ a, a ∈ b → a.f3.length ≤ 140737488355328) : T (fun k => qB9.f k b) (fun r => r = 0 → Lim b) := by
 unfold qB9.f
 refine T.loop (σ := Int) (g := fun k s i => qB9.l0 k b s b (b.length : Int) i) (n := b.length) hb
  (I := fun i s => (b.length ≤ 8 → s = (((b.take i).flatMap fun a => a.f3).length : Int)) ∧ (∀ j, j < i → (b.getD j z49).f5.length ≤ 60 ∧ (b.getD j z49).f4.length ≤ 8)) ?_ ?_ b.length 0 0 (by omega) (by omega) ⟨fun _ => by simp, fun j hj => absurd hj (by omega)⟩
 ·rintro s ⟨hs, hj⟩
  refine T.succ ?_
  simp only [qB9.l0]
  refine T.ng (T.ite (fun _ => T.some (by simp)) fun h8 => T.ite (fun _ => T.some (by simp)) fun h40 => T.some fun _ => ⟨by omega, fun a ham => ?_, fun a ham => ?_, ?_⟩)
  ·obtain ⟨j, hjl, rfl⟩ := List.getElem_of_mem ham
   have := (hj j hjl).1
   rwa [List.getD_eq_getElem?_getD, List.getElem?_eq_getElem hjl] at this
  ·obtain ⟨j, hjl, rfl⟩ := List.getElem_of_mem ham
   have := (hj j hjl).2
   rwa [List.getD_eq_getElem?_getD, List.getElem?_eq_getElem hjl] at this
  ·have := hs (by omega)
   rw [List.take_length] at this
   omega
 ·rintro i s hi ⟨hs, hj⟩ next
  refine T.succ ?_
  simp only [qB9.l0, rd48]
  refine T.po (T.po (T.po (T.ite (fun _ => T.some (by simp)) fun h60 => T.ite (fun _ => T.some (by simp)) fun h8 => next _ ⟨fun hl => ?_, fun j hj' => ?_⟩)))
  ·have h2 : ∀ i, i ≤ b.length → (((b.take i).flatMap fun a => a.f3).length) ≤ i * 140737488355328 := fun i => by
    induction i with
    | zero => simp
    | succ i ih =>
     intro hi
     rw [qEI _ z49 (by omega), List.length_append]
     have := ih (by omega)
     have := ha _ (qDD z49 (show i < b.length by omega))
     omega
   have h3 := h2 (i + 1) (by omega)
   rw [hs hl]
   rw [qEI _ z49 hi, List.length_append] at h3 ⊢
   have : (i + 1) * 140737488355328 ≤ 8 * 140737488355328 := Nat.mul_le_mul_right _ (by omega)
   rw [w64 (by omega) (by omega)]
   omega
  ·rcases Nat.lt_or_ge j i with h | h
   ·exact hj j h
   ·obtain rfl : j = i := by omega
    exact ⟨by omega, by omega⟩
def S {α : Type} (o : Option α) (Q : α → Prop) : Prop := ∃ r, o = some r ∧ Q r
theorem S.some {α : Type} {r : α} {Q : α → Prop} (h : Q r) : S (some r) Q := ⟨r, rfl, h⟩
theorem S.mono {α : Type} {o : Option α} {Q R : α → Prop} (h : S o Q) (i : ∀ r, Q r → R r) : S o R := by
 obtain ⟨r, h1, h2⟩ := h
 exact ⟨r, h1, i r h2⟩
theorem S.bind {α β : Type} {o : Option α} {f : α → Option β} {R : α → Prop} {Q : β → Prop} (h : S o R) (k : ∀ a, R a → S (f a) Q) : S (o.bind f) Q := by
 obtain ⟨a, rfl, h2⟩ := h
 exact k a h2
theorem S.ite {α : Type} {c : Prop} [Decidable c] {a b : Option α} {Q : α → Prop} (h1 : c → S a Q) (h2 : ¬ c → S b Q) : S (if c then a else b) Q := by
 by_cases h : c
 ·simp only [if_pos h]; exact h1 h
 ·simp only [if_neg h]; exact h2 h
theorem S.pos {α : Type} {c : Prop} [Decidable c] {a b : Option α} {Q : α → Prop} (h : c) (h1 : S a Q) : S (if c then a else b) Q := by
 simp only [if_pos h]; exact h1
theorem S.neg {α : Type} {c : Prop} [Decidable c] {a b : Option α} {Q : α → Prop} (h : ¬ c) (h1 : S b Q) : S (if c then a else b) Q := by
 simp only [if_neg h]; exact h1
theorem S.T {α : Type} {o : Option α} {Q : α → Prop} (h : S o Q) : T (fun _ => o) Q := by
 obtain ⟨r, rfl, h2⟩ := h
 exact T.some h2
theorem range_S (a : Int) : S (qCS.f a) (fun _ => True) := by
 unfold qCS.f
 repeat' first | exact S.some trivial | refine S.ite (fun _ => ?_) (fun _ => ?_)
theorem unit_S (a b : Int) : S (qCM.f a b) (fun _ => True) := by
 unfold qCM.f qE0.f
 refine S.bind (range_S a) fun _ _ => S.bind (R := fun _ => True) ?_ fun _ _ => ?_
 all_goals repeat' first | exact S.some trivial | refine S.ite (fun _ => ?_) (fun _ => ?_)
theorem attr2 (k : Nat) (b : Bool) (x0 : ByteArray) (x1 : Int) (x2 : Bool) (x3 x4 x5 x6 : Int) : S (qBO.j2 (k + 1) b x0 x1 x2 x3 x4 x5 x6) (fun _ => True) := by
 simp only [qBO.j2]
 refine S.ite (fun _ => S.some trivial) fun _ => S.bind (unit_S _ _) fun _ _ => ?_
 repeat' first | exact S.some trivial | refine S.ite (fun _ => ?_) (fun _ => ?_)
theorem attr_l (k : Nat) (p q : Int) (x0 : ByteArray) (x1 : Int) (x2 : Bool) (x3 x4 x5 x6 : Int) : S (qBO.l0 (k + 3) [p, q] 2 0 x0 x1 x2 x3 x4 x5 x6) (fun _ => True) := by
 rw [qBO.l0]
 refine S.pos (by decide) (S.pos (by decide) (S.pos (by simp) (S.bind (unit_S _ _) fun _ _ => S.ite (fun _ => ?_) fun _ => S.some trivial)))
 rw [show wrap64 (0 + 1) = 1 from w64 (x := 1) (by decide) (by decide), qBO.l0]
 refine S.pos (by decide) (S.pos (by decide) (S.pos (by simp) (S.bind (unit_S _ _) fun _ _ => S.ite (fun _ => ?_) fun _ => S.some trivial)))
 rw [show wrap64 (1 + 1) = 2 from w64 (x := 2) (by decide) (by decide), qBO.l0]
 refine S.neg (by decide) ?_
 repeat' first | exact S.some trivial | refine S.ite (fun _ => ?_) (fun _ => ?_)
theorem attr0 (k : Nat) (b : Bool) (x0 : ByteArray) (x1 : Int) (x2 : Bool) (x3 x4 x5 x6 : Int) : S (qBO.j0 (k + 4) b x0 x1 x2 x3 x4 x5 x6) (fun _ => True) := by
 rw [qBO.j0]
 refine S.ite (fun _ => S.some trivial) fun _ => S.ite (fun _ => S.ite (fun _ => S.some trivial) fun _ => ?_) fun _ => ?_
 ·exact attr_l k _ _ _ _ _ _ _ _ _
 ·exact S.ite (fun _ => attr2 _ _ _ _ _ _ _ _ _) fun _ => attr2 _ _ _ _ _ _ _ _ _
theorem attr_S (x : S98) : S (attrF x) (fun _ => True) := by
 unfold attrF qBO.f
 exact S.ite (fun _ => attr0 6 _ _ _ _ _ _ _ _) fun _ => attr0 6 _ _ _ _ _ _ _ _
theorem table_l (x3 x4 x5 x6 : Int) (L : List S75) (hL : L.length ≤ 20) (y0 : ByteArray) (y1 y2 : Int) (y3 : Bool) : ∀ (d i k : Nat), L.length - i = d → i ≤ L.length → 2 * d + 1 ≤ k → S (qB0.l0 k x3 x4 x5 x6 L (L.length : Int) (i : Int) y0 y1 y2 y3 L) (fun _ => True)
 | 0, i, k, hd, hi, hk => by
  obtain ⟨k, rfl⟩ : ∃ m, k = m + 1 := ⟨k - 1, by omega⟩
  rw [qB0.l0]
  exact S.neg (by omega) (S.some trivial)
 | d + 1, i, k, hd, hi, hk => by
  obtain ⟨k, rfl⟩ : ∃ m, k = m + 1 + 1 := ⟨k - 2, by omega⟩
  have h2 : ∀ b, S (qB0.j2 (k + 1) x3 x4 x5 x6 (i : Int) L (L.length : Int) (i : Int) b y0 y1 y2 y3 L (qD0 L (i : Int)).f0 (qD0 L (i : Int)).f1) (fun _ => True) := fun b => by
   have h3 := table_l x3 x4 x5 x6 L hL y0 y1 y2 y3 d (i + 1) k (by omega) (by omega) (by omega)
   have e : wrap64 ((i : Int) + 1) = ((i + 1 : Nat) : Int) := by rw [w64 (by omega) (by omega)]; rfl
   rw [qB0.j2, e]
   refine S.ite (fun _ => S.some trivial) fun _ => S.ite (fun h0 => ?_) fun _ => h3
   rw [w64 (by omega) (by omega)]
   exact S.pos (by omega) (S.pos (by omega) (S.ite (fun _ => S.some trivial) fun _ => h3))
  rw [qB0.l0]
  refine S.pos (by omega) (S.pos (by omega) (S.pos (by omega) ?_))
  repeat' first | exact h2 _ | refine S.ite (fun _ => ?_) (fun _ => ?_)
theorem table_S (t : S73) : S (tableF t) (fun r => r = 0 → t.f4.length ≤ 20) := by
 have hk : S (qDB.f t.f0 t.f1 t.f2 t.f3 t.f4) (fun _ => True) := by
  unfold qDB.f
  repeat' first | exact S.some trivial | refine S.ite (fun _ => ?_) (fun _ => ?_)
 have hj : t.f4.length ≤ 20 → ∀ a b c d, S (qB0.j0 50 a b c d t.f0 t.f1 t.f2 t.f3 t.f4) (fun r => r = 0 → t.f4.length ≤ 20) := fun hl a b c d => by
  rw [qB0.j0]
  exact (table_l a b c d t.f4 hl t.f0 t.f1 t.f2 t.f3 t.f4.length 0 49 rfl (Nat.zero_le _) (by omega)).mono fun _ _ _ => hl
 unfold tableF qB0.f qCP.f
 refine S.bind (R := fun _ => True) (S.some trivial) fun _ _ => S.ite (fun _ => S.bind hk fun _ _ => S.ite (fun _ => S.ite (fun _ => S.some (by simp)) fun _ => S.ite (fun _ => S.some (by simp)) fun h20 => ?_) fun _ => S.some (by simp)) fun _ => S.some (by simp)
 exact S.bind (range_S _) fun _ _ => S.bind (range_S _) fun _ _ => S.ite (fun _ => hj (by omega) _ _ _ _) fun _ => hj (by omega) _ _ _ _
theorem addR_zero {L : List ByteArray} {s : ByteArray} (h : ¬ addR L s ≠ 0) : s ∉ L := by
 intro hs
 simp only [addR, hs, if_true] at h
 split at h <;> simp at h
theorem parts_in_S {α : Type} (nm : α → ByteArray) (ck : α → Option Int) (R : α → Prop) (hck : ∀ x, S (ck x) (fun r => r = 0 → R x)) : ∀ (xs : List α) (L : List ByteArray), L.length + xs.length ≤ 1000 →
  S (qEF nm ck xs L) (fun p => p.2.length ≤ L.length + xs.length ∧ (p.1 = 0 → (xs.map nm).Nodup ∧ (∀ x, x ∈ xs → nm x ∉ L ∧ R x) ∧ ∀ y, y ∈ L → y ∈ p.2))
 | [], L, h => S.some ⟨by simp, fun _ => ⟨List.nodup_nil, fun x hx => (by cases hx), fun y hy => hy⟩⟩
 | x :: xs, L, h => by
  rw [List.length_cons] at h
  unfold qEF
  refine S.pos (by omega) (S.ite (fun h0 => S.some ⟨by simp <;> omega, fun e => absurd e h0⟩) fun h0 => S.bind (hck x) fun e he => S.ite (fun h1 => S.some ⟨by simp <;> omega, fun e => absurd e h1⟩) fun h1 => ?_)
  refine (parts_in_S nm ck R hck xs (nm x :: L) (by simp; omega)).mono fun p ⟨hp1, hp2⟩ => ⟨by simp at hp1 ⊢; omega, fun hp => ?_⟩
  obtain ⟨n1, n2, n3⟩ := hp2 hp
  refine ⟨?_, fun y hy => ?_, fun y hy => n3 y (zz _ hy)⟩
  ·rw [List.map_cons, List.nodup_cons]
   refine ⟨fun hm => ?_, n1⟩
   obtain ⟨y, hy, e⟩ := List.mem_map.1 hm
   exact (n2 y hy).1 (by rw [e]; exact List.mem_cons_self ..)
  ·rcases List.mem_cons.1 hy with rfl | hy
   ·exact ⟨addR_zero h0, he (by omega)⟩
   ·exact ⟨fun hm => (n2 y hy).1 (zz _ hm), (n2 y hy).2⟩
structure Parts (b : List S49) : Prop where
 acts : (b.map fun a => a.f0).Nodup
 tabs : ∀ a, a ∈ b → (a.f4.map fun t => t.f0).Nodup
 steps : ∀ a, a ∈ b → ∀ t, t ∈ a.f4 → t.f4.length ≤ 20
theorem parts_go : ∀ (l : List S49) (A U B : List ByteArray), A.length + l.length ≤ 100 → U.length + (l.flatMap fun a => a.f3).length ≤ 100 → B.length + l.length * 8 ≤ 100 → (∀ a, a ∈ l → a.f4.length ≤ 8) →
  S (qBF.go l A U B) (fun r => r = 0 → Parts l ∧ ∀ a, a ∈ l → a.f0 ∉ A)
 | [], A, U, B, _, _, _, _ => S.some fun _ => ⟨⟨List.nodup_nil, fun a h => (by cases h), fun a h => (by cases h)⟩, fun a h => by cases h⟩
 | a :: l, A, U, B, hA, hU, hB, h4 => by
  rw [List.length_cons] at hA hB
  rw [List.flatMap_cons, List.length_append] at hU
  have h4a := h4 a (List.mem_cons_self ..)
  unfold qBF.go
  refine S.pos (by omega) (S.ite (fun h0 => S.some fun e => absurd e h0) fun h0 => S.ite (fun _ => S.some (by simp)) fun _ => ?_)
  refine S.bind (parts_in_S _ _ (fun _ => True) (fun x => (attr_S x).mono fun _ _ _ => trivial) a.f3 U (by omega)) fun p hp => ?_
  unfold qBF.k1
  refine S.ite (fun h1 => S.some fun e => absurd e h1) fun h1 => S.bind (parts_in_S _ _ (fun t : S73 => t.f4.length ≤ 20) table_S a.f4 B (by omega)) fun q hq => ?_
  unfold qBF.k2
  refine S.ite (fun h2 => S.some fun e => absurd e h2) fun h2 => ?_
  refine (parts_go l (a.f0 :: A) p.2 q.2 (by simp; omega) (by have := hp.1; omega) (by have := hq.1; omega) fun x hx => h4 x (zz _ hx)).mono fun r hr h => ?_
  obtain ⟨⟨n1, n2, n3⟩, n4⟩ := hr h
  obtain ⟨m1, m2, _⟩ := hq.2 (by omega)
  refine ⟨⟨?_, fun x hx => ?_, fun x hx => ?_⟩, fun x hx => ?_⟩
  ·rw [List.map_cons, List.nodup_cons]
   refine ⟨fun hm => ?_, n1⟩
   obtain ⟨y, hy, e⟩ := List.mem_map.1 hm
   exact n4 y hy (by rw [e]; exact List.mem_cons_self ..)
  ·rcases List.mem_cons.1 hx with rfl | hx
   ·exact m1
   ·exact n2 x hx
  ·rcases List.mem_cons.1 hx with rfl | hx
   ·exact fun t ht => (m2 t ht).2
   ·exact n3 x hx
  ·rcases List.mem_cons.1 hx with rfl | hx
   ·exact addR_zero h0
   ·exact fun hm => n4 x hx (zz _ hm)
theorem parts_S {b : List S49} (h : Lim b) : S (qBF.f b) (fun r => r = 0 → Parts b) := by
 have h1 := h.acts
 have h2 := h.attrs
 exact (parts_go b [] [] [] (by simp; omega) (by simp; simpa using Nat.le_trans h2 (by omega)) (by simp; omega) h.tabs).mono fun r hr e => (hr e).1
theorem letter_S (a : Int) : S (qCF.f a) (fun _ => True) := by
 unfold qCF.f
 exact S.ite (fun _ => S.some trivial) fun _ => S.some trivial
theorem inner_S (a : Int) : S (qDR.f a) (fun _ => True) := by
 unfold qDR.f qEA.f
 refine S.bind (letter_S a) fun _ _ => S.ite (fun _ => S.some trivial) fun _ => S.bind (R := fun _ => True) ?_ fun _ _ => ?_
 all_goals repeat' first | exact S.some trivial | refine S.ite (fun _ => ?_) (fun _ => ?_)
theorem less_S (a b : ByteArray) : S (cmp_Less_string.f a b) (fun _ => True) := by
 unfold cmp_Less_string.f cmp_isNaN_string.f
 refine S.bind (R := fun _ => True) (S.some trivial) fun _ _ => S.ite (fun _ => S.bind (R := fun _ => True) (S.some trivial) fun _ _ => ?_) fun _ => S.some trivial
 exact S.ite (fun _ => S.some trivial) fun _ => S.some trivial
theorem search_l (L : List ByteArray) (hL : L.length ≤ 1000) (s : ByteArray) : ∀ (d k lo hi : Nat), hi - lo ≤ d → lo ≤ hi → hi ≤ L.length → d + 1 ≤ k → S (qA5.l0 k L s (L.length : Int) (lo : Int) (hi : Int)) (fun _ => True)
 | d, k, lo, hi, hd, hle, hh, hk => by
  obtain ⟨k, rfl⟩ : ∃ m, k = m + 1 := ⟨k - 1, by omega⟩
  rw [qA5.l0]
  refine S.ite (fun hlt => ?_) fun hge => S.ite (fun h1 => ?_) fun _ => S.some trivial
  ·obtain ⟨d, rfl⟩ : ∃ m, d = m + 1 := ⟨d - 1, by omega⟩
   have e : wrap64 (IntKind.u64.wrap (wrap64 ((lo : Int) + (hi : Int))) / 2) = (((lo + hi) / 2 : Nat) : Int) := by
    rw [w64 (x := (lo : Int) + hi) (by omega) (by omega), IntKind.wrap_u64, w64 (by omega) (by omega)]
    omega
   rw [e]
   refine S.pos (by omega) (S.pos (by omega) (S.bind (less_S _ _) fun _ _ => S.ite (fun _ => ?_) fun _ => ?_))
   ·rw [w64 (by omega) (by omega)]
    exact search_l L hL s d k ((lo + hi) / 2 + 1) hi (by omega) (by omega) hh (by omega)
   ·exact search_l L hL s d k lo ((lo + hi) / 2) (by omega) (by omega) (by omega) (by omega)
  ·refine S.pos (by omega) (S.pos (by omega) (S.ite (fun _ => S.some trivial) fun _ => ?_))
   unfold slices_isNaN_string.f
   exact S.bind (R := fun _ => True) (S.some trivial) fun _ _ => S.ite (fun _ => S.bind (R := fun _ => True) (S.some trivial) fun _ _ => S.some trivial) fun _ => S.some trivial
theorem keys_S : S qCH.f (fun l => l.length ≤ 60) := ⟨_, rfl, by decide⟩
theorem name_l (s : ByteArray) (hs : s.size ≤ 20) : ∀ (d i k : Nat), s.size - i = d → i ≤ s.size → d + 100 ≤ k → S (qB4.l0 k s (s.size : Int) (i : Int)) (fun _ => True)
 | 0, i, k, hd, hi, hk => by
  obtain ⟨k, rfl⟩ : ∃ m, k = m + 1 := ⟨k - 1, by omega⟩
  rw [qB4.l0]
  refine S.neg (by omega) (S.bind keys_S fun l hl => S.bind (R := fun _ => True) ?_ fun _ _ => S.some trivial)
  exact search_l l (by omega) s l.length k 0 l.length (by omega) (by omega) (by omega) (by omega)
 | d + 1, i, k, hd, hi, hk => by
  obtain ⟨k, rfl⟩ : ∃ m, k = m + 1 := ⟨k - 1, by omega⟩
  rw [qB4.l0]
  refine S.pos (by omega) (S.pos (by omega) (S.pos (by omega) (S.bind (inner_S _) fun _ _ => S.ite (fun _ => ?_) fun _ => S.some trivial)))
  rw [w64 (by omega) (by omega)]
  exact name_l s hs d (i + 1) k (by omega) (by omega) (by omega)
theorem name_S (s : ByteArray) : S (qB4.f 200 s) (fun _ => True) := by
 have hj : ∀ b, (b = false → s.size ≤ 20) → S (qB4.j0 200 s b) (fun _ => True) := fun b hb => by
  rw [qB4.j0]
  exact S.ite (fun _ => S.some trivial) fun h => name_l s (hb (Bool.eq_false_iff.2 h)) s.size 0 199 rfl (Nat.zero_le _) (by have := hb (Bool.eq_false_iff.2 h); omega)
 unfold qB4.f
 refine S.ite (fun _ => hj _ (by simp)) fun h0 => S.ite (fun _ => hj _ (by simp)) fun h20 => S.pos ?_ (S.bind (letter_S _) fun _ _ => hj _ fun _ => by omega)
 rcases Nat.eq_zero_or_pos s.size with h | h
 ·exfalso
  apply h0
  have : s.toList.length = 0 := by rw [ByteArray.toList_eq]; simpa using h
  exact List.length_eq_zero_iff.1 this
 ·omega
theorem kidsN_le (op : Int) : qFR op ≤ 3 := by
 unfold qFR
 split
 ·decide
 split
 ·decide
 split
 ·decide
 split
 ·decide
 ·decide
def Node1 (n : S79) (i : Nat) : Prop := 0 ≤ qFR n.f0 ∧ (n.f1.length : Int) = qFR n.f0 ∧ ∀ x, x ∈ n.f1 → 0 ≤ x ∧ x < (i : Int)
theorem one_S (n : S79) (i : Nat) : S (qFB.f n.f0 n.f1 n.f2 n.f3 n.f4 (i : Int)) (fun r => r = 0 → Node1 n i) := by
 unfold qFB.f
 refine S.ite (fun _ => S.some (by simp)) fun h1 => S.ite (fun _ => S.some (by simp)) fun h2 => S.ite (fun _ => S.some (by simp)) fun h3 => ?_
 have hn : Node1 n i := ⟨by omega, by omega, fun x hx => by
  have h4 : (decide (x < 0) || decide ((i : Int) ≤ x)) = false := by
   cases h5 : (decide (x < 0) || decide ((i : Int) ≤ x))
   ·rfl
   ·exact absurd (List.any_eq_true.2 ⟨x, hx, h5⟩) h3
  simp at h4
  omega⟩
 refine S.mono (Q := fun _ => True) ?_ fun _ _ _ => hn
 refine S.ite (fun _ => S.some trivial) fun _ => S.ite (fun _ => S.some trivial) fun _ => S.ite (fun _ => S.ite (fun _ => S.some trivial) fun _ => unit_S _ _) fun _ => S.ite (fun _ => S.ite (fun _ => S.some trivial) fun _ => S.some trivial) fun _ => S.ite (fun _ => S.bind (name_S _) fun _ _ => S.ite (fun _ => S.some trivial) fun _ => S.some trivial) fun _ => S.some trivial
theorem rd80 (l : List S79) (i : Nat) : qA3 l (i : Int) = l.getD i z79 := by simp [qA3]
theorem index_T (l : List Int) (hl : l.length < 1000) (a : Int) : T (fun k => qAD.f k l a) (fun _ => True) := by
 unfold qAD.f
 refine T.loop (σ := Unit) (g := fun k _ i => qAD.l0 k l a (l.length : Int) i) (n := l.length) (by omega) (I := fun _ _ => True) (fun _ _ => ?_) (fun i _ hi _ next => ?_) l.length 0 () rfl (Nat.zero_le _) trivial
 ·refine T.succ ?_
  simp only [qAD.l0]
  exact T.ng (T.some trivial)
 ·refine T.succ ?_
  simp only [qAD.l0]
  exact T.po (T.po (T.po (T.ite (fun _ => T.some trivial) fun _ => next () trivial)))
theorem contains_T (l : List Int) (hl : l.length < 1000) (a : Int) : T (fun k => qAO.f k l a) (fun _ => True) := by
 unfold qAO.f
 exact T.bind (index_T l hl a) fun _ _ => T.some trivial
structure Tree (e : List S79) : Prop where
 pos : 0 < e.length
 le : e.length ≤ 100
 one : ∀ i, i < e.length → Node1 (e.getD i z79) i
theorem tree_T (e : List S79) : T (fun k => qAP.f k e) (fun r => r = 0 → Tree e) := by
 unfold qAP.f
 refine T.ite (fun _ => T.some (by simp)) fun h100 => T.ite (fun _ => T.some (by simp)) fun h0 => T.po (T.po ?_)
 refine T.loop (σ := List Int) (g := fun k s i => qAP.l0 k e s e (e.length : Int) i) (n := e.length) (by omega) (I := fun i s => s.length = e.length ∧ ∀ j, j < i → Node1 (e.getD j z79) j) ?_ ?_ e.length 0 _ rfl (Nat.zero_le _) ⟨by simp, fun j hj => absurd hj (by omega)⟩
 ·rintro s ⟨hs, hj⟩
  refine T.succ ?_
  simp only [qAP.l0]
  refine T.ng ?_
  rw [w64 (by omega) (by omega)]
  exact T.po (T.po (T.bind (contains_T _ (by simp; omega) _) fun _ _ => T.ite (fun _ => T.some (by simp)) fun _ => T.some fun _ => ⟨by omega, by omega, hj⟩))
 ·rintro i s hi ⟨hs, hj⟩ next
  refine T.succ ?_
  simp only [qAP.l0, rd80]
  refine T.po (T.po (T.po (T.bind (one_S (e.getD i z79) i).T fun r hr => T.ite (fun h => ?_) fun h => T.some fun e => absurd e h)))
  obtain ⟨n1, n2, n3⟩ := hr h
  have hk3 := kidsN_le (e.getD i z79).f0
  refine T.loop (σ := List Int) (g := fun k s j => qAP.l1 k e s e (e.length : Int) (i : Int) (e.getD i z79).f1 ((e.getD i z79).f1.length : Int) j) (n := (e.getD i z79).f1.length) (by omega) (I := fun _ s => s.length = e.length) ?_ ?_ (e.getD i z79).f1.length 0 s rfl (Nat.zero_le _) hs
  ·intro s hs
   refine T.succ ?_
   simp only [qAP.l1]
   refine T.ng (next s ⟨hs, fun j hj' => ?_⟩)
   rcases Nat.lt_or_ge j i with h | h
   ·exact hj j h
   ·obtain rfl : j = i := by omega
    exact hr ‹_›
  ·intro q s hq hs next2
   refine T.succ ?_
   simp only [qAP.l1]
   have hm : rd (e.getD i z79).f1 (q : Int) ∈ (e.getD i z79).f1 := by
    rw [show rd (e.getD i z79).f1 (q : Int) = (e.getD i z79).f1.getD q 0 from by simp [rd]]
    exact qDD 0 hq
   obtain ⟨m1, m2⟩ := n3 _ hm
   refine T.po (T.po (T.po (T.po (T.po (T.bind (R := fun y => y.length = e.length) (T.some (by simpa using hs)) fun y hy => T.ite (fun _ => T.some (by simp)) fun _ => next2 y hy)))))
theorem either_T (a : Int) (l : List Int) (hl : l.length < 1000) : T (fun k => qA9.f k a l) (fun _ => True) := by
 unfold qA9.f
 refine T.loop (σ := Unit) (g := fun k _ i => qA9.l0 k a l (l.length : Int) i) (n := l.length) (by omega) (I := fun _ _ => True) (fun _ _ => ?_) (fun i _ hi _ next => ?_) l.length 0 () rfl (Nat.zero_le _) trivial
 ·refine T.succ ?_
  simp only [qA9.l0]
  exact T.ng (T.some trivial)
 ·refine T.succ ?_
  simp only [qA9.l0]
  exact T.po (T.po (T.po (T.ite (fun _ => T.some trivial) fun _ => next () trivial)))
theorem join_S (a b : Int) : S (qCK.f a b) (fun _ => True) := by
 unfold qCK.f
 repeat' first | exact S.some trivial | refine S.ite (fun _ => ?_) (fun _ => ?_)
theorem sum_T (a b c : Int) : T (fun k => qAQ.f k a b c) (fun _ => True) := by
 have h2 : ∀ d, T (fun k => qAQ.j2 k a b c d) (fun _ => True) := fun d => by
  refine T.succ ?_
  simp only [qAQ.j2]
  repeat' first | exact T.some trivial | refine T.ite (fun _ => ?_) (fun _ => ?_)
 have h1 : ∀ d, T (fun k => qAQ.j1 k a b c d) (fun _ => True) := fun d => by
  refine T.succ ?_
  simp only [qAQ.j1]
  repeat' first | exact T.some trivial | exact h2 _ | refine T.ite (fun _ => ?_) (fun _ => ?_)
 have h0 : ∀ d, T (fun k => qAQ.j0 k a b c d) (fun _ => True) := fun d => by
  refine T.succ ?_
  simp only [qAQ.j0]
  repeat' first | exact T.some trivial | exact h1 _ | refine T.ite (fun _ => ?_) (fun _ => ?_)
 unfold qAQ.f
 exact T.ite (fun _ => h0 _) fun _ => h0 _
theorem product_T (a b : Int) : T (fun k => qAE.f k a b) (fun _ => True) := by
 have h1 : ∀ d, T (fun k => qAE.j1 k a b d) (fun _ => True) := fun d => by
  refine T.succ ?_
  simp only [qAE.j1]
  repeat' first | exact T.some trivial | refine T.ite (fun _ => ?_) (fun _ => ?_)
 have h0 : ∀ d, T (fun k => qAE.j0 k a b d) (fun _ => True) := fun d => by
  refine T.succ ?_
  simp only [qAE.j0]
  repeat' first | exact T.some trivial | exact h1 _ | refine T.ite (fun _ => ?_) (fun _ => ?_)
 unfold qAE.f
 exact T.bind (either_T _ _ (by simp)) fun _ _ => T.ite (fun _ => T.bind (either_T _ _ (by simp)) fun _ _ => h0 _) fun _ => h0 _
def Ar (op : Int) (n : Nat) : Prop := 0 < op → (op = 4 ∨ op = 16 ∨ op = 17 → 1 ≤ n) ∧ (op = 15 → 3 ≤ n) ∧ (op ≠ 4 → op ≠ 15 → op ≠ 16 → op ≠ 17 → 2 ≤ n)
theorem ar_of {op : Int} {n : Nat} (h : (n : Int) = qFR op) (h0 : 0 ≤ qFR op) (h1 : op ≠ 1) (h2 : op ≠ 2) (h3 : op ≠ 3) : Ar op n ∧ 0 ≤ op := by
 unfold qFR at h h0
 constructor
 ·intro hp
  repeat' split at h
  all_goals refine ⟨?_, ?_, ?_⟩
  all_goals omega
 ·repeat' split at h0
  all_goals omega
theorem kind_T (op : Int) (kk : List Int) (x2 x3 : Int) (x4 : ByteArray) (l : List Int) (y0 : ByteArray) (y1 y2 : Int) (y3 : Bool) (y4 : List S75) (h : Ar op l.length) (hop : 0 ≤ op) : T (fun k => qA6.f k op kk x2 x3 x4 l y0 y1 y2 y3 y4) (fun _ => True) := by
 have eT : ∀ a b, T (fun k => qA9.f k a [b]) (fun _ => True) := fun a b => either_T a [b] (by simp)
 have h3 : ∀ d, (d = true → op = 10 ∨ op = 11) → op ≠ 0 → op ≠ 4 → T (fun k => qA6.j3 k l op d op kk x2 x3 x4 y0 y1 y2 y3 y4) (fun _ => True) := fun d hd g1 g2 => by
  have h := h (by omega)
  refine T.succ ?_
  simp only [qA6.j3]
  refine T.ite (fun c => ?_) fun _ => ?_
  ·have c := hd c
   exact T.po (T.po (T.bind (sum_T _ _ _) fun _ _ => T.some trivial))
  refine T.ite (fun c => T.po (T.po (T.bind (product_T _ _) fun _ _ => T.some trivial))) fun _ => ?_
  refine T.ite (fun c => T.po (T.po (T.bind (join_S _ _).T fun _ _ => T.ite (fun _ => T.po (T.bind (eT _ _) fun _ _ => T.some trivial)) fun _ => T.some trivial))) fun _ => ?_
  refine T.ite (fun c => T.po (T.bind (eT _ _) fun _ _ => T.some trivial)) fun _ => ?_
  refine T.ite (fun c => T.po (T.bind (eT _ _) fun _ _ => T.some trivial)) fun _ => ?_
  exact T.po (T.bind (eT _ _) fun _ _ => T.ite (fun _ => T.po (T.bind (eT _ _) fun _ _ => T.some trivial)) fun _ => T.some trivial)
 have h2 : ∀ d, (d = true → op = 13 ∨ op = 14) → op ≠ 0 → op ≠ 4 → T (fun k => qA6.j2 k l op d op kk x2 x3 x4 y0 y1 y2 y3 y4) (fun _ => True) := fun d hd g1 g2 => by
  have h := h (by omega)
  refine T.succ ?_
  simp only [qA6.j2]
  refine T.ite (fun c => ?_) fun _ => T.ite (fun c => h3 _ (fun _ => .inl c) g1 g2) fun _ => h3 _ (fun e => .inr (beq_iff_eq.1 e)) g1 g2
  have c := hd c
  exact T.po (T.po (T.bind (join_S _ _).T fun _ _ => T.ite (fun _ => T.some trivial) fun _ => T.some trivial))
 have h1 : ∀ d, (d = true → op = 7 ∨ op = 8) → op ≠ 0 → op ≠ 4 → T (fun k => qA6.j1 k l op d op kk x2 x3 x4 y0 y1 y2 y3 y4) (fun _ => True) := fun d hd g1 g2 => by
  have h := h (by omega)
  refine T.succ ?_
  simp only [qA6.j1]
  refine T.ite (fun c => ?_) fun _ => T.ite (fun c => h2 _ (fun _ => .inl c) g1 g2) fun _ => h2 _ (fun e => .inr (beq_iff_eq.1 e)) g1 g2
  have c := hd c
  exact T.po (T.po (T.bind (join_S _ _).T fun _ _ => T.ite (fun _ => T.some trivial) fun _ => T.some trivial))
 have h0 : ∀ d, (d = true → op = 5 ∨ op = 6) → op ≠ 0 → op ≠ 4 → T (fun k => qA6.j0 k l op d op kk x2 x3 x4 y0 y1 y2 y3 y4) (fun _ => True) := fun d hd g1 g2 => by
  have h := h (by omega)
  refine T.succ ?_
  simp only [qA6.j0]
  refine T.ite (fun c => ?_) fun _ => T.ite (fun c => ?_) fun _ => T.ite (fun c => h1 _ (fun _ => .inl c) g1 g2) fun _ => h1 _ (fun e => .inr (beq_iff_eq.1 e)) g1 g2
  ·have c := hd c
   exact T.po (T.bind (eT _ _) fun _ _ => T.ite (fun _ => T.po (T.bind (eT _ _) fun _ _ => T.some trivial)) fun _ => T.some trivial)
  ·exact T.po (T.po (T.bind (join_S _ _).T fun _ _ => T.some trivial))
 unfold qA6.f
 refine T.ite (fun _ => T.some trivial) fun g1 => T.ite (fun c => ?_) fun g2 => T.ite (fun c => h0 _ (fun _ => .inl c) g1 g2) fun _ => h0 _ (fun e => .inr (beq_iff_eq.1 e)) g1 g2
 have h := h (by omega)
 exact T.po (T.bind (eT _ _) fun _ _ => T.some trivial)
structure Sz (b : List S49) : Prop where
 acts : b.length < 9223372036854775807
 attrs : ∀ a, a ∈ b → a.f3.length < 9223372036854775807
 tabs : ∀ a, a ∈ b → a.f4.length < 9223372036854775807
 arts : ∀ a, a ∈ b → a.f5.length < 9223372036854775807
 steps : ∀ a, a ∈ b → ∀ t, t ∈ a.f4 → t.f4.length * 16 ≤ 140737488355328
theorem kattr_T (b : List S49) (hb : Sz b) (s : ByteArray) : T (fun k => qAV.f k b s) (fun _ => True) := by
 unfold qAV.f
 refine T.loop (σ := Unit) (g := fun k _ i => qAV.l0 k s b (b.length : Int) i) (n := b.length) hb.acts (I := fun _ _ => True) (fun _ _ => ?_) (fun i _ hi _ next => ?_) b.length 0 () rfl (Nat.zero_le _) trivial
 ·refine T.succ ?_
  simp only [qAV.l0]
  exact T.ng (T.some trivial)
 ·refine T.succ ?_
  simp only [qAV.l0, rd48]
  refine T.po (T.po (T.po ?_))
  refine T.loop (σ := Unit) (g := fun k _ j => qAV.l1 k s b (b.length : Int) (i : Int) (b.getD i z49).f3 ((b.getD i z49).f3.length : Int) j) (n := (b.getD i z49).f3.length) (hb.attrs _ (qDD z49 hi)) (I := fun _ _ => True) (fun _ _ => ?_) (fun j _ hj _ next2 => ?_) (b.getD i z49).f3.length 0 () rfl (Nat.zero_le _) trivial
  ·refine T.succ ?_
   simp only [qAV.l1]
   exact T.ng (next () trivial)
  ·refine T.succ ?_
   simp only [qAV.l1]
   exact T.po (T.po (T.po (T.ite (fun _ => T.some trivial) fun _ => next2 () trivial)))
theorem looked_T (b : List S49) (hb : Sz b) (x0 : Int) (x1 : List Int) (x2 x3 : Int) (x4 : ByteArray) : T (fun k => qAJ.f k b x0 x1 x2 x3 x4) (fun _ => True) := by
 have h1 : ∀ c d, T (fun k => qAJ.j1 k c d x0 x1 x2 x3 x4) (fun _ => True) := fun c d => by
  refine T.succ ?_
  simp only [qAJ.j1]
  repeat' first | exact T.some trivial | refine T.ite (fun _ => ?_) (fun _ => ?_)
 have h0 : ∀ c d, T (fun k => qAJ.j0 k c d x0 x1 x2 x3 x4) (fun _ => True) := fun c d => by
  refine T.succ ?_
  simp only [qAJ.j0]
  repeat' first | exact T.some trivial | exact h1 _ _ | refine T.ite (fun _ => ?_) (fun _ => ?_)
 unfold qAJ.f qC7.f
 refine T.bind (kattr_T b hb x4) fun r _ => T.ite (fun _ => T.ite (fun _ => T.bind (R := fun _ => True) ?_ fun _ _ => h0 _ _) fun _ => h0 _ _) fun _ => T.some trivial
 exact T.ite (fun _ => T.some trivial) fun _ => T.some trivial
theorem find_T (l : List S73) (hl : l.length < 9223372036854775807) (s : ByteArray) : T (fun k => qBD.f k l s) (fun _ => True) := by
 unfold qBD.f
 refine T.loop (σ := Unit) (g := fun k _ i => qBD.l0 k s l (l.length : Int) i) (n := l.length) hl (I := fun _ _ => True) (fun _ _ => ?_) (fun i _ hi _ next => ?_) l.length 0 () rfl (Nat.zero_le _) trivial
 ·refine T.succ ?_
  simp only [qBD.l0]
  exact T.ng (T.some trivial)
 ·refine T.succ ?_
  simp only [qBD.l0]
  exact T.po (T.po (T.po (T.ite (fun _ => T.some trivial) fun _ => next () trivial)))
theorem rd69 (l : List S73) (i : Nat) : qAK l (i : Int) = l.getD i z73 := by simp [qAK]
theorem tables_T (b : List S49) (hb : Sz b) (hL : b.length ≤ 8) (h4 : ∀ a, a ∈ b → a.f4.length ≤ 8) : T (fun k => qAG.f k b) (fun r => r.length ≤ 64) := by
 unfold qAG.f
 refine T.loop (σ := List S73) (g := fun k s i => qAG.l0 k s b (b.length : Int) i) (n := b.length) hb.acts (I := fun i s => s.length ≤ i * 8) (fun s hs => ?_) (fun i s hi hs next => ?_) b.length 0 [] rfl (Nat.zero_le _) (by simp)
 ·refine T.succ ?_
  simp only [qAG.l0]
  exact T.ng (T.some (by omega))
 ·refine T.succ ?_
  simp only [qAG.l0, rd48]
  have hm := qDD z49 hi
  have h4i := h4 _ hm
  refine T.po (T.po (T.po ?_))
  refine T.loop (σ := List S73) (g := fun k s j => qAG.l1 k s b (b.length : Int) (i : Int) (b.getD i z49).f4 ((b.getD i z49).f4.length : Int) j) (n := (b.getD i z49).f4.length) (hb.tabs _ hm) (I := fun j s => s.length ≤ i * 8 + j) (fun s hs => ?_) (fun j s hj hs next2 => ?_) (b.getD i z49).f4.length 0 s rfl (Nat.zero_le _) hs
  ·refine T.succ ?_
   simp only [qAG.l1]
   exact T.ng (next s (by omega))
  ·refine T.succ ?_
   simp only [qAG.l1, rd69]
   refine T.po (T.po (T.po (T.bind (R := fun _ => True) ?_ fun _ _ => T.po (next2 _ (by simp; omega)))))
   unfold qCT.f
   exact T.pos (hb.steps _ hm _ (qDD z73 hj)) (T.some trivial)
theorem unitary_S (a : Int) : S (qC7.f a) (fun _ => True) := by
 unfold qC7.f
 exact S.ite (fun _ => S.some trivial) fun _ => S.some trivial
theorem of_T (b : List S49) (hb : Sz b) (hL : b.length ≤ 8) (h4 : ∀ a, a ∈ b → a.f4.length ≤ 8) (e : List S79) : T (fun k => qAC.f k b e) (fun r => r.2 = 0 → Tree e) := by
 unfold qAC.f
 refine T.bind (tree_T e) fun r hr => T.ite (fun h => ?_) fun h => T.some fun e => absurd e h
 have ht := hr h
 have hn := ht.le
 refine T.po (T.po (T.mono (Q := fun _ => True) ?_ fun _ _ _ => ht))
 refine T.loop (σ := List Int) (g := fun k s i => qAC.l0 k b e s e (e.length : Int) i) (n := e.length) (by omega) (I := fun _ s => s.length = e.length) (fun s hs => ?_) (fun i s hi hs next => ?_) e.length 0 _ rfl (Nat.zero_le _) (by simp)
 ·refine T.succ ?_
  simp only [qAC.l0]
  refine T.ng ?_
  have := ht.pos
  rw [w64 (by omega) (by omega)]
  exact T.po (T.po (T.some trivial))
 ·obtain ⟨n0, n1, n2⟩ := ht.one i hi
  have put : ∀ v : Int, T (fun k => qAC.l0 k b e (s.set i v) e (e.length : Int) (wrap64 ((i : Int) + 1))) (fun _ => True) := fun v => next _ (by simpa using hs)
  have hk : ∀ (l : List Int) (y0 : ByteArray) (y1 y2 : Int) (y3 : Bool) (y4 : List S75), (l.length : Int) = qFR (e.getD i z79).f0 → (e.getD i z79).f0 ≠ 1 → (e.getD i z79).f0 ≠ 2 → (e.getD i z79).f0 ≠ 3 → T (fun k => (qA6.f k (e.getD i z79).f0 (e.getD i z79).f1 (e.getD i z79).f2 (e.getD i z79).f3 (e.getD i z79).f4 l y0 y1 y2 y3 y4).bind fun bt => if bt.2 = true then (if 0 ≤ (i : Int) then (if (i : Int) < (s.length : Int) then qAC.l0 k b e (s.set (i : Int).toNat bt.1) e (e.length : Int) (wrap64 ((i : Int) + 1)) else none) else none) else some (0, 8)) (fun _ => True) := fun l y0 y1 y2 y3 y4 hl g1 g2 g3 => by
   obtain ⟨a1, a2⟩ := ar_of hl n0 g1 g2 g3
   refine T.bind (kind_T _ _ _ _ _ l y0 y1 y2 y3 y4 a1 a2) fun v _ => T.ite (fun _ => T.po (T.po ?_)) fun _ => T.some trivial
   rw [Int.toNat_natCast]
   exact put _
  have hj : ∀ c, (c = false → (e.getD i z79).f0 ≠ 1 ∧ (e.getD i z79).f0 ≠ 2 ∧ (e.getD i z79).f0 ≠ 3) → T (fun k => qAC.j1 k b e s (i : Int) e (e.length : Int) (i : Int) c (e.getD i z79).f0 (e.getD i z79).f1 (e.getD i z79).f2 (e.getD i z79).f3 (e.getD i z79).f4) (fun _ => True) := fun c hc => by
   refine T.succ ?_
   simp only [qAC.j1]
   refine T.ite (fun _ => T.bind (looked_T b hb _ _ _ _ _) fun v _ => T.ite (fun _ => T.po (T.po ?_)) fun _ => T.some trivial) fun hcf => ?_
   ·rw [Int.toNat_natCast]
    exact put _
   obtain ⟨g1, g2, g3⟩ := hc (Bool.eq_false_iff.2 hcf)
   have hk3 := kidsN_le (e.getD i z79).f0
   refine T.loop (σ := List Int) (g := fun k l j => qAC.l1 k b e s (i : Int) l e (e.length : Int) (i : Int) (e.getD i z79).f1 ((e.getD i z79).f1.length : Int) j (e.getD i z79).f0 (e.getD i z79).f1 (e.getD i z79).f2 (e.getD i z79).f3 (e.getD i z79).f4) (n := (e.getD i z79).f1.length) (by omega) (I := fun j l => l.length = j) (fun l hl => ?_) (fun j l hj hl next2 => ?_) (e.getD i z79).f1.length 0 [] rfl (Nat.zero_le _) rfl
   ·refine T.succ ?_
    simp only [qAC.l1]
    have hj3 : ∀ (d : Bool) (y0 : ByteArray) (y1 y2 : Int) (y3 : Bool) (y4 : List S75), T (fun k => qAC.j3 k b e s (i : Int) l e (e.length : Int) (i : Int) d (e.getD i z79).f0 (e.getD i z79).f1 (e.getD i z79).f2 (e.getD i z79).f3 (e.getD i z79).f4 y0 y1 y2 y3 y4) (fun _ => True) := fun d y0 y1 y2 y3 y4 => by
     refine T.succ ?_
     simp only [qAC.j3]
     exact T.ite (fun _ => T.some trivial) fun _ => hk l _ _ _ _ _ (by omega) g1 g2 g3
    refine T.ng (T.ite (fun _ => ?_) fun _ => hk l _ _ _ _ _ (by omega) g1 g2 g3)
    refine T.bind (tables_T b hb hL h4) fun tt htt => T.bind (find_T tt (by omega) _) fun r _ => T.ite (fun _ => ?_) fun _ => T.some trivial
    exact T.bind (unitary_S _).T fun _ _ => T.ite (fun _ => T.bind (unitary_S _).T fun _ _ => hj3 _ _ _ _ _ _) fun _ => hj3 _ _ _ _ _ _
   ·refine T.succ ?_
    simp only [qAC.l1]
    have hm : rd (e.getD i z79).f1 (j : Int) ∈ (e.getD i z79).f1 := by
     rw [show rd (e.getD i z79).f1 (j : Int) = (e.getD i z79).f1.getD j 0 from by simp [rd]]
     exact qDD 0 hj
    obtain ⟨m1, m2⟩ := n2 _ hm
    exact T.po (T.po (T.po (T.po (T.po (T.po (next2 _ (by simp; omega)))))))
  refine T.succ ?_
  simp only [qAC.l0, rd80]
  refine T.po (T.po (T.po (T.ite (fun _ => hj _ (by simp)) fun g1 => T.ite (fun _ => hj _ (by simp)) fun g2 => hj _ fun g3 => ⟨g1, g2, fun e => ?_⟩)))
  rw [e] at g3
  cases g3
abbrev At := ByteArray × Int × Bool × Int × Int × Int × Int × Bool
def noAt : At := ((⟨#[]⟩ : ByteArray), 0, false, 0, 0, 0, 0, false)
theorem attr_T (b : List S49) (hb : Sz b) (s : ByteArray) : T (fun k => qAU.f k b s) (fun r => (r.2.2.2.2.2.2.2 = true ∧ ∃ a, a ∈ b ∧ ∃ x, x ∈ a.f3 ∧ x.f0.toList = s.toList) ∨ r = noAt) := by
 unfold qAU.f
 refine T.loop (σ := Unit) (g := fun k _ i => qAU.l0 k s b (b.length : Int) i) (n := b.length) hb.acts (I := fun _ _ => True) (fun _ _ => ?_) (fun i _ hi _ next => ?_) b.length 0 () rfl (Nat.zero_le _) trivial
 ·refine T.succ ?_
  simp only [qAU.l0]
  exact T.ng (T.some (.inr rfl))
 ·refine T.succ ?_
  simp only [qAU.l0, rd48]
  refine T.po (T.po (T.po ?_))
  refine T.loop (σ := Unit) (g := fun k _ j => qAU.l1 k s b (b.length : Int) (i : Int) (b.getD i z49).f3 ((b.getD i z49).f3.length : Int) j) (n := (b.getD i z49).f3.length) (hb.attrs _ (qDD z49 hi)) (I := fun _ _ => True) (fun _ _ => ?_) (fun j _ hj _ next2 => ?_) (b.getD i z49).f3.length 0 () rfl (Nat.zero_le _) trivial
  ·refine T.succ ?_
   simp only [qAU.l1]
   exact T.ng (next () trivial)
  ·refine T.succ ?_
   simp only [qAU.l1]
   refine T.po (T.po (T.po (T.ite (fun he => T.some (.inl ⟨rfl, _, qDD z49 hi, _, ?_, he⟩)) fun _ => next2 () trivial)))
   simp only [qC4, Int.toNat_natCast]
   exact qDD z98 hj
theorem Attr_T (b : List S49) (hb : Sz b) (s : ByteArray) : T (fun k => qAU.f k b s) (fun _ => True) := (attr_T b hb s).mono fun _ _ => trivial
def Art (x : S55) : Prop := x.f2.length ≤ 100 ∧ x.f3.length ≤ 100 ∧ x.f4.length ≤ 8
theorem article_S (b : List S49) (hb : Sz b) (hL : b.length ≤ 8) (h4 : ∀ a, a ∈ b → a.f4.length ≤ 8) (x : S55) : S (articleF b x) (fun r => r = 0 → Art x) := by
 have h0 : ∀ d, T (fun k => qB5.j0 k b d x.f0 x.f1 x.f2 x.f3 x.f4 x.f5) (fun r => r = 0 → Art x) := fun d => by
  refine T.succ ?_
  simp only [qB5.j0]
  refine T.ite (fun _ => T.some (by simp)) fun _ => T.ite (fun _ => T.some (by simp)) fun h8 => T.bind (Attr_T b hb _) fun v _ => T.ite (fun _ => T.ite (fun _ => T.some (by simp)) fun _ => T.ite (fun _ => ?_) fun hc => ?_) fun _ => T.some (by simp)
  ·refine T.bind (of_T b hb hL h4 _) fun u hu => T.ite (fun g => T.ite (fun _ => ?_) fun _ => T.some (by simp)) fun g => T.some fun e => absurd e g
   have t1 := hu g
   exact T.bind (of_T b hb hL h4 _) fun z hz => T.ite (fun g => T.ite (fun _ => T.some fun _ => ⟨t1.le, (hz g).le, by omega⟩) fun _ => T.some (by simp)) fun g => T.some fun e => absurd e g
  ·exact T.bind (of_T b hb hL h4 _) fun z hz => T.ite (fun g => T.ite (fun _ => T.some fun _ => ⟨by omega, (hz g).le, by omega⟩) fun _ => T.some (by simp)) fun g => T.some fun e => absurd e g
 unfold articleF
 refine T.lim (fun k => qB5.mono _ _ _ _ _ _ _ _) ?_
 unfold qB5.f
 exact T.ite (fun _ => h0 _) fun _ => h0 _
def Sm (n : Nat) (l : List ByteArray) : Prop := l.length ≤ n ∧ ∀ s, s ∈ l → s.size ≤ maxLen
theorem Sm.cast {n : Nat} {l : List ByteArray} (h : Sm n l) {m : Nat} (hm : n ≤ m) : Sm m l := ⟨Nat.le_trans h.1 hm, h.2⟩
theorem Sm.add {n : Nat} {l : List ByteArray} (h : Sm n l) {s : ByteArray} (hs : s.size ≤ maxLen) : Sm (n + 1) (l ++ [s]) := ⟨by have := h.1; simp; omega, fun x hx => by
 rcases List.mem_append.1 hx with hx | hx
 ·exact h.2 x hx
 ·rw [List.mem_singleton.1 hx]; exact hs⟩
theorem ofB_all {n : Nat} {l : List ByteArray} (h : Sm n l) {m : List (List UInt8)} (hl : m.length ≤ l.length) (hm : ∀ x, x ∈ m → x ∈ toB l) : Sm n (ofB m) := by
 refine ⟨by rw [ofB_len]; exact Nat.le_trans hl h.1, fun s hs => ?_⟩
 obtain ⟨x, hx, rfl⟩ := List.mem_map.1 hs
 obtain ⟨y, hy, rfl⟩ := List.mem_map.1 (hm x hx)
 have := h.2 y hy
 simpa using this
theorem sort_S {n : Nat} {l : List ByteArray} (h : Sm n l) (hn : n < 4611686018427387904) : S (qD3.f l) (Sm n) := by
 unfold qD3.f
 refine S.pos (Nat.lt_of_le_of_lt h.1 hn) (S.some (ofB_all h (by simp [qFI]) fun x hx => ?_))
 exact List.mem_mergeSort.1 hx
theorem compact_mem {α : Type} [Inhabited α] [DecidableEq α] (zs : List α) (x : α) (h : x ∈ Lib.compact zs) : x ∈ zs := by
 unfold Lib.compact Lib.compactUpTo at h
 obtain ⟨j, hj, rfl⟩ := List.mem_map.1 h
 have hj' := List.mem_range.1 (List.mem_filter.1 hj).1
 rw [getElem!_pos _ _ (by simpa using hj')]
 simp
theorem compact_S {n : Nat} {l : List ByteArray} (h : Sm n l) (hn : n < 4611686018427387904) : S (qCW.f l) (Sm n) := by
 unfold qCW.f
 refine S.pos (Nat.lt_of_le_of_lt h.1 hn) (S.some (ofB_all h ?_ fun x hx => compact_mem _ x hx))
 unfold Lib.compact Lib.compactUpTo
 rw [List.length_map]
 exact Nat.le_trans (List.length_filter_le _ _) (by simp [qFI])
theorem names_T (e : List S79) (he : e.length ≤ 100) (hs : ∀ n, n ∈ e → n.f4.size ≤ maxLen) : T (fun k => qAL.f k e) (fun r => Sm 100 r.1 ∧ Sm 100 r.2) := by
 unfold qAL.f
 refine T.loop (σ := List ByteArray × List ByteArray) (g := fun k s i => qAL.l0 k s.1 s.2 e (e.length : Int) i) (n := e.length) (by omega) (I := fun i s => Sm i s.1 ∧ Sm i s.2) ?_ ?_ e.length 0 ([], []) rfl (Nat.zero_le _) ⟨⟨by simp, fun s hs => by cases hs⟩, ⟨by simp, fun s hs => by cases hs⟩⟩
 ·rintro ⟨s1, s2⟩ ⟨h1, h2⟩
  refine T.succ ?_
  simp only [qAL.l0]
  exact T.ng (T.bind (sort_S (h1.cast he) (by omega)).T fun a ha => T.bind (sort_S (h2.cast he) (by omega)).T fun b hb => T.bind (compact_S ha (by omega)).T fun c hc => T.bind (compact_S hb (by omega)).T fun d hd => T.some ⟨hc, hd⟩)
 ·rintro i ⟨s1, s2⟩ hi ⟨h1, h2⟩ next
  have hn := hs _ (qDD z79 hi)
  have l1 : s1.length ≤ i := h1.1
  have l2 : s2.length ≤ i := h2.1
  have hj : ∀ d x0 x1 x2 x3, T (fun k => qAL.j1 k s1 s2 e (e.length : Int) (i : Int) (e.getD i z79).f0 d x0 x1 x2 x3 (e.getD i z79).f4) (fun r => Sm 100 r.1 ∧ Sm 100 r.2) := fun d x0 x1 x2 x3 => by
   refine T.succ ?_
   simp only [qAL.j1]
   refine T.ite (fun _ => T.po (next (s1 ++ [(e.getD i z79).f4], s2) ⟨h1.add hn, h2.cast (by omega)⟩)) fun _ => T.ite (fun _ => T.po (next (s1, s2 ++ [(e.getD i z79).f4]) ⟨h1.cast (by omega), h2.add hn⟩)) fun _ => next (s1, s2) ⟨h1.cast (by omega), h2.cast (by omega)⟩
  refine T.succ ?_
  simp only [qAL.l0, rd80]
  exact T.po (T.po (T.po (T.ite (fun _ => hj _ _ _ _ _) fun _ => T.ite (fun _ => hj _ _ _ _ _) fun _ => hj _ _ _ _ _)))
structure Sx (b : List S49) : Prop extends Sz b where
 aname : ∀ a, a ∈ b → a.f0.size ≤ maxLen
 xname : ∀ a, a ∈ b → ∀ x, x ∈ a.f5 → x.f0.size ≤ maxLen ∧ x.f1.size ≤ maxLen
 refs : ∀ a, a ∈ b → ∀ x, x ∈ a.f5 → ∀ r, r ∈ x.f4 → r.f0.size ≤ maxLen ∧ r.f1.size ≤ maxLen
 cond : ∀ a, a ∈ b → ∀ x, x ∈ a.f5 → ∀ n, n ∈ x.f2 → n.f4.size ≤ maxLen ∧ n.f1.length * 8 ≤ 140737488355328
 then_ : ∀ a, a ∈ b → ∀ x, x ∈ a.f5 → ∀ n, n ∈ x.f3 → n.f4.size ≤ maxLen ∧ n.f1.length * 8 ≤ 140737488355328
theorem copy_T (e : List S79) (he : e.length ≤ 100) (hk : ∀ n, n ∈ e → n.f1.length * 8 ≤ 140737488355328) : T (fun k => qBN.f k e) (fun _ => True) := by
 unfold qBN.f
 refine T.loop (σ := List S79) (g := fun k s i => qBN.l0 k s e (e.length : Int) i) (n := e.length) (by omega) (I := fun i s => s.length = i) (fun s hs => ?_) (fun i s hi hs next => ?_) e.length 0 [] rfl (Nat.zero_le _) rfl
 ·refine T.succ ?_
  simp only [qBN.l0]
  exact T.ng (T.some trivial)
 ·refine T.succ ?_
  simp only [qBN.l0, rd80]
  refine T.po (T.po (T.po (T.bind (R := fun _ => True) ?_ fun _ _ => T.po (next _ (by simp; omega)))))
  unfold qCL.f
  exact T.pos (hk _ (qDD z79 hi)) (T.some trivial)
theorem rd54 (l : List S55) (i : Nat) : qAY l (i : Int) = l.getD i z55 := by simp [qAY]
def Arts (b : List S49) : Prop := ∀ a, a ∈ b → ∀ x, x ∈ a.f5 → Art x
theorem Article_T (b : List S49) (hb : Sx b) (hA : Arts b) (s t : ByteArray) : T (fun k => qAI.f k b s t) (fun _ => True) := by
 unfold qAI.f
 refine T.loop (σ := Unit) (g := fun k _ i => qAI.l0 k b (b.length : Int) i s t) (n := b.length) hb.acts (I := fun _ _ => True) (fun _ _ => ?_) (fun i _ hi _ next => ?_) b.length 0 () rfl (Nat.zero_le _) trivial
 ·refine T.succ ?_
  simp only [qAI.l0]
  exact T.ng (T.some trivial)
 ·refine T.succ ?_
  simp only [qAI.l0, rd48]
  have hm := qDD z49 hi
  refine T.po (T.po (T.po ?_))
  generalize hy : b.getD i z49 = y at *
  refine T.loop (σ := Unit) (g := fun k _ j => qAI.l1 k b (b.length : Int) (i : Int) y.f5 (y.f5.length : Int) j s t y.f0 y.f1 y.f2 y.f3 y.f4 y.f5) (n := y.f5.length) (hb.arts _ hm) (I := fun _ _ => True) (fun _ _ => ?_) (fun j _ hj _ next2 => ?_) y.f5.length 0 () rfl (Nat.zero_le _) trivial
  ·refine T.succ ?_
   simp only [qAI.l1]
   exact T.ng (next () trivial)
  ·refine T.succ ?_
   simp only [qAI.l1, rd54]
   have hx := qDD z55 hj
   obtain ⟨a1, a2, a3⟩ := hA _ hm _ hx
   refine T.po (T.po (T.po (T.ite (fun _ => T.ite (fun _ => ?_) fun _ => next2 () trivial) fun _ => next2 () trivial)))
   refine T.bind (R := fun _ => True) ?_ fun _ _ => T.some trivial
   unfold qAX.f qBU.f
   exact T.bind (copy_T _ a1 fun n hn => (hb.cond _ hm _ hx n hn).2) fun _ _ => T.bind (copy_T _ a2 fun n hn => (hb.then_ _ hm _ hx n hn).2) fun _ _ => T.bind (R := fun _ => True) (T.po (T.some trivial)) fun _ _ => T.some trivial
theorem rindex_T (l : List S59) (hl : l.length < 1000) (s t : ByteArray) : T (fun k => qBL.f k l s t) (fun _ => True) := by
 unfold qBL.f
 refine T.loop (σ := Unit) (g := fun k _ i => qBL.l0 k l (l.length : Int) i s t) (n := l.length) (by omega) (I := fun _ _ => True) (fun _ _ => ?_) (fun i _ hi _ next => ?_) l.length 0 () rfl (Nat.zero_le _) trivial
 ·refine T.succ ?_
  simp only [qBL.l0]
  exact T.ng (T.some trivial)
 ·refine T.succ ?_
  simp only [qBL.l0]
  exact T.po (T.po (T.po (T.ite (fun _ => T.some trivial) fun _ => next () trivial)))
theorem over_S (b : List S49) (hb : Sx b) (hA : Arts b) (an : ByteArray) (x : S55) (hx : Art x) : S (overF b an x) (fun _ => True) := by
 obtain ⟨_, _, h8⟩ := hx
 unfold overF
 refine T.lim (fun k => qB6.mono _ _ _ _ _ _ _ _ _ _) ?_
 unfold qB6.f
 refine T.loop (σ := Unit) (g := fun k _ i => qB6.l0 k b x.f4 (x.f4.length : Int) i an x.f0 x.f0 x.f1 x.f2 x.f3 x.f4 x.f5) (n := x.f4.length) (by omega) (I := fun _ _ => True) (fun _ _ => ?_) (fun i _ hi _ next => ?_) x.f4.length 0 () rfl (Nat.zero_le _) trivial
 ·refine T.succ ?_
  simp only [qB6.l0]
  exact T.ng (T.some trivial)
 ·have hj : ∀ d y0 y1, T (fun k => qB6.j1 k b (i : Int) x.f4 (x.f4.length : Int) (i : Int) d an x.f0 x.f0 x.f1 x.f2 x.f3 x.f4 x.f5 y0 y1) (fun _ => True) := fun d y0 y1 => by
   refine T.succ ?_
   simp only [qB6.j1]
   refine T.ite (fun _ => T.some trivial) fun _ => T.po (T.po ?_)
   unfold qCU.f
   exact T.bind (R := fun _ => True) (T.bind (rindex_T _ (by simp; omega) _ _) fun _ _ => T.some trivial) fun _ _ => T.ite (fun _ => T.some trivial) fun _ => next () trivial
  refine T.succ ?_
  simp only [qB6.l0]
  exact T.po (T.po (T.po (T.bind (Article_T b hb hA _ _) fun _ _ => T.ite (fun _ => T.ite (fun _ => hj _ _ _) fun _ => hj _ _ _) fun _ => T.some trivial)))
theorem S_ite {α : Type} {c : Prop} {i : Decidable c} {a b : Option α} {Q : α → Prop} (h1 : c → S a Q) (h2 : ¬ c → S b Q) : S (@_root_.ite _ c i a b) Q := S.ite h1 h2
def RI (R : Refs) : Prop := ∀ r, r ∈ R → r.f0.size ≤ maxLen ∧ r.f1.size ≤ maxLen
def OI (O : qG0) : Prop := ∀ p, p ∈ O → p.2.length ≤ 8 ∧ RI p.2
def AI (n : Nat) (R : Refs) (O : qG0) : Prop := R.length ≤ n ∧ O.length ≤ n ∧ RI R ∧ OI O
theorem AI.cast {n m : Nat} {R : Refs} {O : qG0} (h : AI n R O) (hm : n ≤ m) : AI m R O := ⟨Nat.le_trans h.1 hm, Nat.le_trans h.2.1 hm, h.2.2⟩
theorem in_S (b : List S49) (hb : Sx b) (hL : Lim b) (an : ByteArray) (ha : an.size ≤ maxLen) : ∀ (xs : List S55) (L : List ByteArray) (R : Refs) (O : qG0) (n : Nat), (∀ x, x ∈ xs → x.f0.size ≤ maxLen ∧ RI x.f4) → L.length + xs.length ≤ 100 → n + xs.length ≤ 1000 → AI n R O →
  S (chk_in b an xs L R O) (fun p => AI (n + xs.length) p.2.1 p.2.2 ∧ (p.1 = 0 → (xs.map fun x => x.f0).Nodup ∧ ∀ x, x ∈ xs → x.f0 ∉ L ∧ Art x))
 | [], L, R, O, n, hx, hl, hn, hA => S.some ⟨hA, fun _ => ⟨List.nodup_nil, fun x hx => (by cases hx)⟩⟩
 | x :: xs, L, R, O, n, hx, hl, hn, hA => by
  rw [List.length_cons] at hl hn ⊢
  have hA' := hA
  obtain ⟨a1, a2, a3, a4⟩ := hA
  have hx0 := hx x (List.mem_cons_self ..)
  unfold chk_in
  refine S.pos ⟨by omega, by omega, by omega, ha, hx0.1⟩ (S.ite (fun h0 => S.some ⟨hA'.cast (by omega), fun e => absurd e h0⟩) fun h0 => S.bind (article_S b hb.toSz hL.acts hL.tabs x) fun e he => S.ite (fun h1 => S.some ⟨hA'.cast (by omega), fun e => absurd e h1⟩) fun h1 => ?_)
  have hArt := he (by omega)
  refine (in_S b hb hL an ha xs (x.f0 :: L) _ _ (n + 1) (fun y hy => hx y (zz _ hy)) (by simp; omega) (by omega) ⟨by simp; omega, by simp; omega, ?_, ?_⟩).mono fun p ⟨hp1, hp2⟩ => ⟨hp1.cast (by omega), fun hp => ?_⟩
  ·intro r hr
   rcases List.mem_append.1 hr with hr | hr
   ·exact a3 r hr
   ·rw [List.mem_singleton.1 hr]; exact ⟨ha, hx0.1⟩
  ·intro p hp
   rcases List.mem_cons.1 hp with rfl | hp
   ·exact ⟨hArt.2.2, hx0.2⟩
   ·exact a4 p hp
  ·obtain ⟨n1, n2⟩ := hp2 hp
   refine ⟨?_, fun y hy => ?_⟩
   ·rw [List.map_cons, List.nodup_cons]
    refine ⟨fun hm => ?_, n1⟩
    obtain ⟨y, hy, e⟩ := List.mem_map.1 hm
    exact (n2 y hy).1 (by rw [e]; exact List.mem_cons_self ..)
   ·rcases List.mem_cons.1 hy with rfl | hy
    ·exact ⟨addR_zero h0, hArt⟩
    ·exact ⟨fun hm => (n2 y hy).1 (zz _ hm), (n2 y hy).2⟩
structure Arr (l : List S49) : Prop where
 arts : ∀ a, a ∈ l → ∀ x, x ∈ a.f5 → Art x
 names : ∀ a, a ∈ l → (a.f5.map fun x => x.f0).Nodup
theorem acts_S (b : List S49) (hb : Sx b) (hL : Lim b) : ∀ (l : List S49) (R : Refs) (O : qG0) (n : Nat), (∀ a, a ∈ l → a ∈ b) → n + l.length * 60 ≤ 1000 → AI n R O → S (qEJ b l R O) (fun p => AI (n + l.length * 60) p.2.1 p.2.2 ∧ (p.1 = 0 → Arr l))
 | [], R, O, n, hl, hn, hA => S.some ⟨hA.cast (by omega), fun _ => ⟨fun a h => (by cases h), fun a h => (by cases h)⟩⟩
 | a :: l, R, O, n, hl, hn, hA => by
  rw [List.length_cons] at hn ⊢
  have hm := hl a (List.mem_cons_self ..)
  have h60 := hL.arts a hm
  unfold qEJ
  refine S.bind (in_S b hb hL a.f0 (hb.aname a hm) a.f5 [] R O n (fun x hx => ⟨(hb.xname a hm x hx).1, hb.refs a hm x hx⟩) (by simp; omega) (by omega) hA) fun p ⟨hp1, hp2⟩ => S.ite (fun h => S.some ⟨hp1.cast (by omega), fun e => absurd e h⟩) fun h => ?_
  refine (acts_S b hb hL l _ _ (n + a.f5.length) (fun x hx => hl x (zz _ hx)) (by omega) hp1).mono fun q ⟨hq1, hq2⟩ => ⟨hq1.cast (by omega), fun e => ?_⟩
  obtain ⟨g1, g2⟩ := hq2 e
  obtain ⟨m1, m2⟩ := hp2 (by omega)
  refine ⟨fun y hy => ?_, fun y hy => ?_⟩
  ·rcases List.mem_cons.1 hy with rfl | hy
   ·exact fun x hx => (m2 x hx).2
   ·exact g1 y hy
  ·rcases List.mem_cons.1 hy with rfl | hy
   ·exact m1
   ·exact g2 y hy
theorem over_in_S (b : List S49) (hb : Sx b) (hA : Arts b) (an : ByteArray) : ∀ (xs : List S55), (∀ x, x ∈ xs → Art x) → S (qEW b an xs) (fun _ => True)
 | [], _ => S.some trivial
 | x :: xs, h => by
  unfold qEW
  exact S.bind (over_S b hb hA an x (h x (List.mem_cons_self ..))) fun _ _ => S.ite (fun _ => S.some trivial) fun _ => over_in_S b hb hA an xs fun y hy => h y (zz _ hy)
theorem over_acts_S (b : List S49) (hb : Sx b) (hA : Arts b) : ∀ (l : List S49), (∀ a, a ∈ l → ∀ x, x ∈ a.f5 → Art x) → S (qDI b l) (fun _ => True)
 | [], _ => S.some trivial
 | a :: l, h => by
  unfold qDI
  exact S.bind (over_in_S b hb hA a.f0 a.f5 (h a (List.mem_cons_self ..))) fun _ _ => S.ite (fun _ => S.some trivial) fun _ => over_acts_S b hb hA l fun y hy => h y (zz _ hy)
abbrev Looks := List (ByteArray × List ByteArray)
def LI (n : Nat) (P : Looks) : Prop := P.length ≤ n ∧ ∀ p, p ∈ P → p.1.size ≤ maxLen ∧ Sm 200 p.2
theorem qFK {α β : Type} (f : α → List β) (c : Nat) : ∀ (l : List α), (∀ x, x ∈ l → (f x).length ≤ c) → (l.flatMap f).length ≤ l.length * c
 | [], _ => by simp
 | x :: l, h => by
  rw [List.flatMap_cons, List.length_append, List.length_cons, Nat.add_mul, Nat.one_mul]
  have h1 := h x (List.mem_cons_self ..)
  have h2 := qFK f c l fun y hy => h y (zz _ hy)
  omega
theorem lookN_le {n : Nat} {P : Looks} (h : LI n P) (s : ByteArray) : (qEQ P s).length ≤ n * 200 := by
 unfold qEQ
 have h1 := qFK (fun p : ByteArray × List ByteArray => p.2) 200 (P.filter fun p => decide (p.1 = s)) fun p hp => (h.2 p (List.mem_filter.1 hp).1).2.1
 have h2 := List.length_filter_le (fun p : ByteArray × List ByteArray => decide (p.1 = s)) P
 have h3 := h.1
 exact Nat.le_trans h1 (Nat.mul_le_mul_right _ (by omega))
theorem looks_go_S : ∀ (xs : List S55) (P : Looks) (n : Nat), (∀ x, x ∈ xs → Art x ∧ x.f1.size ≤ maxLen ∧ (∀ n, n ∈ x.f2 → n.f4.size ≤ maxLen) ∧ ∀ n, n ∈ x.f3 → n.f4.size ≤ maxLen) → n + xs.length ≤ 1000 → LI n P → S (qE6 xs P) (LI (n + xs.length))
 | [], P, n, _, _, h => S.some h
 | x :: xs, P, n, hx, hn, h => by
  rw [List.length_cons] at hn ⊢
  obtain ⟨⟨g1, g2, _⟩, g3, g4, g5⟩ := hx x (List.mem_cons_self ..)
  have h1 := h.1
  have hl := lookN_le h x.f1
  unfold qE6
  refine S.pos (by omega) (S.pos g3 (S.bind (T.lim (fun k => qAL.mono _ _) (names_T x.f2 g1 g4)) fun c hc => S.bind (T.lim (fun k => qAL.mono _ _) (names_T x.f3 g2 g5)) fun t ht => ?_))
  have c1 := hc.1.1
  have t1 := ht.1.1
  have hm : n * 200 ≤ 1000 * 200 := Nat.mul_le_mul_right _ (by omega)
  refine S.pos (by omega) ((looks_go_S xs _ (n + 1) (fun y hy => hx y (zz _ hy)) (by omega) ⟨by simp; omega, fun p hp => ?_⟩).mono fun r hr => ⟨by have := hr.1; omega, hr.2⟩)
  rcases List.mem_append.1 hp with hp | hp
  ·exact h.2 p hp
  ·rw [List.mem_singleton.1 hp]
   refine ⟨g3, by simp; omega, fun s hs => ?_⟩
   rcases List.mem_append.1 hs with hs | hs
   ·exact hc.1.2 s hs
   ·exact ht.1.2 s hs
theorem looks_acts_S (b : List S49) (hb : Sx b) (hL : Lim b) (hA : Arts b) : ∀ (l : List S49) (P : Looks) (n : Nat), (∀ a, a ∈ l → a ∈ b) → n + l.length * 60 ≤ 1000 → LI n P → S (qCG.go l P) (LI (n + l.length * 60))
 | [], P, n, _, _, h => S.some h
 | a :: l, P, n, hl, hn, h => by
  rw [List.length_cons] at hn ⊢
  have hm := hl a (List.mem_cons_self ..)
  have h60 := hL.arts a hm
  unfold qCG.go
  refine S.bind (looks_go_S a.f5 P n (fun x hx => ⟨hA a hm x hx, (hb.xname a hm x hx).2, fun y hy => (hb.cond a hm x hx y hy).1, fun y hy => (hb.then_ a hm x hx y hy).1⟩) (by omega) h) fun P' hP' => ?_
  exact (looks_acts_S b hb hL hA l P' (n + a.f5.length) (fun x hx => hl x (zz _ hx)) (by omega) hP').mono fun r hr => ⟨by have := hr.1; omega, hr.2⟩
theorem last_S {P : Looks} (h : LI 480 P) : S (chk_last P) (fun _ => True) := by
 have h1 := h.1
 unfold chk_last
 refine S.pos ⟨fun s hs => ?_, ?_, by omega⟩ (S_ite (fun _ => S.some trivial) fun _ => S.some trivial)
 ·obtain ⟨p, hp, hs⟩ := List.mem_flatMap.1 hs
  obtain ⟨g1, g2⟩ := h.2 p hp
  rcases List.mem_cons.1 hs with rfl | hs
  ·exact g1
  ·exact g2.2 s hs
 ·have h2 := qFK (fun p : ByteArray × List ByteArray => p.1 :: p.2) 201 P fun p hp => by have := (h.2 p hp).2.1; simp; omega
  have h3 : P.length * 201 ≤ 480 * 201 := Nat.mul_le_mul_right _ h1
  unfold qF0
  have : maxLen = 9223372036854775807 := by decide
  omega
structure GoodB (b : List S49) : Prop where
 lim : Lim b
 parts : Parts b
 arr : Arr b
theorem check_S (b : List S49) (hb : Sx b) (hsz : ∀ a, a ∈ b → a.f3.length ≤ 140737488355328) : S (qBZ.f b) (fun r => r = 0 → GoodB b) := by
 unfold qBZ.f limitsF
 refine S.bind (T.lim (fun k => qB9.mono _ _) (limits_is b hb.acts hsz)) fun e he => S.ite (fun h => S.some fun e => absurd e h) fun h => ?_
 have hL := he (by omega)
 have h8 := hL.acts
 refine S.bind (parts_S hL) fun e he => S.ite (fun h => S.some fun e => absurd e h) fun h => ?_
 have hP := he (by omega)
 refine S.bind (acts_S b hb hL b [] [] 0 (fun _ h => h) (by omega) ⟨by simp, by simp, fun r hr => (by cases hr), fun p hp => (by cases hp)⟩) fun p ⟨hp1, hp2⟩ => ?_
 unfold chk_k1
 refine S.ite (fun h => S.some fun e => absurd e h) fun h => ?_
 have hR := hp2 (by omega)
 refine S.bind (over_acts_S b hb hR.arts b hR.arts) fun e _ => ?_
 unfold chk_k2
 refine S.ite (fun h => S.some fun e => absurd e h) fun h => S.mono (Q := fun _ => True) ?_ fun _ _ _ => ⟨hL, hP, hR⟩
 obtain ⟨r1, r2, r3, r4⟩ := hp1
 unfold chk_end
 refine S.pos ⟨fun x hx => ?_, ?_⟩ (S_ite (fun _ => S.some trivial) fun _ => ?_)
 ·rcases List.mem_append.1 hx with hx | hx
  ·exact r3 x hx
  ·obtain ⟨q, hq, hx⟩ := List.mem_flatMap.1 hx
   exact (r4 q hq).2 x hx
 ·have h2 := qFK (fun p : S59 × List S59 => p.2) 8 p.2.2 fun q hq => (r4 q hq).1
  have h3 : p.2.2.length * 8 ≤ (0 + b.length * 60) * 8 := Nat.mul_le_mul_right _ r2
  unfold allRefs
  rw [List.length_append]
  have : maxLen = 9223372036854775807 := by decide
  omega
 ·unfold qCG.f
  exact S.bind (looks_acts_S b hb hL hR.arts b [] 0 (fun _ h => h) (by omega) ⟨by simp, fun p hp => (by cases hp)⟩) fun P hP => last_S ⟨by have := hP.1; omega, hP.2⟩
theorem bodyP_small {b : List S49} (h : GoodB b) : (qC9 b).length ≤ 100000 := by
 have h8 := h.lim.acts
 have h1 := qFK actP 12500 b fun a ha => by
  unfold actP
  rw [List.length_append]
  have h4 := h.lim.tabs a ha
  have h5 := h.lim.arts a ha
  have g1 := qFK (qCC a) 40 a.f4 fun t ht => by
   have := h.parts.steps a ha t ht
   have g := qFK (fun i => qF9 a t i (t.f4.getD i z75)) 2 (List.range t.f4.length) fun i _ => by simp [qF9]
   unfold qCC upto
   rw [List.length_range] at g
   omega
  have g2 := qFK (artP a) 200 a.f5 fun x hx => by
   obtain ⟨a1, a2, _⟩ := h.arr.arts a ha x hx
   have ge : ∀ (p : Int) (e : List S79), (qES a x p e).length ≤ e.length := fun p e => by
    have g := qFK (fun i => qEG a x p i (e.getD i z79)) 1 (List.range e.length) fun i _ => by
     unfold qEG
     split <;> simp
    unfold qES upto
    rw [List.length_range] at g
    omega
   have e1 := ge 0 x.f2
   have e2 := ge 1 x.f3
   unfold artP
   rw [List.length_append]
   omega
  have m1 : a.f4.length * 40 ≤ 8 * 40 := Nat.mul_le_mul_right _ h4
  have m2 : a.f5.length * 200 ≤ 60 * 200 := Nat.mul_le_mul_right _ h5
  omega
 unfold qC9
 have m1 : b.length * 12500 ≤ 8 * 12500 := Nat.mul_le_mul_right _ h8
 omega
theorem literals_T (a : S49) (x : S55) (p : Int) (e : List S79) (he : e.length ≤ 100) (L : List S25) (hL : L.length ≤ 200000) (q : Int) : T (fun k => qBH.f k L a.f0 x.f0 p q e) (fun r => r = L ++ (qES a x p e).map (·.1)) := by
 unfold qBH.f
 refine T.loop (σ := List S25 × Int) (g := fun k s i => qBH.l0 k s.1 e (e.length : Int) i a.f0 x.f0 p s.2) (n := e.length) (by omega) (I := fun i s => s.1 = L ++ (upto (fun i => qEG a x p i (e.getD i z79)) i).map (·.1) ∧ s.1.length ≤ L.length + i) ?_ ?_ e.length 0 (L, q) rfl (Nat.zero_le _) ⟨by simp [upto], by simp⟩
 ·rintro ⟨s, v⟩ ⟨h1, h2⟩
  refine T.succ ?_
  simp only [qBH.l0]
  exact T.ng (T.some h1)
 ·rintro i ⟨s, v⟩ hi ⟨h1, h2⟩ next
  dsimp only at h1 h2
  refine T.succ ?_
  simp only [qBH.l0, rd80]
  refine T.po (T.po (T.po (T.ite (fun c0 => T.ite (fun c1 => ?_) fun c1 => ?_) fun c0 => ?_)))
  ·refine next (s, v) ⟨?_, by dsimp only; omega⟩
   rw [qDP, show qEG a x p i (e.getD i z79) = [] from if_pos (.inr c1), List.append_nil]
   exact h1
  ·refine T.po (next (s ++ [⟨a.f0, x.f0, p, (i : Int)⟩], (i : Int)) ⟨?_, by simp; omega⟩)
   rw [qDP, show qEG a x p i (e.getD i z79) = [(⟨a.f0, x.f0, p, (i : Int)⟩, ⟨(e.getD i z79).f2, (e.getD i z79).f3⟩)] from if_neg (fun h => h.elim (fun h => h c0) c1), List.map_append, ← List.append_assoc, ← h1]
   rfl
  ·refine next (s, v) ⟨?_, by dsimp only; omega⟩
   rw [qDP, show qEG a x p i (e.getD i z79) = [] from if_pos (.inl c0), List.append_nil]
   exact h1
def fsts (P : List (S25 × S69)) : List S25 := P.map (·.1)
theorem fsts_len (P : List (S25 × S69)) : (fsts P).length = P.length := by simp [fsts]
theorem fsts_app (P Q : List (S25 × S69)) : fsts (P ++ Q) = fsts P ++ fsts Q := by simp [fsts]
theorem find_l {b : List S49} (hb : Sz b) (h : GoodB b) : T (fun k => qB1.l0 k ([] : List S25) b (b.length : Int) 0) (fun r => r = (fsts (qC9 b), 0)) := by
 have hM := bodyP_small h
 refine T.loop (σ := List S25) (g := fun k s i => qB1.l0 k s b (b.length : Int) i) (n := b.length) hb.acts (I := fun i s => s = fsts (qC9 (b.take i))) ?_ ?_ b.length 0 [] rfl (Nat.zero_le _) (by simp [qC9, fsts])
 ·rintro s rfl
  refine T.succ ?_
  simp only [qB1.l0]
  exact T.ng (T.some (by rw [List.take_length]))
 ·rintro i s hi rfl next
  have hy := qDD z49 hi
  have hLy := flat_lt actP z49 hi
  refine T.succ ?_
  simp only [qB1.l0, rd48]
  refine T.po (T.po (T.po ?_))
  generalize hy_ : b.getD i z49 = y at *
  have hAct : (actP y).length = (y.f4.flatMap (qCC y)).length + (y.f5.flatMap (artP y)).length := by unfold actP; exact List.length_append
  have hB1 : (qC9 b).length = (b.flatMap actP).length := rfl
  have hB2 : (qC9 (b.take i)).length = ((b.take i).flatMap actP).length := rfl
  refine T.loop (σ := List S25) (g := fun k s j => qB1.l1 k s b (b.length : Int) (i : Int) y.f4 (y.f4.length : Int) j y.f0 y.f1 y.f2 y.f3 y.f4 y.f5) (n := y.f4.length) (hb.tabs _ hy) (I := fun j s => s = fsts (qC9 (b.take i) ++ (y.f4.take j).flatMap (qCC y))) ?_ ?_ y.f4.length 0 _ rfl (Nat.zero_le _) (by simp)
  ·rintro s rfl
   refine T.succ ?_
   simp only [qB1.l1]
   refine T.ng ?_
   rw [List.take_length]
   refine T.loop (σ := List S25) (g := fun k s j => qB1.l3 k s b (b.length : Int) (i : Int) y.f5 (y.f5.length : Int) j y.f0 y.f1 y.f2 y.f3 y.f4 y.f5) (n := y.f5.length) (hb.arts _ hy) (I := fun j s => s = fsts (qC9 (b.take i) ++ y.f4.flatMap (qCC y) ++ (y.f5.take j).flatMap (artP y))) ?_ ?_ y.f5.length 0 _ rfl (Nat.zero_le _) (by simp)
   ·rintro s rfl
    refine T.succ ?_
    simp only [qB1.l3]
    refine T.ng (next _ ?_)
    rw [List.take_length, List.append_assoc]
    unfold qC9
    rw [qEI actP z49 hi, hy_]
    rfl
   ·rintro j s hj rfl next2
    have hx := qDD z55 hj
    have hLx := flat_lt (artP y) z55 hj
    obtain ⟨g1, g2, _⟩ := h.arr.arts _ hy _ hx
    have hl : (fsts (qC9 (b.take i) ++ y.f4.flatMap (qCC y) ++ (y.f5.take j).flatMap (artP y))).length ≤ 100000 := by
     rw [fsts_len]
     simp only [List.length_append]
     omega
    refine T.succ ?_
    simp only [qB1.l3, rd54]
    refine T.po (T.po (T.po (T.bind (literals_T y (y.f5.getD j z55) 0 _ g1 _ (by omega) 0) fun s1 hs1 => T.bind (literals_T y (y.f5.getD j z55) 1 _ g2 s1 ?_ 0) fun s2 hs2 => next2 s2 ?_)))
    ·have ge : (qES y (y.f5.getD j z55) 0 (y.f5.getD j z55).f2).length ≤ (y.f5.getD j z55).f2.length := by
      have g := qFK (fun i => qEG y (y.f5.getD j z55) 0 i ((y.f5.getD j z55).f2.getD i z79)) 1 (List.range (y.f5.getD j z55).f2.length) fun i _ => by
       unfold qEG
       split <;> simp
      unfold qES upto
      rw [List.length_range] at g
      omega
     rw [hs1, List.length_append, List.length_map]
     omega
    ·rw [hs2, hs1, qEI (artP y) z55 hj, ← List.append_assoc, fsts_app _ (artP y _), List.append_assoc]
     congr 1
     exact (fsts_app (qES y _ 0 _) (qES y _ 1 _)).symm
  ·rintro j s hj rfl next2
   have hLt := flat_lt (qCC y) z73 hj
   have h20 := h.parts.steps _ hy _ (qDD z73 hj)
   refine T.succ ?_
   simp only [qB1.l1, rd69]
   refine T.po (T.po (T.po ?_))
   generalize ht_ : y.f4.getD j z73 = t at *
   refine T.loop (σ := List S25) (g := fun k s q => qB1.l2 k s b (b.length : Int) (i : Int) y.f4 (y.f4.length : Int) (j : Int) (t.f4.length : Int) q y.f0 y.f1 y.f2 y.f3 y.f4 y.f5 t.f0 t.f1 t.f2 t.f3 t.f4) (n := t.f4.length) (by omega) (I := fun q s => s = fsts (qC9 (b.take i) ++ (y.f4.take j).flatMap (qCC y) ++ upto (fun i => qF9 y t i (t.f4.getD i z75)) q)) ?_ ?_ t.f4.length 0 _ rfl (Nat.zero_le _) (by simp [upto])
   ·rintro s rfl
    refine T.succ ?_
    simp only [qB1.l2]
    refine T.ng (next2 _ ?_)
    rw [qEI (qCC y) z73 hj, ht_, ← List.append_assoc]
    rfl
   ·rintro q s hq rfl next3
    have h3 : (upto (fun i => qF9 y t i (t.f4.getD i z75)) q).length + 2 ≤ (qCC y t).length := upto_lt (fun i => qF9 y t i (t.f4.getD i z75)) hq
    refine T.succ ?_
    simp only [qB1.l2]
    refine T.po (T.bind (R := fun r => r = [(⟨y.f0, t.f0, 2, (q : Int)⟩ : S25), ⟨y.f0, t.f0, 3, (q : Int)⟩]) (T.some rfl) fun v hv => ?_)
    subst hv
    refine T.pos ?_ (next3 _ ?_)
    ·rw [fsts_len]
     simp only [List.length_append, List.length_cons, List.length_nil]
     omega
    ·rw [qDP, ← List.append_assoc, fsts_app _ (qF9 y t q _)]
     rfl
theorem find_T_ {b : List S49} (hb : Sz b) {c : Int} (hc : qBZ.f b = some c) (h : c = 0 → GoodB b) : T (fun k => qB1.f k b) (fun r => r = if c = 0 then (fsts (qC9 b), 0) else ([], c)) := by
 unfold qB1.f
 rw [hc]
 simp only [Option.bind_some]
 refine T.ite (fun h0 => ?_) fun h0 => T.some (by rw [if_neg h0])
 exact (find_l hb (h h0)).mono fun r hr => by rw [if_pos h0]; exact hr
theorem bytes_eq {s t : ByteArray} (h : s.toList = t.toList) : s = t := by
 rw [ByteArray.toList_eq, ByteArray.toList_eq] at h
 cases s; cases t
 simpa [Array.toList_inj] using h
theorem qF3 {α : Type} (nm : α → ByteArray) : ∀ {l : List α}, (l.map nm).Nodup → ∀ {x : α}, x ∈ l → l.find? (fun y => (nm y).toList == (nm x).toList) = some x
 | [], _, x, hx => by cases hx
 | y :: l, hn, x, hx => by
  rw [List.map_cons, List.nodup_cons] at hn
  rcases List.mem_cons.1 hx with rfl | hx
  ·rw [List.find?_cons_of_pos (by simp)]
  ·rw [List.find?_cons_of_neg]
   ·exact qF3 nm hn.2 hx
   ·intro e
    have e := bytes_eq (eq_of_beq e)
    exact hn.1 (by rw [e]; exact List.mem_map.2 ⟨x, hx, rfl⟩)
theorem qER {α : Type} (nm : α → ByteArray) {l : List α} {s : ByteArray} {x : α} (h : l.find? (fun y => (nm y).toList == s.toList) = some x) : x ∈ l ∧ nm x = s :=
 ⟨List.mem_of_find?_eq_some h, bytes_eq (eq_of_beq (List.find?_some (p := fun y => (nm y).toList == s.toList) h))⟩
theorem mem_upto {β : Type} {f : Nat → List β} {n : Nat} {p : β} : p ∈ upto f n ↔ ∃ i, i < n ∧ p ∈ f i := by simp [upto]
theorem place_of {b : List S49} (h : GoodB b) {r : S25} {v : S69} (hm : (r, v) ∈ qC9 b) : qDH b r.f0 r.f1 r.f2 r.f3 = some (v.f1, v.f0) := by
 unfold qC9 at hm
 obtain ⟨a, ha, hm⟩ := List.mem_flatMap.1 hm
 unfold actP at hm
 rcases List.mem_append.1 hm with hm | hm
 ·obtain ⟨t, ht, hm⟩ := List.mem_flatMap.1 hm
  obtain ⟨i, hi, hm⟩ := mem_upto.1 hm
  have f1 := qF3 (fun a : S49 => a.f0) h.parts.acts ha
  have f2 := qF3 (fun t : S73 => t.f0) (h.parts.tabs a ha) ht
  simp only [qF9, List.mem_cons, List.not_mem_nil, or_false, Prod.mk.injEq] at hm
  rcases hm with ⟨rfl, rfl⟩ | ⟨rfl, rfl⟩
  ·unfold qDH
   rw [f1, Option.bind_some, if_pos (.inl rfl), f2, Option.bind_some, if_neg (by dsimp only; omega)]
   simp
  ·unfold qDH
   rw [f1, Option.bind_some, if_pos (.inr rfl), f2, Option.bind_some, if_neg (by dsimp only; omega)]
   simp
 ·obtain ⟨x, hx, hm⟩ := List.mem_flatMap.1 hm
  have f1 := qF3 (fun a : S49 => a.f0) h.parts.acts ha
  have f2 := qF3 (fun x : S55 => x.f0) (h.arr.names a ha) hx
  unfold artP at hm
  rcases List.mem_append.1 hm with hm | hm
  ·obtain ⟨i, hi, hm⟩ := mem_upto.1 hm
   unfold qEG at hm
   split at hm
   ·cases hm
   rename_i hc
   simp only [List.mem_cons, List.not_mem_nil, or_false, Prod.mk.injEq] at hm
   obtain ⟨rfl, rfl⟩ := hm
   unfold qDH
   rw [f1, Option.bind_some, if_neg (by dsimp only; omega), f2, Option.bind_some, if_neg (by dsimp only; omega)]
   simp only [show ¬ ((0 : Int) = 1) by decide, if_false, Int.toNat_natCast]
   rw [if_neg (by omega), if_neg hc]
  ·obtain ⟨i, hi, hm⟩ := mem_upto.1 hm
   unfold qEG at hm
   split at hm
   ·cases hm
   rename_i hc
   simp only [List.mem_cons, List.not_mem_nil, or_false, Prod.mk.injEq] at hm
   obtain ⟨rfl, rfl⟩ := hm
   unfold qDH
   rw [f1, Option.bind_some, if_neg (by dsimp only; omega), f2, Option.bind_some, if_neg (by dsimp only; omega)]
   simp only [if_true, Int.toNat_natCast]
   rw [if_neg (by omega), if_neg hc]
theorem place_mem {b : List S49} {r : S25} {n kd : Int} (h : qDH b r.f0 r.f1 r.f2 r.f3 = some (n, kd)) : (r, (⟨kd, n⟩ : S69)) ∈ qC9 b := by
 obtain ⟨r0, r1, r2, r3⟩ := r
 unfold qDH at h
 obtain ⟨a, ha, h⟩ := Option.bind_eq_some_iff.1 h
 obtain ⟨ha2, rfl⟩ := qER (fun a : S49 => a.f0) ha
 unfold qC9
 refine List.mem_flatMap.2 ⟨a, ha2, ?_⟩
 unfold actP
 dsimp only at h
 by_cases c : r2 = 2 ∨ r2 = 3
 ·rw [if_pos c] at h
  obtain ⟨t, ht, h⟩ := Option.bind_eq_some_iff.1 h
  obtain ⟨ht2, rfl⟩ := qER (fun t : S73 => t.f0) ht
  refine List.mem_append.2 (.inl (List.mem_flatMap.2 ⟨t, ht2, ?_⟩))
  by_cases g : r3 < 0 ∨ (t.f4.length : Int) ≤ r3
  ·rw [if_pos g] at h; cases h
  rw [if_neg g] at h
  refine mem_upto.2 ⟨r3.toNat, by omega, ?_⟩
  have e3 : ((r3.toNat : Nat) : Int) = r3 := by omega
  have h9 := zy h
  clear h
  simp only [qF9, e3]
  by_cases c2 : r2 = 2
  ·subst c2
   rw [if_pos rfl] at h9
   obtain ⟨rfl, rfl⟩ := Prod.mk.inj h9
   exact List.mem_cons_self ..
  ·rw [if_neg c2] at h9
   obtain rfl : r2 = 3 := by omega
   obtain ⟨rfl, rfl⟩ := Prod.mk.inj h9
   exact zz _ (List.mem_cons_self ..)
 ·rw [if_neg c] at h
  obtain ⟨x, hx, h⟩ := Option.bind_eq_some_iff.1 h
  obtain ⟨hx2, rfl⟩ := qER (fun x : S55 => x.f0) hx
  refine List.mem_append.2 (.inr (List.mem_flatMap.2 ⟨x, hx2, ?_⟩))
  unfold artP
  have fin : ∀ (p : Int) (e : List S79), (if r3 < 0 ∨ ((e.length : Nat) : Int) ≤ r3 then none else if (e.getD r3.toNat z79).f0 ≠ 0 ∨ (e.getD r3.toNat z79).f2 = 1 then none else some ((e.getD r3.toNat z79).f3, (e.getD r3.toNat z79).f2)) = some (n, kd) → ((⟨a.f0, x.f0, p, r3⟩ : S25), (⟨kd, n⟩ : S69)) ∈ qES a x p e := fun p e h => by
   by_cases g : r3 < 0 ∨ ((e.length : Nat) : Int) ≤ r3
   ·rw [if_pos g] at h; cases h
   rw [if_neg g] at h
   by_cases g2 : (e.getD r3.toNat z79).f0 ≠ 0 ∨ (e.getD r3.toNat z79).f2 = 1
   ·rw [if_pos g2] at h; cases h
   rw [if_neg g2] at h
   refine mem_upto.2 ⟨r3.toNat, by omega, ?_⟩
   have e3 : ((r3.toNat : Nat) : Int) = r3 := by omega
   unfold qEG
   rw [if_neg g2, e3]
   obtain ⟨rfl, rfl⟩ := Prod.mk.inj (zy h)
   exact List.mem_cons_self ..
  by_cases c1 : r2 = 1
  ·subst c1
   rw [if_neg (by omega)] at h
   simp only [if_true] at h
   exact List.mem_append.2 (.inr (fin 1 _ h))
  ·by_cases c0 : r2 = 0
   ·subst c0
    rw [if_neg (by omega)] at h
    simp only [show ¬ ((0 : Int) = 1) by decide, if_false] at h
    exact List.mem_append.2 (.inl (fin 0 _ h))
   ·rw [if_pos ⟨c0, c1⟩] at h; cases h
theorem equal_T (L : List S25) (hL : L.length < 9223372036854775807) : T (fun k => qC0.f k L L) (fun r => r = true) := by
 unfold qC0.f
 refine T.pos rfl ?_
 refine T.loop (σ := Unit) (g := fun k _ i => qC0.l0 k L L (L.length : Int) i) (n := L.length) hL (I := fun _ _ => True) (fun _ _ => ?_) (fun i _ hi _ next => ?_) L.length 0 () rfl (Nat.zero_le _) trivial
 ·refine T.succ ?_
  simp only [qC0.l0]
  exact T.ng (T.some rfl)
 ·refine T.succ ?_
  simp only [qC0.l0]
  exact T.po (T.po (T.po (T.po (T.neg (by simp) (next () trivial)))))
theorem rd25 (l : List S25) (i : Nat) : qBS l (i : Int) = l.getD i z25 := by simp [qBS]
theorem place_T (L : List S25) (hL : L.length < 9223372036854775807) (r : S25) : T (fun k => qC6.f k L r.f0 r.f1 r.f2 r.f3) (fun v => (v = -1 ∧ r ∉ L) ∨ ∃ j, j < L.length ∧ v = (j : Int) ∧ L.getD j z25 = r) := by
 unfold qC6.f
 refine T.loop (σ := Unit) (g := fun k _ i => qC6.l0 k L (L.length : Int) i r.f0 r.f1 r.f2 r.f3) (n := L.length) hL (I := fun i _ => ∀ j, j < i → L.getD j z25 ≠ r) (fun _ h => ?_) (fun i _ hi h next => ?_) L.length 0 () rfl (Nat.zero_le _) (fun j hj => absurd hj (by omega))
 ·refine T.succ ?_
  simp only [qC6.l0]
  refine T.ng (T.some (.inl ⟨rfl, fun hm => ?_⟩))
  obtain ⟨j, hj, e⟩ := List.getElem_of_mem hm
  exact h j hj (by rw [List.getD_eq_getElem?_getD, List.getElem?_eq_getElem hj]; exact e)
 ·refine T.succ ?_
  simp only [qC6.l0, rd25]
  refine T.po (T.po (T.po (T.ite (fun c => T.some (.inr ⟨i, hi, rfl, ?_⟩)) fun c => next () fun j hj => ?_)))
  ·simp only [Bool.and_eq_true, beq_iff_eq] at c
   obtain ⟨c0, c1, c2, c3⟩ := c
   have c0 := bytes_eq c0
   have c1 := bytes_eq c1
   generalize L.getD i z25 = y at *
   cases r; cases y
   simp_all
  ·rcases Nat.lt_or_ge j i with hj' | hj'
   ·exact h j hj'
   ·obtain rfl : j = i := by omega
    intro e
    apply c
    rw [e]
    simp
def sLaw : ByteArray := ⟨#[108, 97, 119]⟩
def sIn : ByteArray := ⟨#[105, 110]⟩
def sOut : ByteArray := ⟨#[111, 117, 116]⟩
def sA : ByteArray := ⟨#[97]⟩
def expr5 : List S79 := [⟨1, [], 0, 0, sIn⟩, ⟨0, [], 5, 5, ⟨#[]⟩⟩, ⟨10, [0, 1], 0, 0, ⟨#[]⟩⟩]
def art5 : S55 := ⟨sA, sOut, [], expr5, [], 0⟩
def flat5 : List S49 := [⟨sLaw, 0, 0, [⟨sIn, 5, true, 0, 9, ⟨0, 0⟩⟩, ⟨sOut, 5, false, 0, 0, ⟨0, 0⟩⟩], [], [art5]⟩]
theorem flat_is : qDO.f 5 = some flat5 := rfl
theorem lim5 : limitsF flat5 = some 0 := Gen.lim_eq (F := fun k => qB9.f k flat5) (fun k => qB9.mono _ _) (k := 10) (by kernel_rfl)
theorem parts5 : qBF.f flat5 = some 0 := by kernel_rfl
theorem art5_is : articleF flat5 art5 = some 0 := Gen.lim_eq (F := fun k => qB5.f k flat5 art5.f0 art5.f1 art5.f2 art5.f3 art5.f4 art5.f5) (fun k => qB5.mono _ _ _ _ _ _ _ _) (k := 60) (by kernel_rfl)
theorem over5 : overF flat5 sLaw art5 = some 0 := Gen.lim_eq (F := fun k => qB6.f k flat5 sLaw art5.f0 art5.f0 art5.f1 art5.f2 art5.f3 art5.f4 art5.f5) (fun k => qB6.mono _ _ _ _ _ _ _ _ _ _) (k := 5) (by kernel_rfl)
theorem add5 : ¬ addR [] sA ≠ 0 := fun h => h (by kernel_rfl)
theorem acts5 : qEJ flat5 flat5 [] [] = some (0, [⟨sLaw, sA⟩], [(⟨sLaw, sA⟩, [])]) := by
 have h1 : chk_in flat5 sLaw [art5] [] [] [] = some (0, [⟨sLaw, sA⟩], [(⟨sLaw, sA⟩, [])]) := by
  rw [chk_in, if_pos ⟨by simp, by simp, by simp, by decide, by decide⟩, show art5.f0 = sA from rfl, if_neg add5, art5_is, Option.bind_some, if_neg (by decide), chk_in]
  rfl
 show (chk_in flat5 sLaw [art5] [] [] []).bind _ = _
 rw [h1]
 rfl
theorem overs5 : qDI flat5 flat5 = some 0 := by
 have h1 : qEW flat5 sLaw [art5] = some 0 := by
  rw [qEW, over5]
  rfl
 show (qEW flat5 sLaw [art5]).bind _ = _
 rw [h1]
 rfl
theorem names5 : (Gen.lim fun k => qAL.f k expr5) = some ([sIn], []) := Gen.lim_eq (F := fun k => qAL.f k expr5) (fun k => qAL.mono _ _) (k := 20) (by kernel_rfl)
theorem names0 : (Gen.lim fun k => qAL.f k []) = some ([], []) := Gen.lim_eq (F := fun k => qAL.f k []) (fun k => qAL.mono _ _) (k := 5) (by kernel_rfl)
theorem looks5 : qCG.f flat5 = some [(sOut, [sIn])] := by
 have h1 : qE6 [art5] [] = some [(sOut, [sIn])] := by
  rw [qE6, if_pos (by decide), if_pos (by decide), show art5.f2 = [] from rfl, show art5.f3 = expr5 from rfl, names0, names5, Option.bind_some, Option.bind_some, if_pos (by decide), qE6]
  rfl
 show (qE6 [art5] []).bind _ = _
 rw [h1]
 rfl
theorem reach_rank {U : Type} {next : U → List U} (rank : U → Nat) (h : ∀ y z, z ∈ next y → rank z < rank y) : ∀ (n : Nat) (x y : U), Dfs.reachN next n x y → rank y ≤ rank x
 | 0, x, y, e => by cases e; exact Nat.le_refl _
 | n + 1, x, y, ⟨u, hu, r⟩ => by
  have h1 := h x u hu
  have h2 := reach_rank rank h n u y r
  omega
theorem cyc_none {U : Type} {next : U → List U} (rank : U → Nat) (h : ∀ y z, z ∈ next y → rank z < rank y) (x : U) : ¬ Dfs.Cyc next x := by
 rintro ⟨y, z, _, hz, ⟨n, r⟩⟩
 have h1 := h y z hz
 have h2 := reach_rank rank h n z y r
 omega
theorem check5 : qBZ.f flat5 = some 0 := by
 unfold qBZ.f
 rw [lim5, Option.bind_some, if_neg (by decide), parts5, Option.bind_some, if_neg (by decide), acts5, Option.bind_some]
 unfold chk_k1
 rw [if_neg (by decide), overs5, Option.bind_some]
 unfold chk_k2
 rw [if_neg (by decide)]
 unfold chk_end
 rw [if_pos ⟨by decide, by decide⟩, if_neg ?_, looks5, Option.bind_some]
 ·unfold chk_last
  rw [if_pos ⟨by decide, by decide, by decide⟩, if_neg ?_]
  rintro ⟨s, _, hc⟩
  refine cyc_none (fun s => if s = sOut then 1 else 0) (fun y z hz => ?_) s hc
  obtain ⟨p, hp, hz⟩ := List.mem_flatMap.1 hz
  obtain ⟨hp1, hp2⟩ := List.mem_filter.1 hp
  obtain rfl := List.mem_singleton.1 hp1
  obtain rfl := List.mem_singleton.1 hz
  have hp2 : sOut = y := of_decide_eq_true hp2
  rw [if_pos hp2.symm, if_neg (by decide)]
  decide
 ·rintro ⟨x, _, hc⟩
  refine cyc_none (fun _ => 0) (fun y z hz => ?_) x hc
  unfold lookO at hz
  cases hf : List.find? (fun p : S59 × List S59 => decide (p.1 = y)) [((⟨sLaw, sA⟩ : S59), ([] : List S59))] with
  | none => rw [hf] at hz; cases hz
  | some q =>
   have hq := List.mem_of_find?_eq_some hf
   obtain rfl := List.mem_singleton.1 hq
   rw [hf] at hz
   cases hz
theorem sx5 : Sx flat5 where
 acts := by decide
 attrs := by decide
 tabs := by decide
 arts := by decide
 steps := by intro a ha t ht; obtain rfl := List.mem_singleton.1 ha; cases ht
 aname := by decide
 xname := by intro a ha x hx; obtain rfl := List.mem_singleton.1 ha; obtain rfl := List.mem_singleton.1 hx; decide
 refs := by intro a ha x hx r hr; obtain rfl := List.mem_singleton.1 ha; obtain rfl := List.mem_singleton.1 hx; cases hr
 cond := by intro a ha x hx r hr; obtain rfl := List.mem_singleton.1 ha; obtain rfl := List.mem_singleton.1 hx; cases hr
 then_ := by
  intro a ha x hx r hr
  obtain rfl := List.mem_singleton.1 ha
  obtain rfl := List.mem_singleton.1 hx
  rcases List.mem_cons.1 hr with rfl | hr
  ·decide
  rcases List.mem_cons.1 hr with rfl | hr
  ·decide
  obtain rfl := List.mem_singleton.1 hr
  decide
theorem places5 : fsts (qC9 flat5) = [⟨sLaw, sA, 1, 1⟩] := by kernel_rfl
theorem placed_T : T (fun k => qCE.f k) (fun r => r = true) := by
 unfold qCE.f
 rw [flat_is]
 simp only [Option.bind_some]
 have hg : GoodB flat5 := by
  obtain ⟨r, h1, h2⟩ := check_S flat5 sx5 (by decide)
  rw [check5] at h1
  exact h2 (zy h1).symm
 refine T.bind (find_T_ sx5.toSz check5 fun _ => hg) fun v hv => ?_
 rw [if_pos rfl, places5] at hv
 subst hv
 exact T.pos rfl (T.bind (equal_T [⟨sLaw, sA, 1, 1⟩] (by decide)) fun w hw => T.some hw)
theorem mem_sum {α : Type} (f : α → Nat) : ∀ {l : List α} {x : α}, x ∈ l → f x ≤ (l.map f).sum
 | y :: l, x, h => by
  rw [List.map_cons, List.sum_cons]
  rcases List.mem_cons.1 h with rfl | h
  ·omega
  ·have := mem_sum f h; omega
theorem qE8 {α : Type} (f : α → Nat) (hf : ∀ x, 1 ≤ f x) : ∀ (l : List α), l.length ≤ (l.map f).sum
 | [] => Nat.zero_le _
 | y :: l => by
  have h1 := qE8 f hf l
  have h2 := hf y
  rw [List.map_cons, List.sum_cons, List.length_cons]
  omega
theorem qFF {α β : Type} (f : α → Nat) (g : α → List β) (h : ∀ x, (g x).length ≤ f x) : ∀ (l : List α), (l.flatMap g).length ≤ (l.map f).sum
 | [] => Nat.zero_le _
 | y :: l => by
  have h1 := qFF f g h l
  have h2 := h y
  rw [List.flatMap_cons, List.length_append, List.map_cons, List.sum_cons]
  omega
theorem len_kids (l : List Int) : l.length ≤ (l.map fun _ => 1).sum := qE8 _ (fun _ => Nat.le_refl _) l
theorem pos76 (x : S75) : 1 ≤ mu75 x := by unfold mu75; omega
theorem pos83 (x : S98) : 1 ≤ mu98 x := by unfold mu98; omega
theorem pos69 (x : S73) : 1 ≤ mu73 x := by unfold mu73; omega
theorem pos80 (x : S79) : 1 ≤ mu79 x := by unfold mu79; omega
theorem pos58 (x : S59) : 1 ≤ mu59 x := by unfold mu59; omega
theorem pos54 (x : S55) : 1 ≤ mu55 x := by unfold mu55; omega
theorem pos48 (x : S49) : 1 ≤ mu49 x := by unfold mu49; omega
def Wt (b : List S49) : Nat := (b.map mu49).sum
theorem wt_act {b : List S49} {a : S49} (h : a ∈ b) : a.f0.size + (a.f3.map mu98).sum + (a.f4.map mu73).sum + (a.f5.map mu55).sum ≤ Wt b := by
 have := mem_sum mu49 h
 rw [mu49] at this
 unfold Wt
 omega
theorem wt_tab {b : List S49} {a : S49} (h : a ∈ b) {t : S73} (ht : t ∈ a.f4) : (t.f4.map mu75).sum ≤ Wt b := by
 have h1 := wt_act h
 have := mem_sum mu73 ht
 rw [mu73] at this
 omega
theorem wt_art {b : List S49} {a : S49} (h : a ∈ b) {x : S55} (hx : x ∈ a.f5) : x.f0.size + x.f1.size + (x.f2.map mu79).sum + (x.f3.map mu79).sum + (x.f4.map mu59).sum ≤ Wt b := by
 have h1 := wt_act h
 have := mem_sum mu55 hx
 rw [mu55] at this
 omega
theorem wt_node {e : List S79} {n : S79} (h : n ∈ e) : n.f4.size + n.f1.length ≤ (e.map mu79).sum := by
 have h1 := mem_sum mu79 h
 have h2 := len_kids n.f1
 rw [mu79] at h1
 omega
theorem wt_ref {e : List S59} {n : S59} (h : n ∈ e) : n.f0.size + n.f1.size ≤ (e.map mu59).sum := by
 have h1 := mem_sum mu59 h
 rw [mu59] at h1
 omega
theorem wt_sx {b : List S49} (h : Wt b ≤ 1048576) : Sx b ∧ ∀ a, a ∈ b → a.f3.length ≤ 140737488355328 := by
 have hm : maxLen = 9223372036854775807 := by decide
 have h3 : ∀ a, a ∈ b → a.f3.length ≤ 140737488355328 := fun a ha => by
  have h1 := wt_act ha
  have h2 := qE8 mu98 pos83 a.f3
  omega
 refine ⟨⟨⟨?_, ?_, ?_, ?_, ?_⟩, ?_, ?_, ?_, ?_, ?_⟩, h3⟩
 ·have := qE8 mu49 pos48 b
  unfold Wt at h
  omega
 ·intro a ha
  have := h3 a ha
  omega
 ·intro a ha
  have h1 := wt_act ha
  have h2 := qE8 mu73 pos69 a.f4
  omega
 ·intro a ha
  have h1 := wt_act ha
  have h2 := qE8 mu55 pos54 a.f5
  omega
 ·intro a ha t ht
  have h1 := wt_tab ha ht
  have h2 := qE8 mu75 pos76 t.f4
  omega
 ·intro a ha
  have h1 := wt_act ha
  rw [hm]
  omega
 ·intro a ha x hx
  have h1 := wt_art ha hx
  rw [hm]
  omega
 ·intro a ha x hx r hr
  have h1 := wt_art ha hx
  have h2 := wt_ref hr
  rw [hm]
  omega
 ·intro a ha x hx n hn
  have h1 := wt_art ha hx
  have h2 := wt_node hn
  rw [hm]
  omega
 ·intro a ha x hx n hn
  have h1 := wt_art ha hx
  have h2 := wt_node hn
  rw [hm]
  omega
theorem wt_sm {b : List S49} (h : Wt b ≤ 1048576) : Go.Proofs.YtfnejdbjekkadaaGreat.PRatePuts.Sm b := by
 refine ⟨?_, fun a ha => ⟨?_, ?_, ?_, fun t ht => ?_, fun x hx => ⟨⟨?_, fun n hn => ?_⟩, ⟨?_, fun n hn => ?_⟩, ?_⟩⟩⟩
 ·have := qE8 mu49 pos48 b
  unfold Wt at h
  omega
 ·have h1 := wt_act ha
  have h2 := qE8 mu98 pos83 a.f3
  omega
 ·have h1 := wt_act ha
  have h2 := qE8 mu73 pos69 a.f4
  omega
 ·have h1 := wt_act ha
  have h2 := qE8 mu55 pos54 a.f5
  omega
 ·have h1 := wt_tab ha ht
  have h2 := qE8 mu75 pos76 t.f4
  omega
 ·have h1 := wt_art ha hx
  have h2 := qE8 mu79 pos80 x.f2
  omega
 ·have h1 := wt_art ha hx
  have h2 := wt_node hn
  omega
 ·have h1 := wt_art ha hx
  have h2 := qE8 mu79 pos80 x.f3
  omega
 ·have h1 := wt_art ha hx
  have h2 := wt_node hn
  omega
 ·have h1 := wt_art ha hx
  have h2 := qE8 mu59 pos58 x.f4
  omega
theorem tok_node (x : S79) : (qE4 x).length ≤ mu79 x := by
 have h := len_kids x.f1
 rw [mu79]
 simp only [qE4, List.length_append, List.length_cons, List.length_nil, List.length_map]
 omega
theorem tok_expr (e : List S79) : (qDG e).length ≤ (e.map mu79).sum + 1 := by
 have h := qFF _ qE4 tok_node e
 simp only [qDG, List.length_append, List.length_cons, List.length_nil]
 omega
theorem tok_tab (t : S73) : (qDS t).length ≤ mu73 t := by
 have h := qFF mu75 qEL (fun _ => Nat.le_refl 2) t.f4
 rw [mu73]
 simp only [qDS, tokB, List.length_append, List.length_cons, List.length_nil]
 omega
theorem tok_art (x : S55) : (qED x).length ≤ mu55 x := by
 have h := qFF mu59 qFC (fun r => by rw [mu59]; simp only [qFC, List.length_cons, List.length_nil]; omega) x.f4
 have h2 := tok_expr x.f2
 have h3 := tok_expr x.f3
 rw [mu55]
 simp only [qED, List.length_append, List.length_cons, List.length_nil]
 omega
theorem tok_attr (x : S98) : (qCN x).length ≤ mu98 x := by
 rw [mu98, mu69]
 simp only [qCN, tokB, List.length_append, List.length_cons, List.length_nil]
 omega
theorem tok_act (a : S49) : (qEE a).length ≤ mu49 a := by
 have h3 := qFF _ qCN tok_attr a.f3
 have h4 := qFF _ qDS tok_tab a.f4
 have h5 := qFF _ qED tok_art a.f5
 rw [mu49]
 simp only [qEE, List.length_append, List.length_cons, List.length_nil]
 omega
theorem tok_body {b : List S49} (h : Wt b ≤ 1048576) : (qD4 b).length ≤ 1099511627776 := by
 have h3 := qFF _ qEE tok_act b
 unfold Wt at h
 simp only [qD4, List.length_append, List.length_cons, List.length_nil]
 omega
theorem qFJ {α β : Type} (f : α → β) {l : List α} {i : Nat} {x y : α} (h : l[i]? = some x) (e : f y = f x) : (l.set i y).map f = l.map f := by
 refine List.ext_getElem? fun j => ?_
 rw [List.getElem?_map, List.getElem?_map, List.getElem?_set]
 split
 ·rename_i hj
  subst hj
  rw [h]
  split
  ·simp [e]
  ·rename_i hi
   have := (List.getElem?_eq_some_iff.1 h).1
   omega
 ·rfl
theorem set_map' {α β : Type} (f : α → β) (g : α → α) (z : α) (hg : ∀ x, f (g x) = f x) (l : List α) (i : Nat) : (l.set i (g (l.getD i z))).map f = l.map f := by
 rcases Nat.lt_or_ge i l.length with h | h
 ·refine qFJ f (List.getElem?_eq_getElem h) ?_
  rw [hg, List.getD_eq_getElem?_getD, List.getElem?_eq_getElem h, Option.getD_some]
 ·rw [List.set_eq_of_length_le h]
theorem map_map' {α β : Type} (f : α → β) (g : α → α) (hg : ∀ x, f (g x) = f x) (l : List α) : (l.map g).map f = l.map f := by
 rw [List.map_map]
 exact List.map_congr_left fun x _ => hg x
theorem mu_tab (r1 : ByteArray) (r2 r3 n : Int) (t : S73) : mu73 (tabF r1 r2 r3 n t) = mu73 t := by
 unfold tabF
 split
 ·simp only [mu73, set_map' mu75 (stepF r2 n) z75 (fun _ => rfl)]
 ·rfl
theorem mu_art (r1 : ByteArray) (r2 r3 n : Int) (x : S55) : mu55 (artF r1 r2 r3 n x) = mu55 x := by
 unfold artF
 split
 ·split
  ·simp only [mu55, set_map' mu79 (nodeF n) z79 (fun _ => rfl)]
  ·simp only [mu55, set_map' mu79 (nodeF n) z79 (fun _ => rfl)]
 ·rfl
theorem mu_act (r0 r1 : ByteArray) (r2 r3 n : Int) (a : S49) : mu49 (actF r0 r1 r2 r3 n a) = mu49 a := by
 unfold actF
 split
 ·simp only [mu49, map_map' mu73 (tabF r1 r2 r3 n) (mu_tab r1 r2 r3 n), map_map' mu55 (artF r1 r2 r3 n) (mu_art r1 r2 r3 n)]
 ·rfl
theorem wt_map (r0 r1 : ByteArray) (r2 r3 n : Int) (b : List S49) : Wt (b.map (actF r0 r1 r2 r3 n)) = Wt b := by
 unfold Wt
 rw [map_map' mu49 _ (mu_act r0 r1 r2 r3 n)]
theorem wt_put {b b' : List S49} {r0 r1 : ByteArray} {r2 r3 n : Int} (h : PutTo b r0 r1 r2 r3 n b') : Wt b' = Wt b := by
 unfold Wt
 obtain ⟨_, i, y, hi, _, ⟨k, t, s, _, hk, _, hs, rfl⟩ | ⟨k, x, s, _, hk, _, hs, rfl⟩ | ⟨k, x, s, _, hk, _, hs, rfl⟩⟩ := h
 ·rw [qFJ mu49 hi]
  simp only [mu49]
  rw [qFJ mu73 hk]
  simp only [mu73]
  rw [qFJ mu75 hs]
  rfl
 ·rw [qFJ mu49 hi]
  simp only [mu49]
  rw [qFJ mu55 hk]
  simp only [mu55]
  rw [qFJ mu79 hs]
  rfl
 ·rw [qFJ mu49 hi]
  simp only [mu49]
  rw [qFJ mu55 hk]
  simp only [mu55]
  rw [qFJ mu79 hs]
  rfl
theorem map_one {α : Type} (nm : α → ByteArray) {l : List α} (hn : (l.map nm).Nodup) {i : Nat} {y : α} (hi : l[i]? = some y) {F : α → α} (hF : ∀ x, nm x ≠ nm y → F x = x) : l.map F = l.set i (F y) := by
 refine List.ext_getElem? fun j => ?_
 rw [List.getElem?_map, List.getElem?_set]
 obtain ⟨hl, e⟩ := List.getElem?_eq_some_iff.1 hi
 split
 ·rename_i hj
  subst hj
  rw [hi]
  first | rfl | (rw [if_pos hl]; rfl) | simp [hl]
 ·rename_i hj
  cases hx : l[j]? with
  | none => rfl
  | some x =>
   obtain ⟨hjl, e2⟩ := List.getElem?_eq_some_iff.1 hx
   rw [Option.map_some, hF]
   intro he
   refine hj ((List.getElem_inj (i := i) (j := j) (h₀ := by simpa using hl) (h₁ := by simpa using hjl) hn).1 ?_)
   rw [List.getElem_map, List.getElem_map, e, e2, he]
theorem map_same {α : Type} {l : List α} {F : α → α} (hF : ∀ x, F x = x) : l.map F = l := by
 rw [List.map_congr_left (fun x _ => hF x), List.map_id'']
 exact fun _ => rfl
theorem ne_beq {s t : ByteArray} (h : s ≠ t) : ¬ (s.toList == t.toList) = true := fun e => h (bytes_eq (eq_of_beq e))
theorem put_is {b b' : List S49} (hG : GoodB b) {r0 r1 : ByteArray} {r2 r3 n : Int} (h : PutTo b r0 r1 r2 r3 n b') : b' = b.map (actF r0 r1 r2 r3 n) := by
 obtain ⟨h0, i, y, hi, hfy, h⟩ := h
 obtain ⟨hy, hy0⟩ := qER (fun a : S49 => a.f0) hfy
 have hA := map_one (fun a : S49 => a.f0) hG.parts.acts hi (F := actF r0 r1 r2 r3 n) fun x hx => by
  unfold actF
  rw [if_neg (ne_beq fun e => hx (e.trans hy0.symm))]
 have hyF : actF r0 r1 r2 r3 n y = { y with f4 := y.f4.map (tabF r1 r2 r3 n), f5 := y.f5.map (artF r1 r2 r3 n) } := by
  unfold actF
  rw [if_pos (by rw [← hy0]; simp)]
 rw [hA, hyF]
 rcases h with ⟨k, t, s, hr, hk, hft, hs, rfl⟩ | ⟨k, x, s, rfl, hk, hfx, hs, rfl⟩ | ⟨k, x, s, rfl, hk, hfx, hs, rfl⟩
 ·obtain ⟨ht, ht0⟩ := qER (fun a : S73 => a.f0) hft
  have e5 : y.f5.map (artF r1 r2 r3 n) = y.f5 := map_same fun x => by
   unfold artF
   rw [if_neg (by omega)]
  have e4 := map_one (fun a : S73 => a.f0) (hG.parts.tabs y hy) hk (F := tabF r1 r2 r3 n) fun x hx => by
   unfold tabF
   rw [if_neg fun c => ne_beq (fun e => hx (e.trans ht0.symm)) c.2]
  have et : tabF r1 r2 r3 n t = { t with f4 := t.f4.set r3.toNat (stepF r2 n s) } := by
   unfold tabF
   rw [if_pos ⟨by omega, by rw [← ht0]; simp⟩, List.getD_eq_getElem?_getD, hs]
   rfl
  rw [e5, e4, et]
  rfl
 ·obtain ⟨hx, hx0⟩ := qER (fun a : S55 => a.f0) hfx
  have e4 : y.f4.map (tabF r1 0 r3 n) = y.f4 := map_same fun x => by
   unfold tabF
   rw [if_neg (by omega)]
  have e5 := map_one (fun a : S55 => a.f0) (hG.arr.names y hy) hk (F := artF r1 0 r3 n) fun z hz => by
   unfold artF
   rw [if_neg fun c => ne_beq (fun e => hz (e.trans hx0.symm)) c.2]
  rw [e5, e4]
  unfold artF
  rw [if_pos ⟨by omega, by rw [← hx0]; simp⟩, if_neg (by decide)]
  rw [List.getD_eq_getElem?_getD, hs]
  rfl
 ·obtain ⟨hx, hx0⟩ := qER (fun a : S55 => a.f0) hfx
  have e4 : y.f4.map (tabF r1 1 r3 n) = y.f4 := map_same fun x => by
   unfold tabF
   rw [if_neg (by omega)]
  have e5 := map_one (fun a : S55 => a.f0) (hG.arr.names y hy) hk (F := artF r1 1 r3 n) fun z hz => by
   unfold artF
   rw [if_neg fun c => ne_beq (fun e => hz (e.trans hx0.symm)) c.2]
  rw [e5, e4]
  unfold artF
  rw [if_pos ⟨by omega, by rw [← hx0]; simp⟩, if_pos rfl]
  rw [List.getD_eq_getElem?_getD, hs]
  rfl
theorem find_at {α : Type} (nm : α → ByteArray) {l : List α} (hn : (l.map nm).Nodup) {s : ByteArray} {y x : α} (h : l.find? (fun y => (nm y).toList == s.toList) = some y) (hx : x ∈ l) (e : ((nm x).toList == s.toList) = true) : x = y := by
 have h1 := qF3 nm hn hx
 have h2 := bytes_eq (eq_of_beq e)
 rw [h2, h] at h1
 exact (zy h1).symm
theorem fits {b : List S49} (hG : GoodB b) {r0 r1 : ByteArray} {r2 r3 : Int} (h : (qDH b r0 r1 r2 r3).isSome = true) : FitsAt b r0 r1 r2 r3 := by
 obtain ⟨p, h⟩ := Option.isSome_iff_exists.1 h
 unfold qDH at h
 obtain ⟨a, ha, h⟩ := Option.bind_eq_some_iff.1 h
 have hin := (qER (fun a : S49 => a.f0) ha).1
 by_cases c : r2 = 2 ∨ r2 = 3
 ·rw [if_pos c] at h
  obtain ⟨t, ht, h⟩ := Option.bind_eq_some_iff.1 h
  by_cases g : r3 < 0 ∨ (t.f4.length : Int) ≤ r3
  ·rw [if_pos g] at h; cases h
  refine ⟨by omega, fun a' ha' e => ?_⟩
  obtain rfl := find_at (fun a : S49 => a.f0) hG.parts.acts ha ha' e
  refine ⟨fun _ t' ht' e' => ?_, fun k => by omega⟩
  obtain rfl := find_at (fun a : S73 => a.f0) (hG.parts.tabs _ ha') ht ht' e'
  omega
 ·rw [if_neg c] at h
  obtain ⟨x, hx, h⟩ := Option.bind_eq_some_iff.1 h
  by_cases d : r2 ≠ 0 ∧ r2 ≠ 1
  ·rw [if_pos d] at h; cases h
  rw [if_neg d] at h
  by_cases g : r3 < 0 ∨ (((if r2 = 1 then x.f3 else x.f2).length : Nat) : Int) ≤ r3
  ·rw [if_pos g] at h; cases h
  refine ⟨by omega, fun a' ha' e => ?_⟩
  obtain rfl := find_at (fun a : S49 => a.f0) hG.parts.acts ha ha' e
  refine ⟨fun k => by omega, fun _ x' hx' e' => ?_⟩
  obtain rfl := find_at (fun a : S55 => a.f0) (hG.arr.names _ ha') hx hx' e'
  omega
theorem contains_is {b : List S49} (hG : GoodB b) (r : S25) : T (fun k => qDM.f k (fsts (qC9 b)) r.f0 r.f1 r.f2 r.f3) (fun v => v = (qDH b r.f0 r.f1 r.f2 r.f3).isSome) := by
 have hl := bodyP_small hG
 unfold qDM.f
 refine T.bind (place_T (fsts (qC9 b)) (by rw [fsts_len]; omega) r) fun v hv => T.some ?_
 rcases hv with ⟨rfl, hno⟩ | ⟨j, hj, rfl, hj2⟩
 ·cases hq : qDH b r.f0 r.f1 r.f2 r.f3 with
  | none => rfl
  | some q =>
   obtain ⟨n, kd⟩ := q
   exact absurd (List.mem_map.2 ⟨_, place_mem hq, rfl⟩) hno
 ·rw [fsts_len] at hj
  have hm : ((qC9 b)[j].1, (qC9 b)[j].2) ∈ qC9 b := List.getElem_mem hj
  have e : (qC9 b)[j].1 = r := by
   rw [← hj2, List.getD_eq_getElem?_getD, List.getElem?_eq_getElem (by rw [fsts_len]; exact hj)]
   simp [fsts]
  rw [e] at hm
  rw [place_of hG hm]
  simp
theorem calls (A0 : Option Addr) (c0 : Nat) (l : List S49) (r : S25) (n : Int) (w : World) (hC : Kd.C k49 w A0 l.length l) (hl : l.length ≤ c0) (hW : Wt l ≤ 1048576) :
  Calls Tryz.prog 3 #[.slice A0 l.length c0, .agg #[.string r.f0, .string r.f1, .int .i64 r.f2, .int .i64 r.f3], .int .i64 n] w fun e W' => e = .returned (.bool true) ∧ Below w.heap.size w W' := by
 obtain ⟨hx, h3⟩ := wt_sx hW
 obtain ⟨q, hq, hg⟩ := check_S l hx h3
 refine ratePuts.walk A0 c0 l r.f0 r.f1 r.f2 r.f3 n w hC hl (wt_sm hW) q hq ?_ (fun h0 => ?_) (fun h0 hp => ⟨fits (hg h0) hp, fun l' h => put_is (hg h0) h⟩) (fun l' h => ?_) (tok_body hW) (tok_body ((wt_map r.f0 r.f1 r.f2 r.f3 n l).symm ▸ hW))
 ·obtain ⟨v, h1, rfl⟩ := placed_T
  exact h1.rounds
 ·have hG := hg h0
  have hs := bodyP_small hG
  refine ⟨fsts (qC9 l), (qC9 l).map (·.2), ?_, ?_⟩
  ·unfold qC5.f
   rw [if_pos (by omega)]
   rfl
  ·obtain ⟨v, h1, rfl⟩ := contains_is hG r
   exact h1.rounds
 ·have hW' : Wt l' ≤ 1048576 := (wt_put h).symm ▸ hW
  obtain ⟨hx', h3'⟩ := wt_sx hW'
  obtain ⟨e, he, _⟩ := check_S l' hx' h3'
  exact ⟨e, he⟩
end Go.Proofs.YtfnejdbjekkadaaGreat.Pure
end
section
namespace Go.Proofs.YtfnejdbjekkadaaGreat.ratePuts
open Go.ChangeShapes Go.WideShapes Go.ChangeAt Go.RowKit Go.Proofs.YtfnejdbjekkadaaGreat.OpenU Go.Proofs.YtfnejdbjekkadaaGreatW.PrintWords
open Go.Proofs.YtfnejdbjekkadaaGreat.PRatePuts (uBody u25 mu49 k25_open k49)
theorem own : ownKnob Tryz.prog.godebug = none := by kernel_rfl
theorem laidOut : laidOutB Tryz.prog = true := by kernel_rfl
set_option maxRecDepth 100000 in
theorem lifted (os : Os) (started : os.Started) (H : Type) (enc : TypeId × Value → H) (F0 : Stop.Interp) :
  ReturnsInHanded {} Tryz.checked os 3 .any ((Rows.OpenSpec.upto Rows.ratePutsSpec).pre6 enc Tryz.prog Tryz.f3 Rows.ratePutsUptoRow.domain false) (((Rows.OpenSpec.upto Rows.ratePutsSpec).at F0).post enc Tryz.prog Tryz.f3 false true false false) := by
 refine returnsInHanded_of_cond_sized (C := Tryz.checked) (s := Rows.OpenSpec.upto Rows.ratePutsSpec) (k := Rows.uptoSmall) rfl own started (by kernel_rfl) Tryz.func3
  (OpenSpec.witness (enc := enc) (C := Tryz.checked) (s := Rows.OpenSpec.upto Rows.ratePutsSpec) (k := Rows.uptoSmall) rfl false ⟨#[], #[.slice none 0 0, .agg #[.string ByteArray.empty, .string ByteArray.empty, .int .i64 0, .int .i64 0], .int .i64 0], []⟩ 8 (by kernel_rfl) (by kernel_rfl) (by kernel_rfl)
   (x := ([.nil, .agg [.lit (.string []), .lit (.string []), .lit (.int .i64 0), .lit (.int .i64 0)], .lit (.int .i64 0)], [], [])) (by kernel_rfl) (by kernel_rfl) (by kernel_rfl)) ?_
 intro W base args ds gs before hval0 hW hcnd hk0 hsz0 _
 have hsm : Rows.uptoBulkAll (ds ++ gs) ≤ 1048576 := of_decide_eq_true hk0
 have hval : ∀ (j : Nat) t v, Tryz.f3.params[j]? = some t → args[j]? = some v → Value.okWide Tryz.prog W .any base t v := hval0
 have hW' := hW
 obtain ⟨p, q, hA0, hV, rfl, hfz, hnd⟩ := hW
 have hA : DataW.TrodAll enc Tryz.prog W 0 (fun _ => true) true Tryz.f3.params.toList args.toList ds p := hA0
 rw [Tryz.params3] at hA hval
 obtain ⟨v0, vs0, d0, ds0, p0, q0, hargs, rfl, rfl, h0, r0⟩ := trodAll_cons hA
 obtain ⟨v1, vs1, d1, ds1, p1, q1, rfl, rfl, rfl, h1, r1⟩ := trodAll_cons r0
 obtain ⟨v2, vs2, d2, ds2, p2, q2, rfl, rfl, rfl, h2, r2⟩ := trodAll_cons r1
 obtain ⟨rfl, rfl, rfl⟩ := trodAll_nil r2
 obtain rfl : args = #[v0, v1, v2] := by cases args; simp_all
 obtain ⟨rfl, rfl⟩ := trodVars_none hV
 obtain ⟨a0, len0, cap0, rfl⟩ := okWide_slice Tryz.underlying23 (hval 0 23 v0 rfl rfl)
 obtain ⟨cs1, rfl, _⟩ := okWide_struct Tryz.underlying25 (hval 1 25 v1 rfl rfl)
 have k0 := h0
 have k1 := h1
 have lt0 : ∀ x ∈ p0, x.block < W.heap.size := by obtain ⟨m, hm⟩ := k0; exact DataW.trod_lt m _ _ _ hm
 have lt1 : ∀ x ∈ p1, x.block < W.heap.size := by obtain ⟨m, hm⟩ := k1; exact DataW.trod_lt m _ _ _ hm
 obtain ⟨n0, hn0⟩ := h0
 obtain ⟨n1, hn1⟩ := h1
 obtain ⟨l0, ⟨A0, c0, e0, hc0, hC0⟩, hO0⟩ := uBody.2 H enc W _ _ n0 _ _ hn0
 obtain ⟨x1, hK1, hO1⟩ := u25.2 H enc W _ _ n1 _ _ hn1
 have e1 := k25_open hK1
 have e0' : #[Value.slice a0 len0 cap0].toList = [.slice A0 l0.length c0] := e0
 have e1' : cs1.toList = [.string x1.f0, .string x1.f1, .int .i64 x1.f2, .int .i64 x1.f3] := e1
 obtain rfl : cs1 = #[.string x1.f0, .string x1.f1, .int .i64 x1.f2, .int .i64 x1.f3] := by cases cs1; simp_all
 simp only [List.cons.injEq, and_true, Value.slice.injEq] at e0'
 obtain ⟨rfl, rfl, rfl⟩ := e0'
 obtain ⟨a2, rfl, rfl, rfl, w2⟩ := open_int Tryz.underlying3 (hval 2 3 v2 rfl rfl) h2
 have hwt : Pure.Wt l0 ≤ 1048576 := by
  have h9 : (l0.map mu49).sum + 1 ≤ Rows.uptoBulk d0 := hO0
  have h8 : Rows.uptoBulk d0 ≤ 1048576 := by
   refine Nat.le_trans ?_ hsm
   rw [List.cons_append, Rows.uptoBulkAll]
   exact Nat.le_add_right _ _
  show (l0.map mu49).sum ≤ _
  omega
 clear hA0 hval0 hsz0 hk0 hsm
 refine (Pure.calls a0 cap0 l0 x1 a2 W hC0 hc0 hwt).mono fun e W' ⟨he, bel⟩ => ?_
 subst he
 exact ⟨_, rfl, _, _, _, [], _, [], hW', trodAll_mk1 (shut_bool Tryz.underlying4 _), (trodAll_cons_mk (Below.trod laidOut (by kernel_rfl) (of_decide_eq_true (by kernel_rfl)) k0 bel lt0) (trodAll_cons_mk (Below.trod laidOut (by kernel_rfl) (of_decide_eq_true (by kernel_rfl)) k1 bel lt1) (trodAll_cons_mk (shut_int Tryz.underlying3 w2) trodAll_mk0))), rfl, bel.frame _, fun h => by cases h⟩
theorem over : Rows.ratePutsUptoRow.holds Tryz.pinned (Rows.OpenSpec.upto Rows.ratePutsSpec) :=
 OpenClaim.holds_of_cond 3 Tryz.f3 rfl rfl rfl rfl rfl rfl rfl ⟨rfl, rfl, rfl, rfl, rfl⟩ rfl rfl rfl rfl rfl (by kernel_rfl) Tryz.func3 (by kernel_rfl)
  (of_decide_eq_true (by kernel_rfl)) (by unfold Func.isWrapper; first | (rw [if_pos (by decide +kernel)]; kernel_rfl) | (rw [if_neg (by decide +kernel)]; exact ⟨rfl, rfl⟩))
  (fun os started H enc _ F0 => lifted os started H enc F0)
theorem proved : Rows.RatePutsUptoSaid := over
#print axioms proved
end Go.Proofs.YtfnejdbjekkadaaGreat.ratePuts
namespace Go.Proofs.YtfnejdbjekkadaaGreat
theorem ratePuts_holds : Rows.RatePutsUptoSaid := ratePuts.proved
end Go.Proofs.YtfnejdbjekkadaaGreat
end
