/- A part of the proof of PopMakes: texts that were printed, words, walks. No condition. -/
import Derived.Test.YtpafpefealopoaaGreatC8
import Derived.Test.YtpafpefealopoaaGreatC10
import Derived.Test.YtpafpefealopoaaGreatC11
import Derived.Lib.Mul64
import Derived.OpenShut
import Derived.Laws.Bits64b
set_option linter.unusedVariables false
set_option linter.unusedSimpArgs false
section
namespace Go.Proofs.YtpafpefealopoaaGreat.Pure
open Go.RowKit Go.Proofs.YtpafpefealopoaaGreatW.PrintWords Go.Proofs.YtpafpefealopoaaGreatW.PrintLast Go.Proofs.YtpafpefealopoaaGreatW.PrintMore Go.Proofs.YtpafpefealopoaaGreat.PPopMakes
theorem flat_succ {α β : Type} (f : α → List β) {l : List α} {k : Nat} (z : α) (h : k < l.length) : (l.take (k + 1)).flatMap f = (l.take k).flatMap f ++ f (l.getD k z) := by
 rw [List.take_add_one, List.getElem?_eq_getElem h, List.flatMap_append, List.getD_eq_getElem?_getD, List.getElem?_eq_getElem h]
 simp
def T {α : Type} (g : Nat → Option α) (Q : α → Prop) : Prop := ∃ r, Ev g r ∧ Q r
theorem T.some {α : Type} {r : α} {Q : α → Prop} (h : Q r) : T (fun _ => some r) Q := ⟨r, Ev.now r, h⟩
theorem T.mono {α : Type} {g : Nat → Option α} {Q R : α → Prop} (h : T g Q) (i : ∀ r, Q r → R r) : T g R := by
 obtain ⟨r, h1, h2⟩ := h
 exact ⟨r, h1, i r h2⟩
theorem T.succ {α : Type} {g : Nat → Option α} {Q : α → Prop} (h : T (fun k => g (k + 1)) Q) : T g Q := by
 obtain ⟨r, h1, h2⟩ := h
 exact ⟨r, Ev.step (fun _ => rfl) h1, h2⟩
theorem T.bind {α β : Type} {g : Nat → Option α} {f : Nat → α → Option β} {R : α → Prop} {Q : β → Prop} (h : T g R) (k : ∀ a, R a → T (fun n => f n a) Q) : T (fun n => (g n).bind (f n)) Q := by
 obtain ⟨a, h1, h2⟩ := h
 obtain ⟨r, h3, h4⟩ := k a h2
 exact ⟨r, Ev.bind h1 h3, h4⟩
theorem T.ite {α : Type} {c : Prop} [Decidable c] {a b : Nat → Option α} {Q : α → Prop} (h1 : c → T a Q) (h2 : ¬ c → T b Q) : T (fun k => if c then a k else b k) Q := by
 by_cases h : c
 ·simp only [if_pos h]; exact h1 h
 ·simp only [if_neg h]; exact h2 h
theorem T.pos {α : Type} {c : Prop} [Decidable c] {a b : Nat → Option α} {Q : α → Prop} (h : c) (h1 : T a Q) : T (fun k => if c then a k else b k) Q := by
 simp only [if_pos h]; exact h1
theorem T.neg {α : Type} {c : Prop} [Decidable c] {a b : Nat → Option α} {Q : α → Prop} (h : ¬ c) (h1 : T b Q) : T (fun k => if c then a k else b k) Q := by
 simp only [if_neg h]; exact h1
theorem T.po {α : Type} {c : Prop} [Decidable c] {a b : Nat → Option α} {Q : α → Prop} (h1 : T a Q) (h : c := by omega) : T (fun k => if c then a k else b k) Q := T.pos h h1
theorem T.ng {α : Type} {c : Prop} [Decidable c] {a b : Nat → Option α} {Q : α → Prop} (h1 : T b Q) (h : ¬ c := by omega) : T (fun k => if c then a k else b k) Q := T.neg h h1
theorem pk {k : Nat} (h : 1 ≤ k) : ∃ m, k = m + 1 := ⟨k - 1, by omega⟩
theorem T.lim {α : Type} {g : Nat → Option α} {Q : α → Prop} (hm : ∀ k, LeO (g k) (g (k + 1))) (h : T g Q) : ∃ r, Gen.lim g = Option.some r ∧ Q r := by
 obtain ⟨r, ⟨K, h1⟩, h2⟩ := h
 exact ⟨r, Gen.lim_eq hm (h1 K (Nat.le_refl _)), h2⟩
theorem w64 {x : Int} (h0 : -9223372036854775808 ≤ x) (h1 : x < 9223372036854775808) : wrap64 x = x := by unfold wrap64; omega
theorem T.loop {σ : Type} {α : Type} {n : Nat} (hn : n < 9223372036854775807) {g : Nat → σ → Int → Option α} {I : Nat → σ → Prop} {Q : α → Prop}
  (hend : ∀ s, I n s → T (fun k => g k s (n : Int)) Q)
  (hstep : ∀ i s, i < n → I i s → (∀ s', I (i + 1) s' → T (fun k => g k s' (wrap64 ((i : Int) + 1))) Q) → T (fun k => g k s (i : Int)) Q) :
  ∀ (d i : Nat) (s : σ), n - i = d → i ≤ n → I i s → T (fun k => g k s (i : Int)) Q
 | 0, i, s, hd, hi, hI => by
  obtain rfl : i = n := by omega
  exact hend s hI
 | d + 1, i, s, hd, hi, hI => by
  refine hstep i s (by omega) hI fun s' hI' => ?_
  rw [w64 (by omega) (by omega)]
  exact T.loop hn hend hstep d (i + 1) s' (by omega) (by omega) hI'
theorem rd48 (l : List S76) (i : Nat) : qAB l (i : Int) = l.getD i z76 := by simp [qAB]
theorem qDM {α : Type} {l : List α} {i : Nat} (z : α) (h : i < l.length) : l.getD i z ∈ l := by
 rw [List.getD_eq_getElem?_getD, List.getElem?_eq_getElem h]
 exact List.getElem_mem h
structure Lim (b : List S76) : Prop where
 acts : b.length ≤ 8
 arts : ∀ a, a ∈ b → a.f5.length ≤ 60
 tabs : ∀ a, a ∈ b → a.f4.length ≤ 8
 attrs : (b.flatMap fun a => a.f3).length ≤ 40
theorem limits_is (b : List S76) (hb : b.length < 9223372036854775807) (ha : ∀ a, a ∈ b → a.f3.length ≤ 140737488355328) : T (fun k => qBM.f k b) (fun r => r = 0 → Lim b) := by
 unfold qBM.f
 refine T.loop (σ := Int) (g := fun k s i => qBM.l0 k b s b (b.length : Int) i) (n := b.length) hb
  (I := fun i s => (b.length ≤ 8 → s = (((b.take i).flatMap fun a => a.f3).length : Int)) ∧ (∀ j, j < i → (b.getD j z76).f5.length ≤ 60 ∧ (b.getD j z76).f4.length ≤ 8)) ?_ ?_ b.length 0 0 (by omega) (by omega) ⟨fun _ => by simp, fun j hj => absurd hj (by omega)⟩
 ·rintro s ⟨hs, hj⟩
  refine T.succ ?_
  simp only [qBM.l0]
  refine T.ng (T.ite (fun _ => T.some (by simp)) fun h8 => T.ite (fun _ => T.some (by simp)) fun h40 => T.some fun _ => ⟨by omega, fun a ham => ?_, fun a ham => ?_, ?_⟩)
  ·obtain ⟨j, hjl, rfl⟩ := List.getElem_of_mem ham
   have := (hj j hjl).1
   rwa [List.getD_eq_getElem?_getD, List.getElem?_eq_getElem hjl] at this
  ·obtain ⟨j, hjl, rfl⟩ := List.getElem_of_mem ham
   have := (hj j hjl).2
   rwa [List.getD_eq_getElem?_getD, List.getElem?_eq_getElem hjl] at this
  ·have := hs (by omega)
   rw [List.take_length] at this
   omega
 ·rintro i s hi ⟨hs, hj⟩ next
  refine T.succ ?_
  simp only [qBM.l0, rd48]
  refine T.po (T.po (T.po (T.ite (fun _ => T.some (by simp)) fun h60 => T.ite (fun _ => T.some (by simp)) fun h8 => next _ ⟨fun hl => ?_, fun j hj' => ?_⟩)))
  ·have h2 : ∀ i, i ≤ b.length → (((b.take i).flatMap fun a => a.f3).length) ≤ i * 140737488355328 := fun i => by
    induction i with
    | zero => simp
    | succ i ih =>
     intro hi
     rw [flat_succ _ z76 (by omega), List.length_append]
     have := ih (by omega)
     have := ha _ (qDM z76 (show i < b.length by omega))
     omega
   have h3 := h2 (i + 1) (by omega)
   rw [hs hl]
   rw [flat_succ _ z76 hi, List.length_append] at h3 ⊢
   have : (i + 1) * 140737488355328 ≤ 8 * 140737488355328 := Nat.mul_le_mul_right _ (by omega)
   rw [w64 (by omega) (by omega)]
   omega
  ·rcases Nat.lt_or_ge j i with h | h
   ·exact hj j h
   ·obtain rfl : j = i := by omega
    exact ⟨by omega, by omega⟩
def S {α : Type} (o : Option α) (Q : α → Prop) : Prop := ∃ r, o = some r ∧ Q r
theorem S.some {α : Type} {r : α} {Q : α → Prop} (h : Q r) : S (some r) Q := ⟨r, rfl, h⟩
theorem S.mono {α : Type} {o : Option α} {Q R : α → Prop} (h : S o Q) (i : ∀ r, Q r → R r) : S o R := by
 obtain ⟨r, h1, h2⟩ := h
 exact ⟨r, h1, i r h2⟩
theorem S.bind {α β : Type} {o : Option α} {f : α → Option β} {R : α → Prop} {Q : β → Prop} (h : S o R) (k : ∀ a, R a → S (f a) Q) : S (o.bind f) Q := by
 obtain ⟨a, rfl, h2⟩ := h
 exact k a h2
theorem S.ite {α : Type} {c : Prop} [Decidable c] {a b : Option α} {Q : α → Prop} (h1 : c → S a Q) (h2 : ¬ c → S b Q) : S (if c then a else b) Q := by
 by_cases h : c
 ·simp only [if_pos h]; exact h1 h
 ·simp only [if_neg h]; exact h2 h
theorem S.pos {α : Type} {c : Prop} [Decidable c] {a b : Option α} {Q : α → Prop} (h : c) (h1 : S a Q) : S (if c then a else b) Q := by
 simp only [if_pos h]; exact h1
theorem S.neg {α : Type} {c : Prop} [Decidable c] {a b : Option α} {Q : α → Prop} (h : ¬ c) (h1 : S b Q) : S (if c then a else b) Q := by
 simp only [if_neg h]; exact h1
theorem S.T {α : Type} {o : Option α} {Q : α → Prop} (h : S o Q) : T (fun _ => o) Q := by
 obtain ⟨r, rfl, h2⟩ := h
 exact T.some h2
theorem range_S (a : Int) : S (qD2.f a) (fun _ => True) := by
 unfold qD2.f
 repeat' first | exact S.some trivial | refine S.ite (fun _ => ?_) (fun _ => ?_)
theorem unit_S (a b : Int) : S (qCT.f a b) (fun _ => True) := by
 unfold qCT.f qE2.f
 refine S.bind (range_S a) fun _ _ => S.bind (R := fun _ => True) ?_ fun _ _ => ?_
 all_goals repeat' first | exact S.some trivial | refine S.ite (fun _ => ?_) (fun _ => ?_)
theorem attr2 (k : Nat) (b : Bool) (x0 : ByteArray) (x1 : Int) (x2 : Bool) (x3 x4 x5 x6 : Int) : S (qC1.j2 (k + 1) b x0 x1 x2 x3 x4 x5 x6) (fun _ => True) := by
 simp only [qC1.j2]
 refine S.ite (fun _ => S.some trivial) fun _ => S.bind (unit_S _ _) fun _ _ => ?_
 repeat' first | exact S.some trivial | refine S.ite (fun _ => ?_) (fun _ => ?_)
theorem attr_l (k : Nat) (p q : Int) (x0 : ByteArray) (x1 : Int) (x2 : Bool) (x3 x4 x5 x6 : Int) : S (qC1.l0 (k + 3) [p, q] 2 0 x0 x1 x2 x3 x4 x5 x6) (fun _ => True) := by
 rw [qC1.l0]
 refine S.pos (by decide) (S.pos (by decide) (S.pos (by simp) (S.bind (unit_S _ _) fun _ _ => S.ite (fun _ => ?_) fun _ => S.some trivial)))
 rw [show wrap64 (0 + 1) = 1 from w64 (x := 1) (by decide) (by decide), qC1.l0]
 refine S.pos (by decide) (S.pos (by decide) (S.pos (by simp) (S.bind (unit_S _ _) fun _ _ => S.ite (fun _ => ?_) fun _ => S.some trivial)))
 rw [show wrap64 (1 + 1) = 2 from w64 (x := 2) (by decide) (by decide), qC1.l0]
 refine S.neg (by decide) ?_
 repeat' first | exact S.some trivial | refine S.ite (fun _ => ?_) (fun _ => ?_)
theorem attr0 (k : Nat) (b : Bool) (x0 : ByteArray) (x1 : Int) (x2 : Bool) (x3 x4 x5 x6 : Int) : S (qC1.j0 (k + 4) b x0 x1 x2 x3 x4 x5 x6) (fun _ => True) := by
 rw [qC1.j0]
 refine S.ite (fun _ => S.some trivial) fun _ => S.ite (fun _ => S.ite (fun _ => S.some trivial) fun _ => ?_) fun _ => ?_
 ·exact attr_l k _ _ _ _ _ _ _ _ _
 ·exact S.ite (fun _ => attr2 _ _ _ _ _ _ _ _ _) fun _ => attr2 _ _ _ _ _ _ _ _ _
theorem attr_S (x : S60) : S (attrF x) (fun _ => True) := by
 unfold attrF qC1.f
 exact S.ite (fun _ => attr0 6 _ _ _ _ _ _ _ _) fun _ => attr0 6 _ _ _ _ _ _ _ _
theorem table_l (x3 x4 x5 x6 : Int) (L : List S134) (hL : L.length ≤ 20) (y0 : ByteArray) (y1 y2 : Int) (y3 : Bool) : ∀ (d i k : Nat), L.length - i = d → i ≤ L.length → 2 * d + 1 ≤ k → S (qBB.l0 k x3 x4 x5 x6 L (L.length : Int) (i : Int) y0 y1 y2 y3 L) (fun _ => True)
 | 0, i, k, hd, hi, hk => by
  obtain ⟨k, rfl⟩ : ∃ m, k = m + 1 := ⟨k - 1, by omega⟩
  rw [qBB.l0]
  exact S.neg (by omega) (S.some trivial)
 | d + 1, i, k, hd, hi, hk => by
  obtain ⟨k, rfl⟩ : ∃ m, k = m + 1 + 1 := ⟨k - 2, by omega⟩
  have h2 : ∀ b, S (qBB.j2 (k + 1) x3 x4 x5 x6 (i : Int) L (L.length : Int) (i : Int) b y0 y1 y2 y3 L (qCN L (i : Int)).f0 (qCN L (i : Int)).f1) (fun _ => True) := fun b => by
   have h3 := table_l x3 x4 x5 x6 L hL y0 y1 y2 y3 d (i + 1) k (by omega) (by omega) (by omega)
   have e : wrap64 ((i : Int) + 1) = ((i + 1 : Nat) : Int) := by rw [w64 (by omega) (by omega)]; rfl
   rw [qBB.j2, e]
   refine S.ite (fun _ => S.some trivial) fun _ => S.ite (fun h0 => ?_) fun _ => h3
   rw [w64 (by omega) (by omega)]
   exact S.pos (by omega) (S.pos (by omega) (S.ite (fun _ => S.some trivial) fun _ => h3))
  rw [qBB.l0]
  refine S.pos (by omega) (S.pos (by omega) (S.pos (by omega) ?_))
  repeat' first | exact h2 _ | refine S.ite (fun _ => ?_) (fun _ => ?_)
theorem table_S (t : S95) : S (tableF t) (fun r => r = 0 → t.f4.length ≤ 20) := by
 have hk : S (qDK.f t.f0 t.f1 t.f2 t.f3 t.f4) (fun _ => True) := by
  unfold qDK.f
  repeat' first | exact S.some trivial | refine S.ite (fun _ => ?_) (fun _ => ?_)
 have hj : t.f4.length ≤ 20 → ∀ a b c d, S (qBB.j0 50 a b c d t.f0 t.f1 t.f2 t.f3 t.f4) (fun r => r = 0 → t.f4.length ≤ 20) := fun hl a b c d => by
  rw [qBB.j0]
  exact (table_l a b c d t.f4 hl t.f0 t.f1 t.f2 t.f3 t.f4.length 0 49 rfl (Nat.zero_le _) (by omega)).mono fun _ _ _ => hl
 unfold tableF qBB.f qCZ.f
 refine S.bind (R := fun _ => True) (S.some trivial) fun _ _ => S.ite (fun _ => S.bind hk fun _ _ => S.ite (fun _ => S.ite (fun _ => S.some (by simp)) fun _ => S.ite (fun _ => S.some (by simp)) fun h20 => ?_) fun _ => S.some (by simp)) fun _ => S.some (by simp)
 exact S.bind (range_S _) fun _ _ => S.bind (range_S _) fun _ _ => S.ite (fun _ => hj (by omega) _ _ _ _) fun _ => hj (by omega) _ _ _ _
theorem addR_zero {L : List ByteArray} {s : ByteArray} (h : ¬ addR L s ≠ 0) : s ∉ L := by
 intro hs
 simp only [addR, hs, if_true] at h
 split at h <;> simp at h
theorem parts_in_S {α : Type} (nm : α → ByteArray) (ck : α → Option Int) (R : α → Prop) (hck : ∀ x, S (ck x) (fun r => r = 0 → R x)) : ∀ (xs : List α) (L : List ByteArray), L.length + xs.length ≤ 1000 →
  S (qE3 nm ck xs L) (fun p => p.2.length ≤ L.length + xs.length ∧ (p.1 = 0 → (xs.map nm).Nodup ∧ (∀ x, x ∈ xs → nm x ∉ L ∧ R x) ∧ ∀ y, y ∈ L → y ∈ p.2))
 | [], L, h => S.some ⟨by simp, fun _ => ⟨List.nodup_nil, fun x hx => (by cases hx), fun y hy => hy⟩⟩
 | x :: xs, L, h => by
  rw [List.length_cons] at h
  unfold qE3
  refine S.pos (by omega) (S.ite (fun h0 => S.some ⟨by simp <;> omega, fun e => absurd e h0⟩) fun h0 => S.bind (hck x) fun e he => S.ite (fun h1 => S.some ⟨by simp <;> omega, fun e => absurd e h1⟩) fun h1 => ?_)
  refine (parts_in_S nm ck R hck xs (nm x :: L) (by simp; omega)).mono fun p ⟨hp1, hp2⟩ => ⟨by simp at hp1 ⊢; omega, fun hp => ?_⟩
  obtain ⟨n1, n2, n3⟩ := hp2 hp
  refine ⟨?_, fun y hy => ?_, fun y hy => n3 y (List.mem_cons_of_mem _ hy)⟩
  ·rw [List.map_cons, List.nodup_cons]
   refine ⟨fun hm => ?_, n1⟩
   obtain ⟨y, hy, e⟩ := List.mem_map.1 hm
   exact (n2 y hy).1 (by rw [e]; exact List.mem_cons_self ..)
  ·rcases List.mem_cons.1 hy with rfl | hy
   ·exact ⟨addR_zero h0, he (by omega)⟩
   ·exact ⟨fun hm => (n2 y hy).1 (List.mem_cons_of_mem _ hm), (n2 y hy).2⟩
structure Parts (b : List S76) : Prop where
 acts : (b.map fun a => a.f0).Nodup
 tabs : ∀ a, a ∈ b → (a.f4.map fun t => t.f0).Nodup
 steps : ∀ a, a ∈ b → ∀ t, t ∈ a.f4 → t.f4.length ≤ 20
theorem parts_go : ∀ (l : List S76) (A U B : List ByteArray), A.length + l.length ≤ 100 → U.length + (l.flatMap fun a => a.f3).length ≤ 100 → B.length + l.length * 8 ≤ 100 → (∀ a, a ∈ l → a.f4.length ≤ 8) →
  S (qBL.go l A U B) (fun r => r = 0 → Parts l ∧ ∀ a, a ∈ l → a.f0 ∉ A)
 | [], A, U, B, _, _, _, _ => S.some fun _ => ⟨⟨List.nodup_nil, fun a h => (by cases h), fun a h => (by cases h)⟩, fun a h => by cases h⟩
 | a :: l, A, U, B, hA, hU, hB, h4 => by
  rw [List.length_cons] at hA hB
  rw [List.flatMap_cons, List.length_append] at hU
  have h4a := h4 a (List.mem_cons_self ..)
  unfold qBL.go
  refine S.pos (by omega) (S.ite (fun h0 => S.some fun e => absurd e h0) fun h0 => S.ite (fun _ => S.some (by simp)) fun _ => ?_)
  refine S.bind (parts_in_S _ _ (fun _ => True) (fun x => (attr_S x).mono fun _ _ _ => trivial) a.f3 U (by omega)) fun p hp => ?_
  unfold qBL.k1
  refine S.ite (fun h1 => S.some fun e => absurd e h1) fun h1 => S.bind (parts_in_S _ _ (fun t : S95 => t.f4.length ≤ 20) table_S a.f4 B (by omega)) fun q hq => ?_
  unfold qBL.k2
  refine S.ite (fun h2 => S.some fun e => absurd e h2) fun h2 => ?_
  refine (parts_go l (a.f0 :: A) p.2 q.2 (by simp; omega) (by have := hp.1; omega) (by have := hq.1; omega) fun x hx => h4 x (List.mem_cons_of_mem _ hx)).mono fun r hr h => ?_
  obtain ⟨⟨n1, n2, n3⟩, n4⟩ := hr h
  obtain ⟨m1, m2, _⟩ := hq.2 (by omega)
  refine ⟨⟨?_, fun x hx => ?_, fun x hx => ?_⟩, fun x hx => ?_⟩
  ·rw [List.map_cons, List.nodup_cons]
   refine ⟨fun hm => ?_, n1⟩
   obtain ⟨y, hy, e⟩ := List.mem_map.1 hm
   exact n4 y hy (by rw [e]; exact List.mem_cons_self ..)
  ·rcases List.mem_cons.1 hx with rfl | hx
   ·exact m1
   ·exact n2 x hx
  ·rcases List.mem_cons.1 hx with rfl | hx
   ·exact fun t ht => (m2 t ht).2
   ·exact n3 x hx
  ·rcases List.mem_cons.1 hx with rfl | hx
   ·exact addR_zero h0
   ·exact fun hm => n4 x hx (List.mem_cons_of_mem _ hm)
theorem parts_S {b : List S76} (h : Lim b) : S (qBL.f b) (fun r => r = 0 → Parts b) := by
 have h1 := h.acts
 have h2 := h.attrs
 exact (parts_go b [] [] [] (by simp; omega) (by simp; simpa using Nat.le_trans h2 (by omega)) (by simp; omega) h.tabs).mono fun r hr e => (hr e).1
theorem letter_S (a : Int) : S (qCL.f a) (fun _ => True) := by
 unfold qCL.f
 exact S.ite (fun _ => S.some trivial) fun _ => S.some trivial
theorem inner_S (a : Int) : S (qDU.f a) (fun _ => True) := by
 unfold qDU.f qE9.f
 refine S.bind (letter_S a) fun _ _ => S.ite (fun _ => S.some trivial) fun _ => S.bind (R := fun _ => True) ?_ fun _ _ => ?_
 all_goals repeat' first | exact S.some trivial | refine S.ite (fun _ => ?_) (fun _ => ?_)
theorem less_S (a b : ByteArray) : S (cmp_Less_string.f a b) (fun _ => True) := by
 unfold cmp_Less_string.f cmp_isNaN_string.f
 refine S.bind (R := fun _ => True) (S.some trivial) fun _ _ => S.ite (fun _ => S.bind (R := fun _ => True) (S.some trivial) fun _ _ => ?_) fun _ => S.some trivial
 exact S.ite (fun _ => S.some trivial) fun _ => S.some trivial
theorem search_l (L : List ByteArray) (hL : L.length ≤ 1000) (s : ByteArray) : ∀ (d k lo hi : Nat), hi - lo ≤ d → lo ≤ hi → hi ≤ L.length → d + 1 ≤ k → S (qA4.l0 k L s (L.length : Int) (lo : Int) (hi : Int)) (fun _ => True)
 | d, k, lo, hi, hd, hle, hh, hk => by
  obtain ⟨k, rfl⟩ : ∃ m, k = m + 1 := ⟨k - 1, by omega⟩
  rw [qA4.l0]
  refine S.ite (fun hlt => ?_) fun hge => S.ite (fun h1 => ?_) fun _ => S.some trivial
  ·obtain ⟨d, rfl⟩ : ∃ m, d = m + 1 := ⟨d - 1, by omega⟩
   have e : wrap64 (IntKind.u64.wrap (wrap64 ((lo : Int) + (hi : Int))) / 2) = (((lo + hi) / 2 : Nat) : Int) := by
    rw [w64 (x := (lo : Int) + hi) (by omega) (by omega), IntKind.wrap_u64, w64 (by omega) (by omega)]
    omega
   rw [e]
   refine S.pos (by omega) (S.pos (by omega) (S.bind (less_S _ _) fun _ _ => S.ite (fun _ => ?_) fun _ => ?_))
   ·rw [w64 (by omega) (by omega)]
    exact search_l L hL s d k ((lo + hi) / 2 + 1) hi (by omega) (by omega) hh (by omega)
   ·exact search_l L hL s d k lo ((lo + hi) / 2) (by omega) (by omega) (by omega) (by omega)
  ·refine S.pos (by omega) (S.pos (by omega) (S.ite (fun _ => S.some trivial) fun _ => ?_))
   unfold slices_isNaN_string.f
   exact S.bind (R := fun _ => True) (S.some trivial) fun _ _ => S.ite (fun _ => S.bind (R := fun _ => True) (S.some trivial) fun _ _ => S.some trivial) fun _ => S.some trivial
theorem keys_S : S qE5.f (fun l => l.length ≤ 60) := ⟨_, rfl, by decide⟩
theorem name_l (s : ByteArray) (hs : s.size ≤ 20) : ∀ (d i k : Nat), s.size - i = d → i ≤ s.size → d + 100 ≤ k → S (qBE.l0 k s (s.size : Int) (i : Int)) (fun _ => True)
 | 0, i, k, hd, hi, hk => by
  obtain ⟨k, rfl⟩ : ∃ m, k = m + 1 := ⟨k - 1, by omega⟩
  rw [qBE.l0]
  refine S.neg (by omega) (S.bind keys_S fun l hl => S.bind (R := fun _ => True) ?_ fun _ _ => S.some trivial)
  exact search_l l (by omega) s l.length k 0 l.length (by omega) (by omega) (by omega) (by omega)
 | d + 1, i, k, hd, hi, hk => by
  obtain ⟨k, rfl⟩ : ∃ m, k = m + 1 := ⟨k - 1, by omega⟩
  rw [qBE.l0]
  refine S.pos (by omega) (S.pos (by omega) (S.pos (by omega) (S.bind (inner_S _) fun _ _ => S.ite (fun _ => ?_) fun _ => S.some trivial)))
  rw [w64 (by omega) (by omega)]
  exact name_l s hs d (i + 1) k (by omega) (by omega) (by omega)
theorem name_S (s : ByteArray) : S (qBE.f 200 s) (fun _ => True) := by
 have hj : ∀ b, (b = false → s.size ≤ 20) → S (qBE.j0 200 s b) (fun _ => True) := fun b hb => by
  rw [qBE.j0]
  exact S.ite (fun _ => S.some trivial) fun h => name_l s (hb (Bool.eq_false_iff.2 h)) s.size 0 199 rfl (Nat.zero_le _) (by have := hb (Bool.eq_false_iff.2 h); omega)
 unfold qBE.f
 refine S.ite (fun _ => hj _ (by simp)) fun h0 => S.ite (fun _ => hj _ (by simp)) fun h20 => S.pos ?_ (S.bind (letter_S _) fun _ _ => hj _ fun _ => by omega)
 rcases Nat.eq_zero_or_pos s.size with h | h
 ·exfalso
  apply h0
  have : s.toList.length = 0 := by rw [ByteArray.toList_eq]; simpa using h
  exact List.length_eq_zero_iff.1 this
 ·omega
theorem kidsN_le (op : Int) : qF8 op ≤ 3 := by
 unfold qF8
 split
 ·decide
 split
 ·decide
 split
 ·decide
 split
 ·decide
 ·decide
def Node1 (n : S66) (i : Nat) : Prop := 0 ≤ qF8 n.f0 ∧ (n.f1.length : Int) = qF8 n.f0 ∧ ∀ x, x ∈ n.f1 → 0 ≤ x ∧ x < (i : Int)
theorem one_S (n : S66) (i : Nat) : S (qEZ.f n.f0 n.f1 n.f2 n.f3 n.f4 (i : Int)) (fun r => r = 0 → Node1 n i) := by
 unfold qEZ.f
 refine S.ite (fun _ => S.some (by simp)) fun h1 => S.ite (fun _ => S.some (by simp)) fun h2 => S.ite (fun _ => S.some (by simp)) fun h3 => ?_
 have hn : Node1 n i := ⟨by omega, by omega, fun x hx => by
  have h4 : (decide (x < 0) || decide ((i : Int) ≤ x)) = false := by
   cases h5 : (decide (x < 0) || decide ((i : Int) ≤ x))
   ·rfl
   ·exact absurd (List.any_eq_true.2 ⟨x, hx, h5⟩) h3
  simp at h4
  omega⟩
 refine S.mono (Q := fun _ => True) ?_ fun _ _ _ => hn
 refine S.ite (fun _ => S.some trivial) fun _ => S.ite (fun _ => S.some trivial) fun _ => S.ite (fun _ => S.ite (fun _ => S.some trivial) fun _ => unit_S _ _) fun _ => S.ite (fun _ => S.ite (fun _ => S.some trivial) fun _ => S.some trivial) fun _ => S.ite (fun _ => S.bind (name_S _) fun _ _ => S.ite (fun _ => S.some trivial) fun _ => S.some trivial) fun _ => S.some trivial
theorem rd80 (l : List S66) (i : Nat) : qA3 l (i : Int) = l.getD i z66 := by simp [qA3]
theorem index_T (l : List Int) (hl : l.length < 1000) (a : Int) : T (fun k => qAK.f k l a) (fun _ => True) := by
 unfold qAK.f
 refine T.loop (σ := Unit) (g := fun k _ i => qAK.l0 k l a (l.length : Int) i) (n := l.length) (by omega) (I := fun _ _ => True) (fun _ _ => ?_) (fun i _ hi _ next => ?_) l.length 0 () rfl (Nat.zero_le _) trivial
 ·refine T.succ ?_
  simp only [qAK.l0]
  exact T.ng (T.some trivial)
 ·refine T.succ ?_
  simp only [qAK.l0]
  exact T.po (T.po (T.po (T.ite (fun _ => T.some trivial) fun _ => next () trivial)))
theorem contains_T (l : List Int) (hl : l.length < 1000) (a : Int) : T (fun k => qAY.f k l a) (fun _ => True) := by
 unfold qAY.f
 exact T.bind (index_T l hl a) fun _ _ => T.some trivial
structure Tree (e : List S66) : Prop where
 pos : 0 < e.length
 le : e.length ≤ 100
 one : ∀ i, i < e.length → Node1 (e.getD i z66) i
theorem tree_T (e : List S66) : T (fun k => qAZ.f k e) (fun r => r = 0 → Tree e) := by
 unfold qAZ.f
 refine T.ite (fun _ => T.some (by simp)) fun h100 => T.ite (fun _ => T.some (by simp)) fun h0 => T.po (T.po ?_)
 refine T.loop (σ := List Int) (g := fun k s i => qAZ.l0 k e s e (e.length : Int) i) (n := e.length) (by omega) (I := fun i s => s.length = e.length ∧ ∀ j, j < i → Node1 (e.getD j z66) j) ?_ ?_ e.length 0 _ rfl (Nat.zero_le _) ⟨by simp, fun j hj => absurd hj (by omega)⟩
 ·rintro s ⟨hs, hj⟩
  refine T.succ ?_
  simp only [qAZ.l0]
  refine T.ng ?_
  rw [w64 (by omega) (by omega)]
  exact T.po (T.po (T.bind (contains_T _ (by simp; omega) _) fun _ _ => T.ite (fun _ => T.some (by simp)) fun _ => T.some fun _ => ⟨by omega, by omega, hj⟩))
 ·rintro i s hi ⟨hs, hj⟩ next
  refine T.succ ?_
  simp only [qAZ.l0, rd80]
  refine T.po (T.po (T.po (T.bind (one_S (e.getD i z66) i).T fun r hr => T.ite (fun h => ?_) fun h => T.some fun e => absurd e h)))
  obtain ⟨n1, n2, n3⟩ := hr h
  have hk3 := kidsN_le (e.getD i z66).f0
  refine T.loop (σ := List Int) (g := fun k s j => qAZ.l1 k e s e (e.length : Int) (i : Int) (e.getD i z66).f1 ((e.getD i z66).f1.length : Int) j) (n := (e.getD i z66).f1.length) (by omega) (I := fun _ s => s.length = e.length) ?_ ?_ (e.getD i z66).f1.length 0 s rfl (Nat.zero_le _) hs
  ·intro s hs
   refine T.succ ?_
   simp only [qAZ.l1]
   refine T.ng (next s ⟨hs, fun j hj' => ?_⟩)
   rcases Nat.lt_or_ge j i with h | h
   ·exact hj j h
   ·obtain rfl : j = i := by omega
    exact hr ‹_›
  ·intro q s hq hs next2
   refine T.succ ?_
   simp only [qAZ.l1]
   have hm : rd (e.getD i z66).f1 (q : Int) ∈ (e.getD i z66).f1 := by
    rw [show rd (e.getD i z66).f1 (q : Int) = (e.getD i z66).f1.getD q 0 from by simp [rd]]
    exact qDM 0 hq
   obtain ⟨m1, m2⟩ := n3 _ hm
   refine T.po (T.po (T.po (T.po (T.po (T.bind (R := fun y => y.length = e.length) (T.some (by simpa using hs)) fun y hy => T.ite (fun _ => T.some (by simp)) fun _ => next2 y hy)))))
theorem either_T (a : Int) (l : List Int) (hl : l.length < 1000) : T (fun k => qAD.f k a l) (fun _ => True) := by
 unfold qAD.f
 refine T.loop (σ := Unit) (g := fun k _ i => qAD.l0 k a l (l.length : Int) i) (n := l.length) (by omega) (I := fun _ _ => True) (fun _ _ => ?_) (fun i _ hi _ next => ?_) l.length 0 () rfl (Nat.zero_le _) trivial
 ·refine T.succ ?_
  simp only [qAD.l0]
  exact T.ng (T.some trivial)
 ·refine T.succ ?_
  simp only [qAD.l0]
  exact T.po (T.po (T.po (T.ite (fun _ => T.some trivial) fun _ => next () trivial)))
theorem join_S (a b : Int) : S (qCQ.f a b) (fun _ => True) := by
 unfold qCQ.f
 repeat' first | exact S.some trivial | refine S.ite (fun _ => ?_) (fun _ => ?_)
theorem sum_T (a b c : Int) : T (fun k => qB0.f k a b c) (fun _ => True) := by
 have h2 : ∀ d, T (fun k => qB0.j2 k a b c d) (fun _ => True) := fun d => by
  refine T.succ ?_
  simp only [qB0.j2]
  repeat' first | exact T.some trivial | refine T.ite (fun _ => ?_) (fun _ => ?_)
 have h1 : ∀ d, T (fun k => qB0.j1 k a b c d) (fun _ => True) := fun d => by
  refine T.succ ?_
  simp only [qB0.j1]
  repeat' first | exact T.some trivial | exact h2 _ | refine T.ite (fun _ => ?_) (fun _ => ?_)
 have h0 : ∀ d, T (fun k => qB0.j0 k a b c d) (fun _ => True) := fun d => by
  refine T.succ ?_
  simp only [qB0.j0]
  repeat' first | exact T.some trivial | exact h1 _ | refine T.ite (fun _ => ?_) (fun _ => ?_)
 unfold qB0.f
 exact T.ite (fun _ => h0 _) fun _ => h0 _
theorem product_T (a b : Int) : T (fun k => qAM.f k a b) (fun _ => True) := by
 have h1 : ∀ d, T (fun k => qAM.j1 k a b d) (fun _ => True) := fun d => by
  refine T.succ ?_
  simp only [qAM.j1]
  repeat' first | exact T.some trivial | refine T.ite (fun _ => ?_) (fun _ => ?_)
 have h0 : ∀ d, T (fun k => qAM.j0 k a b d) (fun _ => True) := fun d => by
  refine T.succ ?_
  simp only [qAM.j0]
  repeat' first | exact T.some trivial | exact h1 _ | refine T.ite (fun _ => ?_) (fun _ => ?_)
 unfold qAM.f
 exact T.bind (either_T _ _ (by simp)) fun _ _ => T.ite (fun _ => T.bind (either_T _ _ (by simp)) fun _ _ => h0 _) fun _ => h0 _
def Ar (op : Int) (n : Nat) : Prop := 0 < op → (op = 4 ∨ op = 16 ∨ op = 17 → 1 ≤ n) ∧ (op = 15 → 3 ≤ n) ∧ (op ≠ 4 → op ≠ 15 → op ≠ 16 → op ≠ 17 → 2 ≤ n)
theorem ar_of {op : Int} {n : Nat} (h : (n : Int) = qF8 op) (h0 : 0 ≤ qF8 op) (h1 : op ≠ 1) (h2 : op ≠ 2) (h3 : op ≠ 3) : Ar op n ∧ 0 ≤ op := by
 unfold qF8 at h h0
 constructor
 ·intro hp
  repeat' split at h
  all_goals refine ⟨?_, ?_, ?_⟩
  all_goals omega
 ·repeat' split at h0
  all_goals omega
theorem kind_T (op : Int) (kk : List Int) (x2 x3 : Int) (x4 : ByteArray) (l : List Int) (y0 : ByteArray) (y1 y2 : Int) (y3 : Bool) (y4 : List S134) (h : Ar op l.length) (hop : 0 ≤ op) : T (fun k => qA5.f k op kk x2 x3 x4 l y0 y1 y2 y3 y4) (fun _ => True) := by
 have eT : ∀ a b, T (fun k => qAD.f k a [b]) (fun _ => True) := fun a b => either_T a [b] (by simp)
 have h3 : ∀ d, (d = true → op = 10 ∨ op = 11) → op ≠ 0 → op ≠ 4 → T (fun k => qA5.j3 k l op d op kk x2 x3 x4 y0 y1 y2 y3 y4) (fun _ => True) := fun d hd g1 g2 => by
  have h := h (by omega)
  refine T.succ ?_
  simp only [qA5.j3]
  refine T.ite (fun c => ?_) fun _ => ?_
  ·have c := hd c
   exact T.po (T.po (T.bind (sum_T _ _ _) fun _ _ => T.some trivial))
  refine T.ite (fun c => T.po (T.po (T.bind (product_T _ _) fun _ _ => T.some trivial))) fun _ => ?_
  refine T.ite (fun c => T.po (T.po (T.bind (join_S _ _).T fun _ _ => T.ite (fun _ => T.po (T.bind (eT _ _) fun _ _ => T.some trivial)) fun _ => T.some trivial))) fun _ => ?_
  refine T.ite (fun c => T.po (T.bind (eT _ _) fun _ _ => T.some trivial)) fun _ => ?_
  refine T.ite (fun c => T.po (T.bind (eT _ _) fun _ _ => T.some trivial)) fun _ => ?_
  exact T.po (T.bind (eT _ _) fun _ _ => T.ite (fun _ => T.po (T.bind (eT _ _) fun _ _ => T.some trivial)) fun _ => T.some trivial)
 have h2 : ∀ d, (d = true → op = 13 ∨ op = 14) → op ≠ 0 → op ≠ 4 → T (fun k => qA5.j2 k l op d op kk x2 x3 x4 y0 y1 y2 y3 y4) (fun _ => True) := fun d hd g1 g2 => by
  have h := h (by omega)
  refine T.succ ?_
  simp only [qA5.j2]
  refine T.ite (fun c => ?_) fun _ => T.ite (fun c => h3 _ (fun _ => .inl c) g1 g2) fun _ => h3 _ (fun e => .inr (beq_iff_eq.1 e)) g1 g2
  have c := hd c
  exact T.po (T.po (T.bind (join_S _ _).T fun _ _ => T.ite (fun _ => T.some trivial) fun _ => T.some trivial))
 have h1 : ∀ d, (d = true → op = 7 ∨ op = 8) → op ≠ 0 → op ≠ 4 → T (fun k => qA5.j1 k l op d op kk x2 x3 x4 y0 y1 y2 y3 y4) (fun _ => True) := fun d hd g1 g2 => by
  have h := h (by omega)
  refine T.succ ?_
  simp only [qA5.j1]
  refine T.ite (fun c => ?_) fun _ => T.ite (fun c => h2 _ (fun _ => .inl c) g1 g2) fun _ => h2 _ (fun e => .inr (beq_iff_eq.1 e)) g1 g2
  have c := hd c
  exact T.po (T.po (T.bind (join_S _ _).T fun _ _ => T.ite (fun _ => T.some trivial) fun _ => T.some trivial))
 have h0 : ∀ d, (d = true → op = 5 ∨ op = 6) → op ≠ 0 → op ≠ 4 → T (fun k => qA5.j0 k l op d op kk x2 x3 x4 y0 y1 y2 y3 y4) (fun _ => True) := fun d hd g1 g2 => by
  have h := h (by omega)
  refine T.succ ?_
  simp only [qA5.j0]
  refine T.ite (fun c => ?_) fun _ => T.ite (fun c => ?_) fun _ => T.ite (fun c => h1 _ (fun _ => .inl c) g1 g2) fun _ => h1 _ (fun e => .inr (beq_iff_eq.1 e)) g1 g2
  ·have c := hd c
   exact T.po (T.bind (eT _ _) fun _ _ => T.ite (fun _ => T.po (T.bind (eT _ _) fun _ _ => T.some trivial)) fun _ => T.some trivial)
  ·exact T.po (T.po (T.bind (join_S _ _).T fun _ _ => T.some trivial))
 unfold qA5.f
 refine T.ite (fun _ => T.some trivial) fun g1 => T.ite (fun c => ?_) fun g2 => T.ite (fun c => h0 _ (fun _ => .inl c) g1 g2) fun _ => h0 _ (fun e => .inr (beq_iff_eq.1 e)) g1 g2
 have h := h (by omega)
 exact T.po (T.bind (eT _ _) fun _ _ => T.some trivial)
structure Sz (b : List S76) : Prop where
 acts : b.length < 9223372036854775807
 attrs : ∀ a, a ∈ b → a.f3.length < 9223372036854775807
 tabs : ∀ a, a ∈ b → a.f4.length < 9223372036854775807
 arts : ∀ a, a ∈ b → a.f5.length < 9223372036854775807
 steps : ∀ a, a ∈ b → ∀ t, t ∈ a.f4 → t.f4.length * 16 ≤ 140737488355328
theorem kattr_T (b : List S76) (hb : Sz b) (s : ByteArray) : T (fun k => qB6.f k b s) (fun _ => True) := by
 unfold qB6.f
 refine T.loop (σ := Unit) (g := fun k _ i => qB6.l0 k s b (b.length : Int) i) (n := b.length) hb.acts (I := fun _ _ => True) (fun _ _ => ?_) (fun i _ hi _ next => ?_) b.length 0 () rfl (Nat.zero_le _) trivial
 ·refine T.succ ?_
  simp only [qB6.l0]
  exact T.ng (T.some trivial)
 ·refine T.succ ?_
  simp only [qB6.l0, rd48]
  refine T.po (T.po (T.po ?_))
  refine T.loop (σ := Unit) (g := fun k _ j => qB6.l1 k s b (b.length : Int) (i : Int) (b.getD i z76).f3 ((b.getD i z76).f3.length : Int) j) (n := (b.getD i z76).f3.length) (hb.attrs _ (qDM z76 hi)) (I := fun _ _ => True) (fun _ _ => ?_) (fun j _ hj _ next2 => ?_) (b.getD i z76).f3.length 0 () rfl (Nat.zero_le _) trivial
  ·refine T.succ ?_
   simp only [qB6.l1]
   exact T.ng (next () trivial)
  ·refine T.succ ?_
   simp only [qB6.l1]
   exact T.po (T.po (T.po (T.ite (fun _ => T.some trivial) fun _ => next2 () trivial)))
theorem looked_T (b : List S76) (hb : Sz b) (x0 : Int) (x1 : List Int) (x2 x3 : Int) (x4 : ByteArray) : T (fun k => qAT.f k b x0 x1 x2 x3 x4) (fun _ => True) := by
 have h1 : ∀ c d, T (fun k => qAT.j1 k c d x0 x1 x2 x3 x4) (fun _ => True) := fun c d => by
  refine T.succ ?_
  simp only [qAT.j1]
  repeat' first | exact T.some trivial | refine T.ite (fun _ => ?_) (fun _ => ?_)
 have h0 : ∀ c d, T (fun k => qAT.j0 k c d x0 x1 x2 x3 x4) (fun _ => True) := fun c d => by
  refine T.succ ?_
  simp only [qAT.j0]
  repeat' first | exact T.some trivial | exact h1 _ _ | refine T.ite (fun _ => ?_) (fun _ => ?_)
 unfold qAT.f qCF.f
 refine T.bind (kattr_T b hb x4) fun r _ => T.ite (fun _ => T.ite (fun _ => T.bind (R := fun _ => True) ?_ fun _ _ => h0 _ _) fun _ => h0 _ _) fun _ => T.some trivial
 exact T.ite (fun _ => T.some trivial) fun _ => T.some trivial
theorem find_T (l : List S95) (hl : l.length < 9223372036854775807) (s : ByteArray) : T (fun k => qBQ.f k l s) (fun _ => True) := by
 unfold qBQ.f
 refine T.loop (σ := Unit) (g := fun k _ i => qBQ.l0 k s l (l.length : Int) i) (n := l.length) hl (I := fun _ _ => True) (fun _ _ => ?_) (fun i _ hi _ next => ?_) l.length 0 () rfl (Nat.zero_le _) trivial
 ·refine T.succ ?_
  simp only [qBQ.l0]
  exact T.ng (T.some trivial)
 ·refine T.succ ?_
  simp only [qBQ.l0]
  exact T.po (T.po (T.po (T.ite (fun _ => T.some trivial) fun _ => next () trivial)))
theorem rd69 (l : List S95) (i : Nat) : qBS l (i : Int) = l.getD i z95 := by simp [qBS]
theorem tables_T (b : List S76) (hb : Sz b) (hL : b.length ≤ 8) (h4 : ∀ a, a ∈ b → a.f4.length ≤ 8) : T (fun k => qAQ.f k b) (fun r => r.length ≤ 64) := by
 unfold qAQ.f
 refine T.loop (σ := List S95) (g := fun k s i => qAQ.l0 k s b (b.length : Int) i) (n := b.length) hb.acts (I := fun i s => s.length ≤ i * 8) (fun s hs => ?_) (fun i s hi hs next => ?_) b.length 0 [] rfl (Nat.zero_le _) (by simp)
 ·refine T.succ ?_
  simp only [qAQ.l0]
  exact T.ng (T.some (by omega))
 ·refine T.succ ?_
  simp only [qAQ.l0, rd48]
  have hm := qDM z76 hi
  have h4i := h4 _ hm
  refine T.po (T.po (T.po ?_))
  refine T.loop (σ := List S95) (g := fun k s j => qAQ.l1 k s b (b.length : Int) (i : Int) (b.getD i z76).f4 ((b.getD i z76).f4.length : Int) j) (n := (b.getD i z76).f4.length) (hb.tabs _ hm) (I := fun j s => s.length ≤ i * 8 + j) (fun s hs => ?_) (fun j s hj hs next2 => ?_) (b.getD i z76).f4.length 0 s rfl (Nat.zero_le _) hs
  ·refine T.succ ?_
   simp only [qAQ.l1]
   exact T.ng (next s (by omega))
  ·refine T.succ ?_
   simp only [qAQ.l1, rd69]
   refine T.po (T.po (T.po (T.bind (R := fun _ => True) ?_ fun _ _ => T.po (next2 _ (by simp; omega)))))
   unfold qD3.f
   exact T.pos (hb.steps _ hm _ (qDM z95 hj)) (T.some trivial)
theorem unitary_S (a : Int) : S (qCF.f a) (fun _ => True) := by
 unfold qCF.f
 exact S.ite (fun _ => S.some trivial) fun _ => S.some trivial
theorem of_T (b : List S76) (hb : Sz b) (hL : b.length ≤ 8) (h4 : ∀ a, a ∈ b → a.f4.length ≤ 8) (e : List S66) : T (fun k => qAJ.f k b e) (fun r => r.2 = 0 → Tree e) := by
 unfold qAJ.f
 refine T.bind (tree_T e) fun r hr => T.ite (fun h => ?_) fun h => T.some fun e => absurd e h
 have ht := hr h
 have hn := ht.le
 refine T.po (T.po (T.mono (Q := fun _ => True) ?_ fun _ _ _ => ht))
 refine T.loop (σ := List Int) (g := fun k s i => qAJ.l0 k b e s e (e.length : Int) i) (n := e.length) (by omega) (I := fun _ s => s.length = e.length) (fun s hs => ?_) (fun i s hi hs next => ?_) e.length 0 _ rfl (Nat.zero_le _) (by simp)
 ·refine T.succ ?_
  simp only [qAJ.l0]
  refine T.ng ?_
  have := ht.pos
  rw [w64 (by omega) (by omega)]
  exact T.po (T.po (T.some trivial))
 ·obtain ⟨n0, n1, n2⟩ := ht.one i hi
  have put : ∀ v : Int, T (fun k => qAJ.l0 k b e (s.set i v) e (e.length : Int) (wrap64 ((i : Int) + 1))) (fun _ => True) := fun v => next _ (by simpa using hs)
  have hk : ∀ (l : List Int) (y0 : ByteArray) (y1 y2 : Int) (y3 : Bool) (y4 : List S134), (l.length : Int) = qF8 (e.getD i z66).f0 → (e.getD i z66).f0 ≠ 1 → (e.getD i z66).f0 ≠ 2 → (e.getD i z66).f0 ≠ 3 → T (fun k => (qA5.f k (e.getD i z66).f0 (e.getD i z66).f1 (e.getD i z66).f2 (e.getD i z66).f3 (e.getD i z66).f4 l y0 y1 y2 y3 y4).bind fun bt => if bt.2 = true then (if 0 ≤ (i : Int) then (if (i : Int) < (s.length : Int) then qAJ.l0 k b e (s.set (i : Int).toNat bt.1) e (e.length : Int) (wrap64 ((i : Int) + 1)) else none) else none) else some (0, 8)) (fun _ => True) := fun l y0 y1 y2 y3 y4 hl g1 g2 g3 => by
   obtain ⟨a1, a2⟩ := ar_of hl n0 g1 g2 g3
   refine T.bind (kind_T _ _ _ _ _ l y0 y1 y2 y3 y4 a1 a2) fun v _ => T.ite (fun _ => T.po (T.po ?_)) fun _ => T.some trivial
   rw [Int.toNat_natCast]
   exact put _
  have hj : ∀ c, (c = false → (e.getD i z66).f0 ≠ 1 ∧ (e.getD i z66).f0 ≠ 2 ∧ (e.getD i z66).f0 ≠ 3) → T (fun k => qAJ.j1 k b e s (i : Int) e (e.length : Int) (i : Int) c (e.getD i z66).f0 (e.getD i z66).f1 (e.getD i z66).f2 (e.getD i z66).f3 (e.getD i z66).f4) (fun _ => True) := fun c hc => by
   refine T.succ ?_
   simp only [qAJ.j1]
   refine T.ite (fun _ => T.bind (looked_T b hb _ _ _ _ _) fun v _ => T.ite (fun _ => T.po (T.po ?_)) fun _ => T.some trivial) fun hcf => ?_
   ·rw [Int.toNat_natCast]
    exact put _
   obtain ⟨g1, g2, g3⟩ := hc (Bool.eq_false_iff.2 hcf)
   have hk3 := kidsN_le (e.getD i z66).f0
   refine T.loop (σ := List Int) (g := fun k l j => qAJ.l1 k b e s (i : Int) l e (e.length : Int) (i : Int) (e.getD i z66).f1 ((e.getD i z66).f1.length : Int) j (e.getD i z66).f0 (e.getD i z66).f1 (e.getD i z66).f2 (e.getD i z66).f3 (e.getD i z66).f4) (n := (e.getD i z66).f1.length) (by omega) (I := fun j l => l.length = j) (fun l hl => ?_) (fun j l hj hl next2 => ?_) (e.getD i z66).f1.length 0 [] rfl (Nat.zero_le _) rfl
   ·refine T.succ ?_
    simp only [qAJ.l1]
    have hj3 : ∀ (d : Bool) (y0 : ByteArray) (y1 y2 : Int) (y3 : Bool) (y4 : List S134), T (fun k => qAJ.j3 k b e s (i : Int) l e (e.length : Int) (i : Int) d (e.getD i z66).f0 (e.getD i z66).f1 (e.getD i z66).f2 (e.getD i z66).f3 (e.getD i z66).f4 y0 y1 y2 y3 y4) (fun _ => True) := fun d y0 y1 y2 y3 y4 => by
     refine T.succ ?_
     simp only [qAJ.j3]
     exact T.ite (fun _ => T.some trivial) fun _ => hk l _ _ _ _ _ (by omega) g1 g2 g3
    refine T.ng (T.ite (fun _ => ?_) fun _ => hk l _ _ _ _ _ (by omega) g1 g2 g3)
    refine T.bind (tables_T b hb hL h4) fun tt htt => T.bind (find_T tt (by omega) _) fun r _ => T.ite (fun _ => ?_) fun _ => T.some trivial
    exact T.bind (unitary_S _).T fun _ _ => T.ite (fun _ => T.bind (unitary_S _).T fun _ _ => hj3 _ _ _ _ _ _) fun _ => hj3 _ _ _ _ _ _
   ·refine T.succ ?_
    simp only [qAJ.l1]
    have hm : rd (e.getD i z66).f1 (j : Int) ∈ (e.getD i z66).f1 := by
     rw [show rd (e.getD i z66).f1 (j : Int) = (e.getD i z66).f1.getD j 0 from by simp [rd]]
     exact qDM 0 hj
    obtain ⟨m1, m2⟩ := n2 _ hm
    exact T.po (T.po (T.po (T.po (T.po (T.po (next2 _ (by simp; omega)))))))
  refine T.succ ?_
  simp only [qAJ.l0, rd80]
  refine T.po (T.po (T.po (T.ite (fun _ => hj _ (by simp)) fun g1 => T.ite (fun _ => hj _ (by simp)) fun g2 => hj _ fun g3 => ⟨g1, g2, fun e => ?_⟩)))
  rw [e] at g3
  cases g3
abbrev At := ByteArray × Int × Bool × Int × Int × Int × Int × Bool
def noAt : At := ((⟨#[]⟩ : ByteArray), 0, false, 0, 0, 0, 0, false)
theorem attr_T (b : List S76) (hb : Sz b) (s : ByteArray) : T (fun k => qAR.f k b s) (fun r => (r.2.2.2.2.2.2.2 = true ∧ ∃ a, a ∈ b ∧ ∃ x, x ∈ a.f3 ∧ x.f0.toList = s.toList) ∨ r = noAt) := by
 unfold qAR.f
 refine T.loop (σ := Unit) (g := fun k _ i => qAR.l0 k s b (b.length : Int) i) (n := b.length) hb.acts (I := fun _ _ => True) (fun _ _ => ?_) (fun i _ hi _ next => ?_) b.length 0 () rfl (Nat.zero_le _) trivial
 ·refine T.succ ?_
  simp only [qAR.l0]
  exact T.ng (T.some (.inr rfl))
 ·refine T.succ ?_
  simp only [qAR.l0, rd48]
  refine T.po (T.po (T.po ?_))
  refine T.loop (σ := Unit) (g := fun k _ j => qAR.l1 k s b (b.length : Int) (i : Int) (b.getD i z76).f3 ((b.getD i z76).f3.length : Int) j) (n := (b.getD i z76).f3.length) (hb.attrs _ (qDM z76 hi)) (I := fun _ _ => True) (fun _ _ => ?_) (fun j _ hj _ next2 => ?_) (b.getD i z76).f3.length 0 () rfl (Nat.zero_le _) trivial
  ·refine T.succ ?_
   simp only [qAR.l1]
   exact T.ng (next () trivial)
  ·refine T.succ ?_
   simp only [qAR.l1]
   refine T.po (T.po (T.po (T.ite (fun he => T.some (.inl ⟨rfl, _, qDM z76 hi, _, ?_, he⟩)) fun _ => next2 () trivial)))
   simp only [qBH, Int.toNat_natCast]
   exact qDM z60 hj
theorem Attr_T (b : List S76) (hb : Sz b) (s : ByteArray) : T (fun k => qAR.f k b s) (fun _ => True) := (attr_T b hb s).mono fun _ _ => trivial
def Art (x : S72) : Prop := x.f2.length ≤ 100 ∧ x.f3.length ≤ 100 ∧ x.f4.length ≤ 8
theorem article_S (b : List S76) (hb : Sz b) (hL : b.length ≤ 8) (h4 : ∀ a, a ∈ b → a.f4.length ≤ 8) (x : S72) : S (articleF b x) (fun r => r = 0 → Art x) := by
 have h0 : ∀ d, T (fun k => qBI.j0 k b d x.f0 x.f1 x.f2 x.f3 x.f4 x.f5) (fun r => r = 0 → Art x) := fun d => by
  refine T.succ ?_
  simp only [qBI.j0]
  refine T.ite (fun _ => T.some (by simp)) fun _ => T.ite (fun _ => T.some (by simp)) fun h8 => T.bind (Attr_T b hb _) fun v _ => T.ite (fun _ => T.ite (fun _ => T.some (by simp)) fun _ => T.ite (fun _ => ?_) fun hc => ?_) fun _ => T.some (by simp)
  ·refine T.bind (of_T b hb hL h4 _) fun u hu => T.ite (fun g => T.ite (fun _ => ?_) fun _ => T.some (by simp)) fun g => T.some fun e => absurd e g
   have t1 := hu g
   exact T.bind (of_T b hb hL h4 _) fun z hz => T.ite (fun g => T.ite (fun _ => T.some fun _ => ⟨t1.le, (hz g).le, by omega⟩) fun _ => T.some (by simp)) fun g => T.some fun e => absurd e g
  ·exact T.bind (of_T b hb hL h4 _) fun z hz => T.ite (fun g => T.ite (fun _ => T.some fun _ => ⟨by omega, (hz g).le, by omega⟩) fun _ => T.some (by simp)) fun g => T.some fun e => absurd e g
 unfold articleF
 refine T.lim (fun k => qBI.mono _ _ _ _ _ _ _ _) ?_
 unfold qBI.f
 exact T.ite (fun _ => h0 _) fun _ => h0 _
def Sm (n : Nat) (l : List ByteArray) : Prop := l.length ≤ n ∧ ∀ s, s ∈ l → s.size ≤ maxLen
theorem Sm.cast {n : Nat} {l : List ByteArray} (h : Sm n l) {m : Nat} (hm : n ≤ m) : Sm m l := ⟨Nat.le_trans h.1 hm, h.2⟩
theorem Sm.add {n : Nat} {l : List ByteArray} (h : Sm n l) {s : ByteArray} (hs : s.size ≤ maxLen) : Sm (n + 1) (l ++ [s]) := ⟨by have := h.1; simp; omega, fun x hx => by
 rcases List.mem_append.1 hx with hx | hx
 ·exact h.2 x hx
 ·rw [List.mem_singleton.1 hx]; exact hs⟩
theorem ofB_all {n : Nat} {l : List ByteArray} (h : Sm n l) {m : List (List UInt8)} (hl : m.length ≤ l.length) (hm : ∀ x, x ∈ m → x ∈ toB l) : Sm n (ofB m) := by
 refine ⟨by rw [ofB_len]; exact Nat.le_trans hl h.1, fun s hs => ?_⟩
 obtain ⟨x, hx, rfl⟩ := List.mem_map.1 hs
 obtain ⟨y, hy, rfl⟩ := List.mem_map.1 (hm x hx)
 have := h.2 y hy
 simpa using this
theorem sort_S {n : Nat} {l : List ByteArray} (h : Sm n l) (hn : n < 4611686018427387904) : S (qDE.f l) (Sm n) := by
 unfold qDE.f
 refine S.pos (Nat.lt_of_le_of_lt h.1 hn) (S.some (ofB_all h (by simp [qF3]) fun x hx => ?_))
 exact List.mem_mergeSort.1 hx
theorem compact_mem {α : Type} [Inhabited α] [DecidableEq α] (zs : List α) (x : α) (h : x ∈ Lib.compact zs) : x ∈ zs := by
 unfold Lib.compact Lib.compactUpTo at h
 obtain ⟨j, hj, rfl⟩ := List.mem_map.1 h
 have hj' := List.mem_range.1 (List.mem_filter.1 hj).1
 rw [getElem!_pos _ _ (by simpa using hj')]
 simp
theorem compact_S {n : Nat} {l : List ByteArray} (h : Sm n l) (hn : n < 4611686018427387904) : S (qD4.f l) (Sm n) := by
 unfold qD4.f
 refine S.pos (Nat.lt_of_le_of_lt h.1 hn) (S.some (ofB_all h ?_ fun x hx => compact_mem _ x hx))
 unfold Lib.compact Lib.compactUpTo
 rw [List.length_map]
 exact Nat.le_trans (List.length_filter_le _ _) (by simp [qF3])
theorem names_T (e : List S66) (he : e.length ≤ 100) (hs : ∀ n, n ∈ e → n.f4.size ≤ maxLen) : T (fun k => qAU.f k e) (fun r => Sm 100 r.1 ∧ Sm 100 r.2) := by
 unfold qAU.f
 refine T.loop (σ := List ByteArray × List ByteArray) (g := fun k s i => qAU.l0 k s.1 s.2 e (e.length : Int) i) (n := e.length) (by omega) (I := fun i s => Sm i s.1 ∧ Sm i s.2) ?_ ?_ e.length 0 ([], []) rfl (Nat.zero_le _) ⟨⟨by simp, fun s hs => by cases hs⟩, ⟨by simp, fun s hs => by cases hs⟩⟩
 ·rintro ⟨s1, s2⟩ ⟨h1, h2⟩
  refine T.succ ?_
  simp only [qAU.l0]
  exact T.ng (T.bind (sort_S (h1.cast he) (by omega)).T fun a ha => T.bind (sort_S (h2.cast he) (by omega)).T fun b hb => T.bind (compact_S ha (by omega)).T fun c hc => T.bind (compact_S hb (by omega)).T fun d hd => T.some ⟨hc, hd⟩)
 ·rintro i ⟨s1, s2⟩ hi ⟨h1, h2⟩ next
  have hn := hs _ (qDM z66 hi)
  have l1 : s1.length ≤ i := h1.1
  have l2 : s2.length ≤ i := h2.1
  have hj : ∀ d x0 x1 x2 x3, T (fun k => qAU.j1 k s1 s2 e (e.length : Int) (i : Int) (e.getD i z66).f0 d x0 x1 x2 x3 (e.getD i z66).f4) (fun r => Sm 100 r.1 ∧ Sm 100 r.2) := fun d x0 x1 x2 x3 => by
   refine T.succ ?_
   simp only [qAU.j1]
   refine T.ite (fun _ => T.po (next (s1 ++ [(e.getD i z66).f4], s2) ⟨h1.add hn, h2.cast (by omega)⟩)) fun _ => T.ite (fun _ => T.po (next (s1, s2 ++ [(e.getD i z66).f4]) ⟨h1.cast (by omega), h2.add hn⟩)) fun _ => next (s1, s2) ⟨h1.cast (by omega), h2.cast (by omega)⟩
  refine T.succ ?_
  simp only [qAU.l0, rd80]
  exact T.po (T.po (T.po (T.ite (fun _ => hj _ _ _ _ _) fun _ => T.ite (fun _ => hj _ _ _ _ _) fun _ => hj _ _ _ _ _)))
structure Sx (b : List S76) : Prop extends Sz b where
 aname : ∀ a, a ∈ b → a.f0.size ≤ maxLen
 xname : ∀ a, a ∈ b → ∀ x, x ∈ a.f5 → x.f0.size ≤ maxLen ∧ x.f1.size ≤ maxLen
 refs : ∀ a, a ∈ b → ∀ x, x ∈ a.f5 → ∀ r, r ∈ x.f4 → r.f0.size ≤ maxLen ∧ r.f1.size ≤ maxLen
 cond : ∀ a, a ∈ b → ∀ x, x ∈ a.f5 → ∀ n, n ∈ x.f2 → n.f4.size ≤ maxLen ∧ n.f1.length * 8 ≤ 140737488355328
 then_ : ∀ a, a ∈ b → ∀ x, x ∈ a.f5 → ∀ n, n ∈ x.f3 → n.f4.size ≤ maxLen ∧ n.f1.length * 8 ≤ 140737488355328
theorem copy_T (e : List S66) (he : e.length ≤ 100) (hk : ∀ n, n ∈ e → n.f1.length * 8 ≤ 140737488355328) : T (fun k => qC5.f k e) (fun _ => True) := by
 unfold qC5.f
 refine T.loop (σ := List S66) (g := fun k s i => qC5.l0 k s e (e.length : Int) i) (n := e.length) (by omega) (I := fun i s => s.length = i) (fun s hs => ?_) (fun i s hi hs next => ?_) e.length 0 [] rfl (Nat.zero_le _) rfl
 ·refine T.succ ?_
  simp only [qC5.l0]
  exact T.ng (T.some trivial)
 ·refine T.succ ?_
  simp only [qC5.l0, rd80]
  refine T.po (T.po (T.po (T.bind (R := fun _ => True) ?_ fun _ _ => T.po (next _ (by simp; omega)))))
  unfold qD6.f
  exact T.pos (hk _ (qDM z66 hi)) (T.some trivial)
theorem rd54 (l : List S72) (i : Nat) : qCE l (i : Int) = l.getD i z72 := by simp [qCE]
def Arts (b : List S76) : Prop := ∀ a, a ∈ b → ∀ x, x ∈ a.f5 → Art x
theorem Article_T (b : List S76) (hb : Sx b) (hA : Arts b) (s t : ByteArray) : T (fun k => qAS.f k b s t) (fun _ => True) := by
 unfold qAS.f
 refine T.loop (σ := Unit) (g := fun k _ i => qAS.l0 k b (b.length : Int) i s t) (n := b.length) hb.acts (I := fun _ _ => True) (fun _ _ => ?_) (fun i _ hi _ next => ?_) b.length 0 () rfl (Nat.zero_le _) trivial
 ·refine T.succ ?_
  simp only [qAS.l0]
  exact T.ng (T.some trivial)
 ·refine T.succ ?_
  simp only [qAS.l0, rd48]
  have hm := qDM z76 hi
  refine T.po (T.po (T.po ?_))
  generalize hy : b.getD i z76 = y at *
  refine T.loop (σ := Unit) (g := fun k _ j => qAS.l1 k b (b.length : Int) (i : Int) y.f5 (y.f5.length : Int) j s t y.f0 y.f1 y.f2 y.f3 y.f4 y.f5) (n := y.f5.length) (hb.arts _ hm) (I := fun _ _ => True) (fun _ _ => ?_) (fun j _ hj _ next2 => ?_) y.f5.length 0 () rfl (Nat.zero_le _) trivial
  ·refine T.succ ?_
   simp only [qAS.l1]
   exact T.ng (next () trivial)
  ·refine T.succ ?_
   simp only [qAS.l1, rd54]
   have hx := qDM z72 hj
   obtain ⟨a1, a2, a3⟩ := hA _ hm _ hx
   refine T.po (T.po (T.po (T.ite (fun _ => T.ite (fun _ => ?_) fun _ => next2 () trivial) fun _ => next2 () trivial)))
   refine T.bind (R := fun _ => True) ?_ fun _ _ => T.some trivial
   unfold qB5.f qCA.f
   exact T.bind (copy_T _ a1 fun n hn => (hb.cond _ hm _ hx n hn).2) fun _ _ => T.bind (copy_T _ a2 fun n hn => (hb.then_ _ hm _ hx n hn).2) fun _ _ => T.bind (R := fun _ => True) (T.po (T.some trivial)) fun _ _ => T.some trivial
theorem rindex_T (l : List S114) (hl : l.length < 1000) (s t : ByteArray) : T (fun k => qBU.f k l s t) (fun _ => True) := by
 unfold qBU.f
 refine T.loop (σ := Unit) (g := fun k _ i => qBU.l0 k l (l.length : Int) i s t) (n := l.length) (by omega) (I := fun _ _ => True) (fun _ _ => ?_) (fun i _ hi _ next => ?_) l.length 0 () rfl (Nat.zero_le _) trivial
 ·refine T.succ ?_
  simp only [qBU.l0]
  exact T.ng (T.some trivial)
 ·refine T.succ ?_
  simp only [qBU.l0]
  exact T.po (T.po (T.po (T.ite (fun _ => T.some trivial) fun _ => next () trivial)))
theorem over_S (b : List S76) (hb : Sx b) (hA : Arts b) (an : ByteArray) (x : S72) (hx : Art x) : S (overF b an x) (fun _ => True) := by
 obtain ⟨_, _, h8⟩ := hx
 unfold overF
 refine T.lim (fun k => qBJ.mono _ _ _ _ _ _ _ _ _ _) ?_
 unfold qBJ.f
 refine T.loop (σ := Unit) (g := fun k _ i => qBJ.l0 k b x.f4 (x.f4.length : Int) i an x.f0 x.f0 x.f1 x.f2 x.f3 x.f4 x.f5) (n := x.f4.length) (by omega) (I := fun _ _ => True) (fun _ _ => ?_) (fun i _ hi _ next => ?_) x.f4.length 0 () rfl (Nat.zero_le _) trivial
 ·refine T.succ ?_
  simp only [qBJ.l0]
  exact T.ng (T.some trivial)
 ·have hj : ∀ d y0 y1, T (fun k => qBJ.j1 k b (i : Int) x.f4 (x.f4.length : Int) (i : Int) d an x.f0 x.f0 x.f1 x.f2 x.f3 x.f4 x.f5 y0 y1) (fun _ => True) := fun d y0 y1 => by
   refine T.succ ?_
   simp only [qBJ.j1]
   refine T.ite (fun _ => T.some trivial) fun _ => T.po (T.po ?_)
   unfold qCW.f
   exact T.bind (R := fun _ => True) (T.bind (rindex_T _ (by simp; omega) _ _) fun _ _ => T.some trivial) fun _ _ => T.ite (fun _ => T.some trivial) fun _ => next () trivial
  refine T.succ ?_
  simp only [qBJ.l0]
  exact T.po (T.po (T.po (T.bind (Article_T b hb hA _ _) fun _ _ => T.ite (fun _ => T.ite (fun _ => hj _ _ _) fun _ => hj _ _ _) fun _ => T.some trivial)))
theorem S_ite {α : Type} {c : Prop} {i : Decidable c} {a b : Option α} {Q : α → Prop} (h1 : c → S a Q) (h2 : ¬ c → S b Q) : S (@_root_.ite _ c i a b) Q := S.ite h1 h2
def RI (R : Refs) : Prop := ∀ r, r ∈ R → r.f0.size ≤ maxLen ∧ r.f1.size ≤ maxLen
def OI (O : qFG) : Prop := ∀ p, p ∈ O → p.2.length ≤ 8 ∧ RI p.2
def AI (n : Nat) (R : Refs) (O : qFG) : Prop := R.length ≤ n ∧ O.length ≤ n ∧ RI R ∧ OI O
theorem AI.cast {n m : Nat} {R : Refs} {O : qFG} (h : AI n R O) (hm : n ≤ m) : AI m R O := ⟨Nat.le_trans h.1 hm, Nat.le_trans h.2.1 hm, h.2.2⟩
theorem in_S (b : List S76) (hb : Sx b) (hL : Lim b) (an : ByteArray) (ha : an.size ≤ maxLen) : ∀ (xs : List S72) (L : List ByteArray) (R : Refs) (O : qFG) (n : Nat), (∀ x, x ∈ xs → x.f0.size ≤ maxLen ∧ RI x.f4) → L.length + xs.length ≤ 100 → n + xs.length ≤ 1000 → AI n R O →
  S (chk_in b an xs L R O) (fun p => AI (n + xs.length) p.2.1 p.2.2 ∧ (p.1 = 0 → (xs.map fun x => x.f0).Nodup ∧ ∀ x, x ∈ xs → x.f0 ∉ L ∧ Art x))
 | [], L, R, O, n, hx, hl, hn, hA => S.some ⟨hA, fun _ => ⟨List.nodup_nil, fun x hx => (by cases hx)⟩⟩
 | x :: xs, L, R, O, n, hx, hl, hn, hA => by
  rw [List.length_cons] at hl hn ⊢
  have hA' := hA
  obtain ⟨a1, a2, a3, a4⟩ := hA
  have hx0 := hx x (List.mem_cons_self ..)
  unfold chk_in
  refine S.pos ⟨by omega, by omega, by omega, ha, hx0.1⟩ (S.ite (fun h0 => S.some ⟨hA'.cast (by omega), fun e => absurd e h0⟩) fun h0 => S.bind (article_S b hb.toSz hL.acts hL.tabs x) fun e he => S.ite (fun h1 => S.some ⟨hA'.cast (by omega), fun e => absurd e h1⟩) fun h1 => ?_)
  have hArt := he (by omega)
  refine (in_S b hb hL an ha xs (x.f0 :: L) _ _ (n + 1) (fun y hy => hx y (List.mem_cons_of_mem _ hy)) (by simp; omega) (by omega) ⟨by simp; omega, by simp; omega, ?_, ?_⟩).mono fun p ⟨hp1, hp2⟩ => ⟨hp1.cast (by omega), fun hp => ?_⟩
  ·intro r hr
   rcases List.mem_append.1 hr with hr | hr
   ·exact a3 r hr
   ·rw [List.mem_singleton.1 hr]; exact ⟨ha, hx0.1⟩
  ·intro p hp
   rcases List.mem_cons.1 hp with rfl | hp
   ·exact ⟨hArt.2.2, hx0.2⟩
   ·exact a4 p hp
  ·obtain ⟨n1, n2⟩ := hp2 hp
   refine ⟨?_, fun y hy => ?_⟩
   ·rw [List.map_cons, List.nodup_cons]
    refine ⟨fun hm => ?_, n1⟩
    obtain ⟨y, hy, e⟩ := List.mem_map.1 hm
    exact (n2 y hy).1 (by rw [e]; exact List.mem_cons_self ..)
   ·rcases List.mem_cons.1 hy with rfl | hy
    ·exact ⟨addR_zero h0, hArt⟩
    ·exact ⟨fun hm => (n2 y hy).1 (List.mem_cons_of_mem _ hm), (n2 y hy).2⟩
structure Arr (l : List S76) : Prop where
 arts : ∀ a, a ∈ l → ∀ x, x ∈ a.f5 → Art x
 names : ∀ a, a ∈ l → (a.f5.map fun x => x.f0).Nodup
theorem acts_S (b : List S76) (hb : Sx b) (hL : Lim b) : ∀ (l : List S76) (R : Refs) (O : qFG) (n : Nat), (∀ a, a ∈ l → a ∈ b) → n + l.length * 60 ≤ 1000 → AI n R O → S (qEE b l R O) (fun p => AI (n + l.length * 60) p.2.1 p.2.2 ∧ (p.1 = 0 → Arr l))
 | [], R, O, n, hl, hn, hA => S.some ⟨hA.cast (by omega), fun _ => ⟨fun a h => (by cases h), fun a h => (by cases h)⟩⟩
 | a :: l, R, O, n, hl, hn, hA => by
  rw [List.length_cons] at hn ⊢
  have hm := hl a (List.mem_cons_self ..)
  have h60 := hL.arts a hm
  unfold qEE
  refine S.bind (in_S b hb hL a.f0 (hb.aname a hm) a.f5 [] R O n (fun x hx => ⟨(hb.xname a hm x hx).1, hb.refs a hm x hx⟩) (by simp; omega) (by omega) hA) fun p ⟨hp1, hp2⟩ => S.ite (fun h => S.some ⟨hp1.cast (by omega), fun e => absurd e h⟩) fun h => ?_
  refine (acts_S b hb hL l _ _ (n + a.f5.length) (fun x hx => hl x (List.mem_cons_of_mem _ hx)) (by omega) hp1).mono fun q ⟨hq1, hq2⟩ => ⟨hq1.cast (by omega), fun e => ?_⟩
  obtain ⟨g1, g2⟩ := hq2 e
  obtain ⟨m1, m2⟩ := hp2 (by omega)
  refine ⟨fun y hy => ?_, fun y hy => ?_⟩
  ·rcases List.mem_cons.1 hy with rfl | hy
   ·exact fun x hx => (m2 x hx).2
   ·exact g1 y hy
  ·rcases List.mem_cons.1 hy with rfl | hy
   ·exact m1
   ·exact g2 y hy
theorem over_in_S (b : List S76) (hb : Sx b) (hA : Arts b) (an : ByteArray) : ∀ (xs : List S72), (∀ x, x ∈ xs → Art x) → S (qEN b an xs) (fun _ => True)
 | [], _ => S.some trivial
 | x :: xs, h => by
  unfold qEN
  exact S.bind (over_S b hb hA an x (h x (List.mem_cons_self ..))) fun _ _ => S.ite (fun _ => S.some trivial) fun _ => over_in_S b hb hA an xs fun y hy => h y (List.mem_cons_of_mem _ hy)
theorem over_acts_S (b : List S76) (hb : Sx b) (hA : Arts b) : ∀ (l : List S76), (∀ a, a ∈ l → ∀ x, x ∈ a.f5 → Art x) → S (qDO b l) (fun _ => True)
 | [], _ => S.some trivial
 | a :: l, h => by
  unfold qDO
  exact S.bind (over_in_S b hb hA a.f0 a.f5 (h a (List.mem_cons_self ..))) fun _ _ => S.ite (fun _ => S.some trivial) fun _ => over_acts_S b hb hA l fun y hy => h y (List.mem_cons_of_mem _ hy)
abbrev Looks := List (ByteArray × List ByteArray)
def LI (n : Nat) (P : Looks) : Prop := P.length ≤ n ∧ ∀ p, p ∈ P → p.1.size ≤ maxLen ∧ Sm 200 p.2
theorem flat_le {α β : Type} (f : α → List β) (c : Nat) : ∀ (l : List α), (∀ x, x ∈ l → (f x).length ≤ c) → (l.flatMap f).length ≤ l.length * c
 | [], _ => by simp
 | x :: l, h => by
  rw [List.flatMap_cons, List.length_append, List.length_cons, Nat.add_mul, Nat.one_mul]
  have h1 := h x (List.mem_cons_self ..)
  have h2 := flat_le f c l fun y hy => h y (List.mem_cons_of_mem _ hy)
  omega
theorem lookN_le {n : Nat} {P : Looks} (h : LI n P) (s : ByteArray) : (qEL P s).length ≤ n * 200 := by
 unfold qEL
 have h1 := flat_le (fun p : ByteArray × List ByteArray => p.2) 200 (P.filter fun p => decide (p.1 = s)) fun p hp => (h.2 p (List.mem_filter.1 hp).1).2.1
 have h2 := List.length_filter_le (fun p : ByteArray × List ByteArray => decide (p.1 = s)) P
 have h3 := h.1
 exact Nat.le_trans h1 (Nat.mul_le_mul_right _ (by omega))
theorem looks_go_S : ∀ (xs : List S72) (P : Looks) (n : Nat), (∀ x, x ∈ xs → Art x ∧ x.f1.size ≤ maxLen ∧ (∀ n, n ∈ x.f2 → n.f4.size ≤ maxLen) ∧ ∀ n, n ∈ x.f3 → n.f4.size ≤ maxLen) → n + xs.length ≤ 1000 → LI n P → S (qE7 xs P) (LI (n + xs.length))
 | [], P, n, _, _, h => S.some h
 | x :: xs, P, n, hx, hn, h => by
  rw [List.length_cons] at hn ⊢
  obtain ⟨⟨g1, g2, _⟩, g3, g4, g5⟩ := hx x (List.mem_cons_self ..)
  have h1 := h.1
  have hl := lookN_le h x.f1
  unfold qE7
  refine S.pos (by omega) (S.pos g3 (S.bind (T.lim (fun k => qAU.mono _ _) (names_T x.f2 g1 g4)) fun c hc => S.bind (T.lim (fun k => qAU.mono _ _) (names_T x.f3 g2 g5)) fun t ht => ?_))
  have c1 := hc.1.1
  have t1 := ht.1.1
  have hm : n * 200 ≤ 1000 * 200 := Nat.mul_le_mul_right _ (by omega)
  refine S.pos (by omega) ((looks_go_S xs _ (n + 1) (fun y hy => hx y (List.mem_cons_of_mem _ hy)) (by omega) ⟨by simp; omega, fun p hp => ?_⟩).mono fun r hr => ⟨by have := hr.1; omega, hr.2⟩)
  rcases List.mem_append.1 hp with hp | hp
  ·exact h.2 p hp
  ·rw [List.mem_singleton.1 hp]
   refine ⟨g3, by simp; omega, fun s hs => ?_⟩
   rcases List.mem_append.1 hs with hs | hs
   ·exact hc.1.2 s hs
   ·exact ht.1.2 s hs
theorem looks_acts_S (b : List S76) (hb : Sx b) (hL : Lim b) (hA : Arts b) : ∀ (l : List S76) (P : Looks) (n : Nat), (∀ a, a ∈ l → a ∈ b) → n + l.length * 60 ≤ 1000 → LI n P → S (qCM.go l P) (LI (n + l.length * 60))
 | [], P, n, _, _, h => S.some h
 | a :: l, P, n, hl, hn, h => by
  rw [List.length_cons] at hn ⊢
  have hm := hl a (List.mem_cons_self ..)
  have h60 := hL.arts a hm
  unfold qCM.go
  refine S.bind (looks_go_S a.f5 P n (fun x hx => ⟨hA a hm x hx, (hb.xname a hm x hx).2, fun y hy => (hb.cond a hm x hx y hy).1, fun y hy => (hb.then_ a hm x hx y hy).1⟩) (by omega) h) fun P' hP' => ?_
  exact (looks_acts_S b hb hL hA l P' (n + a.f5.length) (fun x hx => hl x (List.mem_cons_of_mem _ hx)) (by omega) hP').mono fun r hr => ⟨by have := hr.1; omega, hr.2⟩
theorem last_S {P : Looks} (h : LI 480 P) : S (chk_last P) (fun _ => True) := by
 have h1 := h.1
 unfold chk_last
 refine S.pos ⟨fun s hs => ?_, ?_, by omega⟩ (S_ite (fun _ => S.some trivial) fun _ => S.some trivial)
 ·obtain ⟨p, hp, hs⟩ := List.mem_flatMap.1 hs
  obtain ⟨g1, g2⟩ := h.2 p hp
  rcases List.mem_cons.1 hs with rfl | hs
  ·exact g1
  ·exact g2.2 s hs
 ·have h2 := flat_le (fun p : ByteArray × List ByteArray => p.1 :: p.2) 201 P fun p hp => by have := (h.2 p hp).2.1; simp; omega
  have h3 : P.length * 201 ≤ 480 * 201 := Nat.mul_le_mul_right _ h1
  unfold qET
  have : maxLen = 9223372036854775807 := by decide
  omega
structure GoodB (b : List S76) : Prop where
 lim : Lim b
 parts : Parts b
 arr : Arr b
theorem check_S (b : List S76) (hb : Sx b) (hsz : ∀ a, a ∈ b → a.f3.length ≤ 140737488355328) : S (qCJ.f b) (fun r => r = 0 → GoodB b) := by
 unfold qCJ.f limitsF
 refine S.bind (T.lim (fun k => qBM.mono _ _) (limits_is b hb.acts hsz)) fun e he => S.ite (fun h => S.some fun e => absurd e h) fun h => ?_
 have hL := he (by omega)
 have h8 := hL.acts
 refine S.bind (parts_S hL) fun e he => S.ite (fun h => S.some fun e => absurd e h) fun h => ?_
 have hP := he (by omega)
 refine S.bind (acts_S b hb hL b [] [] 0 (fun _ h => h) (by omega) ⟨by simp, by simp, fun r hr => (by cases hr), fun p hp => (by cases hp)⟩) fun p ⟨hp1, hp2⟩ => ?_
 unfold chk_k1
 refine S.ite (fun h => S.some fun e => absurd e h) fun h => ?_
 have hR := hp2 (by omega)
 refine S.bind (over_acts_S b hb hR.arts b hR.arts) fun e _ => ?_
 unfold chk_k2
 refine S.ite (fun h => S.some fun e => absurd e h) fun h => S.mono (Q := fun _ => True) ?_ fun _ _ _ => ⟨hL, hP, hR⟩
 obtain ⟨r1, r2, r3, r4⟩ := hp1
 unfold chk_end
 refine S.pos ⟨fun x hx => ?_, ?_⟩ (S_ite (fun _ => S.some trivial) fun _ => ?_)
 ·rcases List.mem_append.1 hx with hx | hx
  ·exact r3 x hx
  ·obtain ⟨q, hq, hx⟩ := List.mem_flatMap.1 hx
   exact (r4 q hq).2 x hx
 ·have h2 := flat_le (fun p : S114 × List S114 => p.2) 8 p.2.2 fun q hq => (r4 q hq).1
  have h3 : p.2.2.length * 8 ≤ (0 + b.length * 60) * 8 := Nat.mul_le_mul_right _ r2
  unfold allRefs
  rw [List.length_append]
  have : maxLen = 9223372036854775807 := by decide
  omega
 ·unfold qCM.f
  exact S.bind (looks_acts_S b hb hL hR.arts b [] 0 (fun _ h => h) (by omega) ⟨by simp, fun p hp => (by cases hp)⟩) fun P hP => last_S ⟨by have := hP.1; omega, hP.2⟩
theorem attr_same_l : ∀ k, (∀ x1 x10 x11 x12, qBA.l0 k x1 x10 x11 x12 = qAR.l0 k x1 x10 x11 x12) ∧ (∀ x1 x10 x11 x12 x17 x18 x19, qBA.l1 k x1 x10 x11 x12 x17 x18 x19 = qAR.l1 k x1 x10 x11 x12 x17 x18 x19)
 | 0 => ⟨fun _ _ _ _ => rfl, fun _ _ _ _ _ _ _ => rfl⟩
 | k + 1 => by
  obtain ⟨h1, h2⟩ := attr_same_l k
  exact ⟨fun _ _ _ _ => by simp only [qBA.l0, qAR.l0, h2], fun _ _ _ _ _ _ _ => by simp only [qBA.l1, qAR.l1, h1, h2]⟩
theorem attr_same (k : Nat) (b : List S76) (s : ByteArray) : qBA.f k b s = qAR.f k b s := (attr_same_l k).1 _ _ _ _
theorem nameB_ne {s : ByteArray} (h : nameB s = true) : s.toList ≠ [] := by
 intro e
 unfold nameB qBE.f at h
 rw [if_pos e] at h
 cases h
theorem parts_in_nm {α : Type} {nm : α → ByteArray} {ck : α → Option Int} : ∀ {xs : List α} {L : List ByteArray} {p : Int × List ByteArray}, qE3 nm ck xs L = some p → p.1 = 0 → ∀ x, x ∈ xs → nameB (nm x) = true
 | [], _, _, _, _, x, hx => by cases hx
 | y :: ys, L, p, h, h0, x, hx => by
  unfold qE3 at h
  by_cases h1 : L.length < 1000000
  ·rw [if_pos h1] at h
   by_cases h2 : addR L (nm y) ≠ 0
   ·rw [if_pos h2] at h
    rw [← Option.some.inj h] at h0
    exact absurd h0 h2
   ·rw [if_neg h2] at h
    obtain ⟨e, _, h3⟩ := Option.bind_eq_some_iff.1 h
    by_cases h4 : e ≠ 0
    ·rw [if_pos h4] at h3
     rw [← Option.some.inj h3] at h0
     exact absurd h0 h4
    ·rw [if_neg h4] at h3
     rcases List.mem_cons.1 hx with rfl | hx
     ·cases hn : nameB (nm x)
      ·exfalso
       apply h2
       simp [addR, hn]
      ·rfl
     ·exact parts_in_nm h3 h0 x hx
  ·rw [if_neg h1] at h
   cases h
theorem go_nm : ∀ {l : List S76} {A U B : List ByteArray}, qBL.go l A U B = some 0 → ∀ a, a ∈ l → ∀ x, x ∈ a.f3 → nameB x.f0 = true
 | [], _, _, _, _, a, ha, _, _ => by cases ha
 | c :: l, A, U, B, h, a, ha, x, hx => by
  unfold qBL.go at h
  by_cases h1 : A.length < 1000000
  ·rw [if_pos h1] at h
   by_cases h2 : addR A c.f0 ≠ 0
   ·rw [if_pos h2] at h
    exact absurd (Option.some.inj h) h2
   ·rw [if_neg h2] at h
    split at h
    ·cases h
    ·obtain ⟨p, hp, h3⟩ := Option.bind_eq_some_iff.1 h
     unfold qBL.k1 at h3
     by_cases h4 : p.1 ≠ 0
     ·rw [if_pos h4] at h3
      exact absurd (Option.some.inj h3) h4
     ·rw [if_neg h4] at h3
      obtain ⟨q, _, h5⟩ := Option.bind_eq_some_iff.1 h3
      unfold qBL.k2 at h5
      by_cases h6 : q.1 ≠ 0
      ·rw [if_pos h6] at h5
       exact absurd (Option.some.inj h5) h6
      ·rw [if_neg h6] at h5
       rcases List.mem_cons.1 ha with rfl | ha
       ·exact parts_in_nm hp (by omega) x hx
       ·exact go_nm h5 a ha x hx
  ·rw [if_neg h1] at h
   cases h
theorem check_nm {b : List S76} (h : qCJ.f b = some 0) : ∀ a, a ∈ b → ∀ x, x ∈ a.f3 → x.f0.toList ≠ [] := by
 unfold qCJ.f at h
 obtain ⟨e, _, h⟩ := Option.bind_eq_some_iff.1 h
 by_cases h1 : e ≠ 0
 ·rw [if_pos h1] at h
  exact absurd (Option.some.inj h) h1
 ·rw [if_neg h1] at h
  obtain ⟨e2, h2, h⟩ := Option.bind_eq_some_iff.1 h
  by_cases h3 : e2 ≠ 0
  ·rw [if_pos h3] at h
   exact absurd (Option.some.inj h) h3
  ·have h4 : e2 = 0 := by omega
   subst h4
   exact fun a ha x hx => nameB_ne (go_nm h2 a ha x hx)
theorem maskN (a : Nat) (ha : a < 18446744073709551616) : bits .and .u64 (a : Int) 4294967295 = ((a % 4294967296 : Nat) : Int) := by
 have h := bits_and_u64_nat a 4294967295 ha (by omega)
 have e : a &&& 4294967295 = a % 4294967296 := Nat.and_two_pow_sub_one_eq_mod a 32
 rw [e] at h
 exact h
theorem divN (a : Nat) : (a : Int) / 4294967296 = ((a / 4294967296 : Nat) : Int) := by omega
theorem mulN (a b : Nat) : (a : Int) * (b : Int) = ((a * b : Nat) : Int) := (Int.natCast_mul a b).symm
theorem addN (a b : Nat) : (a : Int) + (b : Int) = ((a + b : Nat) : Int) := (Int.natCast_add a b).symm
theorem wrapN (a : Nat) (ha : a < 18446744073709551616) : IntKind.u64.wrap (a : Int) = (a : Int) := by rw [IntKind.wrap_u64]; omega
theorem wrapM (a : Nat) : IntKind.u64.wrap (a : Int) = ((a % 18446744073709551616 : Nat) : Int) := by rw [IntKind.wrap_u64]; omega
theorem mul64 (x y : Nat) (hx : x < 18446744073709551616) (hy : y < 18446744073709551616) :
  bits_Mul64.f x y = some (((x * y / 18446744073709551616 : Nat) : Int), ((x * y % 18446744073709551616 : Nat) : Int)) := by
 obtain ⟨bd, bt, bw, hhi⟩ := Lib.mul64_hi x y hx hy
 have ba := Lib.half_mul_le (a := x / 4294967296) (b := y / 4294967296) (by omega) (by omega)
 have bb := Lib.half_mul_le (a := x / 4294967296) (b := y % 4294967296) (by omega) (by omega)
 have bc := Lib.half_mul_le (a := x % 4294967296) (b := y / 4294967296) (by omega) (by omega)
 have ba' : x / 4294967296 * (y / 4294967296) < 18446744073709551616 := by omega
 have bb' : x / 4294967296 * (y % 4294967296) < 18446744073709551616 := by omega
 have bc' : x % 4294967296 * (y / 4294967296) < 18446744073709551616 := by omega
 have bh1 : x / 4294967296 * (y / 4294967296) + (x / 4294967296 * (y % 4294967296) + x % 4294967296 * (y % 4294967296) / 4294967296) / 4294967296 < 18446744073709551616 := by omega
 have bh : x / 4294967296 * (y / 4294967296) + (x / 4294967296 * (y % 4294967296) + x % 4294967296 * (y % 4294967296) / 4294967296) / 4294967296 + ((x / 4294967296 * (y % 4294967296) + x % 4294967296 * (y % 4294967296) / 4294967296) % 4294967296 + x % 4294967296 * (y / 4294967296)) / 4294967296 < 18446744073709551616 := by omega
 unfold bits_Mul64.f
 simp only [maskN x hx, maskN y hy, divN, mulN, addN, wrapN _ bd, wrapN _ bb', wrapN _ bt, maskN _ bt, wrapN _ bc', wrapN _ bw, wrapN _ ba', wrapN _ bh1, wrapN _ bh, wrapM (x * y)]
 rw [hhi]
theorem u64_range (n : Int) : 0 ≤ IntKind.u64.wrap n ∧ IntKind.u64.wrap n < 18446744073709551616 := by rw [IntKind.wrap_u64]; omega
theorem xor_range (a b : Int) : 0 ≤ Go.bits .xor .u64 a b ∧ Go.bits .xor .u64 a b < 18446744073709551616 := by unfold Go.bits; exact u64_range _
theorem u64_id {n : Int} (h0 : 0 ≤ n) (h : n < 18446744073709551616) : IntKind.u64.wrap n = n := by rw [IntKind.wrap_u64]; omega
theorem mix_range (a : Int) : ∃ m : Nat, qEH.f a = some (m : Int) ∧ m < 18446744073709551616 := by
 unfold qEH.f
 generalize IntKind.u64.wrap _ = z
 have h := xor_range z (z / 2147483648)
 refine ⟨(Go.bits .xor .u64 z (z / 2147483648)).toNat, ?_, ?_⟩
 ·rw [Int.toNat_of_nonneg h.1]
 ·omega
theorem next_range (s : Int) : ∃ m : Nat, qES.f s = some ((m : Int), IntKind.u64.wrap (s + 11400714819323198485)) ∧ m < 18446744073709551616 := by
 obtain ⟨m, hm, h⟩ := mix_range (IntKind.u64.wrap (s + 11400714819323198485))
 refine ⟨m, ?_, h⟩
 unfold qES.f
 rw [hm]; rfl
theorem hi_lt (x n : Nat) (hx : x < 18446744073709551616) (hn : 1 ≤ n) : x * n / 18446744073709551616 < n := by
 apply Nat.div_lt_of_lt_mul
 exact Nat.mul_lt_mul_of_pos_right hx (by omega)
theorem tdiv_u64 {z s : Int} (h0 : 0 ≤ z) (h : z < 18446744073709551616) (hs : 0 < s) : IntKind.u64.wrap (z.tdiv s) = z / s := by
 rw [Int.tdiv_eq_ediv_of_nonneg h0]
 exact u64_id (Int.ediv_nonneg h0 (by omega)) (Int.lt_of_le_of_lt (Int.ediv_le_self _ h0) h)
theorem spread_mix {z : Int} (h0 : 0 ≤ z) (h : z < 18446744073709551616) : qBO.f z = qEH.f z := by
 unfold qBO.f qEH.f qBO.e qBO.r
 rw [tdiv_u64 h0 h (by omega)]
 generalize e1 : IntKind.u64.wrap (Go.bits .xor .u64 z (z / 1073741824) * 13787848793156543929) = t1
 have r1 : 0 ≤ t1 ∧ t1 < 18446744073709551616 := by rw [← e1]; exact u64_range _
 rw [tdiv_u64 r1.1 r1.2 (by omega)]
 generalize e2 : IntKind.u64.wrap (Go.bits .xor .u64 t1 (t1 / 134217728) * 10723151780598845931) = t2
 have r2 : 0 ≤ t2 ∧ t2 < 18446744073709551616 := by rw [← e2]; exact u64_range _
 rw [tdiv_u64 r2.1 r2.2 (by omega)]
 have r3 := xor_range t2 (t2 / 2147483648)
 rw [u64_id r3.1 r3.2]
theorem ref_next (s : Int) : qCV.f s = qES.f s := by
 unfold qCV.f qES.f
 have h := u64_range (s + 11400714819323198485)
 rw [spread_mix h.1 h.2]
theorem ref_hi (x y : Nat) (hx : x < 18446744073709551616) (hy : y < 18446744073709551616) :
  x / 4294967296 * (y / 4294967296) + x / 4294967296 * (y % 4294967296) / 4294967296 + x % 4294967296 * (y / 4294967296) / 4294967296 +
   (x % 4294967296 * (y % 4294967296) / 4294967296 + x / 4294967296 * (y % 4294967296) % 4294967296 + x % 4294967296 * (y / 4294967296) % 4294967296) / 4294967296 = x * y / 18446744073709551616 := by
 obtain ⟨_, _, _, hhi⟩ := Lib.mul64_hi x y hx hy
 rw [← hhi]
 generalize x / 4294967296 * (y / 4294967296) = a
 generalize x / 4294967296 * (y % 4294967296) = b
 generalize x % 4294967296 * (y / 4294967296) = c
 generalize x % 4294967296 * (y % 4294967296) = d
 omega
theorem below_is (s n : Int) (h : 1 ≤ n) (hn : n ≤ 9223372036854775807) : ∃ k : Nat, qDZ.f s n = some ((k : Int), IntKind.u64.wrap (s + 11400714819323198485)) ∧ qC7.f s n = some ((k : Int), IntKind.u64.wrap (s + 11400714819323198485)) ∧ (k : Int) < n := by
 obtain ⟨m, hm, hlt⟩ := next_range s
 obtain ⟨y, rfl⟩ := Int.eq_ofNat_of_zero_le (show 0 ≤ n by omega)
 have hy : y < 18446744073709551616 := by omega
 have hb := hi_lt m y hlt (by omega)
 have hw : wrap64 ((m * y / 18446744073709551616 : Nat) : Int) = ((m * y / 18446744073709551616 : Nat) : Int) := by unfold wrap64; omega
 refine ⟨m * y / 18446744073709551616, ?_, ?_, by omega⟩
 ·unfold qDZ.f
  rw [if_neg (by omega), hm]
  simp only [Option.bind_some]
  rw [show IntKind.u64.wrap (y : Int) = (y : Int) from wrapN y (by omega), mul64 m y hlt (by omega)]
  simp only [Option.bind_some]
  rw [hw]
 ·unfold qC7.f
  rw [if_neg (by omega), ref_next, hm]
  simp only [Option.bind_some]
  have hhi := ref_hi m y hlt hy
  have ba := Lib.half_mul_le (a := m / 4294967296) (b := y / 4294967296) (by omega) (by omega)
  have bb := Lib.half_mul_le (a := m / 4294967296) (b := y % 4294967296) (by omega) (by omega)
  have bc := Lib.half_mul_le (a := m % 4294967296) (b := y / 4294967296) (by omega) (by omega)
  have bd := Lib.half_mul_le (a := m % 4294967296) (b := y % 4294967296) (by omega) (by omega)
  have ba' : m / 4294967296 * (y / 4294967296) < 18446744073709551616 := by omega
  have bb' : m / 4294967296 * (y % 4294967296) < 18446744073709551616 := by omega
  have bc' : m % 4294967296 * (y / 4294967296) < 18446744073709551616 := by omega
  have bd' : m % 4294967296 * (y % 4294967296) < 18446744073709551616 := by omega
  have b1 : m % 4294967296 * (y % 4294967296) / 4294967296 + m / 4294967296 * (y % 4294967296) % 4294967296 < 18446744073709551616 := by omega
  have b2 : m % 4294967296 * (y % 4294967296) / 4294967296 + m / 4294967296 * (y % 4294967296) % 4294967296 + m % 4294967296 * (y / 4294967296) % 4294967296 < 18446744073709551616 := by omega
  have b3 : m / 4294967296 * (y / 4294967296) + m / 4294967296 * (y % 4294967296) / 4294967296 < 18446744073709551616 := by omega
  have b4 : m / 4294967296 * (y / 4294967296) + m / 4294967296 * (y % 4294967296) / 4294967296 + m % 4294967296 * (y / 4294967296) / 4294967296 < 18446744073709551616 := by omega
  have b5 : m / 4294967296 * (y / 4294967296) + m / 4294967296 * (y % 4294967296) / 4294967296 + m % 4294967296 * (y / 4294967296) / 4294967296 + (m % 4294967296 * (y % 4294967296) / 4294967296 + m / 4294967296 * (y % 4294967296) % 4294967296 + m % 4294967296 * (y / 4294967296) % 4294967296) / 4294967296 < 18446744073709551616 := by omega
  simp only [wrapN y hy, maskN m hlt, maskN y hy, divN, mulN, addN, wrapN _ ba', wrapN _ bb', wrapN _ bc', wrapN _ bd', maskN _ bb', maskN _ bc', wrapN _ b1, wrapN _ b2, wrapN _ b3, wrapN _ b4, wrapN _ b5]
  rw [hhi, hw]
theorem rd_at (pre : List Int) (y : Int) (suf : List Int) : rd (pre ++ y :: suf) (pre.length : Int) = y := by simp [rd]
theorem qF0 (pre : List Int) (y : Int) : ((pre ++ [y]).length : Int) = (pre.length : Int) + 1 := by simp
def wf : Int → List Int → Int
 | acc, [] => if acc = 0 then 11 else 0
 | acc, y :: ys => if y < 0 then 1 else if y > 1048576 then 1 else wf (acc + y) ys
def sum : List Int → Int
 | [] => 0
 | y :: ys => y + sum ys
theorem weights_l0 (suf : List Int) : ∀ (pre : List Int) (acc : Int), pre.length + suf.length ≤ 40 → 0 ≤ acc → acc ≤ pre.length * 1048576 →
  Ev (fun k => qBT.l0 k acc (pre ++ suf) ((pre ++ suf).length : Int) (pre.length : Int)) (wf acc suf) := by
 induction suf with
 | nil =>
  intro pre acc hl h0 h1
  refine ⟨1, fun k hk => ?_⟩
  obtain ⟨k, rfl⟩ := pk hk
  simp only [qBT.l0, wf]
  rw [if_neg (by simp)]
  split <;> rfl
 | cons y ys ih =>
  intro pre acc hl h0 h1
  have hlt : (pre.length : Int) < ((pre ++ y :: ys).length : Int) := by simp; omega
  have hl' : pre.length + (ys.length + 1) ≤ 40 := hl
  by_cases c0 : y < 0
  ·refine ⟨1, fun k hk => ?_⟩
   obtain ⟨k, rfl⟩ := pk hk
   simp only [qBT.l0, wf, rd_at]
   rw [if_pos hlt, if_pos (by omega), if_pos hlt, if_pos c0, if_pos c0]
  ·by_cases c1 : y > 1048576
   ·refine ⟨1, fun k hk => ?_⟩
    obtain ⟨k, rfl⟩ := pk hk
    simp only [qBT.l0, wf, rd_at]
    rw [if_pos hlt, if_pos (by omega), if_pos hlt, if_neg c0, if_pos c1, if_neg c0, if_pos c1]
   ·have h := ih (pre ++ [y]) (acc + y) (by simp; omega) (by omega) (by simp; omega)
    rw [show wf acc (y :: ys) = wf (acc + y) ys from by simp only [wf]; rw [if_neg c0, if_neg c1]]
    refine Ev.step (fun k => ?_) h
    simp only [qBT.l0, rd_at]
    rw [if_pos hlt, if_pos (by omega), if_pos hlt, if_neg c0, if_neg c1, w64 (by omega) (by omega), w64 (by omega) (by omega), qF0]
    simp
theorem weights (l : List Int) (h : l.length ≤ 40) : Ev (fun k => qBT.f k l) (wf 0 l) := by
 have := weights_l0 l [] 0 (by simpa using h) (by omega) (by simp)
 refine Ev.congr (fun k => ?_) this
 unfold qBT.f
 rw [if_neg (by omega)]
 rfl
theorem weights_large (l : List Int) (h : ¬ l.length ≤ 40) : Ev (fun k => qBT.f k l) 2 := by
 refine Ev.congr (fun k => ?_) (Ev.now 2)
 unfold qBT.f
 rw [if_pos (by omega)]
theorem fault_l0 (suf : List Int) : ∀ (pre : List Int) (acc : Int), pre.length + suf.length ≤ 40 → 0 ≤ acc → acc ≤ pre.length * 1048576 →
  Ev (fun k => qAN.l0 k (pre ++ suf) acc (pre ++ suf) ((pre ++ suf).length : Int) (pre.length : Int)) (wf acc suf) := by
 induction suf with
 | nil =>
  intro pre acc hl h0 h1
  refine ⟨1, fun k hk => ?_⟩
  obtain ⟨k, rfl⟩ := pk hk
  simp only [qAN.l0, wf]
  rw [if_neg (by simp)]
  split <;> rfl
 | cons y ys ih =>
  intro pre acc hl h0 h1
  have hlt : (pre.length : Int) < ((pre ++ y :: ys).length : Int) := by simp; omega
  have hl' : pre.length + (ys.length + 1) ≤ 40 := hl
  have hs : ¬ ((pre ++ y :: ys).length : Int) > 40 := by simp; omega
  by_cases c0 : y < 0
  ·refine ⟨1, fun k hk => ?_⟩
   obtain ⟨k, rfl⟩ := pk hk
   simp only [qAN.l0, wf, rd_at]
   rw [if_pos hlt, if_pos (by omega), if_pos hlt, if_neg hs, if_pos c0, if_pos c0]
  ·by_cases c1 : y > 1048576
   ·refine ⟨1, fun k hk => ?_⟩
    obtain ⟨k, rfl⟩ := pk hk
    simp only [qAN.l0, wf, rd_at]
    rw [if_pos hlt, if_pos (by omega), if_pos hlt, if_neg hs, if_neg c0, if_pos c1, if_neg c0, if_pos c1]
   ·have h := ih (pre ++ [y]) (acc + y) (by simp; omega) (by omega) (by simp; omega)
    rw [show wf acc (y :: ys) = wf (acc + y) ys from by simp only [wf]; rw [if_neg c0, if_neg c1]]
    refine Ev.step (fun k => ?_) h
    simp only [qAN.l0, rd_at]
    rw [if_pos hlt, if_pos (by omega), if_pos hlt, if_neg hs, if_neg c0, if_neg c1, if_pos hlt, w64 (by omega) (by omega), w64 (by omega) (by omega), qF0]
    simp
theorem fault (l : List Int) (h : l.length ≤ 40) : Ev (fun k => qAN.f k l) (wf 0 l) :=
 fault_l0 l [] 0 (by simpa using h) (by omega) (by simp)
theorem fault_large (l : List Int) (h : ¬ l.length ≤ 40) : Ev (fun k => qAN.f k l) 2 := by
 refine ⟨1, fun k hk => ?_⟩
 obtain ⟨k, rfl⟩ := pk hk
 unfold qAN.f
 simp only [qAN.l0]
 rw [if_pos (by omega), if_pos (by omega), if_pos (by omega), if_pos (by omega)]
theorem wf_ok (acc : Int) (l : List Int) (h : wf acc l = 0) : (∀ y ∈ l, 0 ≤ y ∧ y ≤ 1048576) ∧ acc + sum l ≠ 0 := by
 induction l generalizing acc with
 | nil =>
  simp only [wf] at h
  refine ⟨by simp, ?_⟩
  intro h0
  simp only [sum] at h0
  rw [if_pos (by omega)] at h
  omega
 | cons y ys ih =>
  simp only [wf] at h
  by_cases c0 : y < 0
  ·rw [if_pos c0] at h; omega
  ·by_cases c1 : y > 1048576
   ·rw [if_neg c0, if_pos c1] at h; omega
   ·rw [if_neg c0, if_neg c1] at h
    obtain ⟨h1, h2⟩ := ih _ h
    refine ⟨?_, by simp only [sum]; omega⟩
    intro z hz
    rcases List.mem_cons.1 hz with rfl | hz
    ·omega
    ·exact h1 z hz
theorem sum_bd (l : List Int) (h : ∀ y ∈ l, 0 ≤ y ∧ y ≤ 1048576) : 0 ≤ sum l ∧ sum l ≤ l.length * 1048576 := by
 induction l with
 | nil => simp [sum]
 | cons y ys ih =>
  have h1 := h y (by simp)
  have h2 := ih (fun z hz => h z (by simp [hz]))
  simp only [sum, List.length_cons]
  omega
def pick : Int → Nat → List Int → Nat
 | _, i, [] => i
 | x, i, y :: ys => if x < y then i else pick (x - y) (i + 1) ys
theorem pick_l1 (s : Int) (suf : List Int) : ∀ (pre : List Int) (x : Int), pre.length + suf.length ≤ 40 → (∀ y ∈ suf, 0 ≤ y ∧ y ≤ 1048576) → 0 ≤ x → x < sum suf →
  Ev (fun k => qCD.l1 k s x (pre ++ suf) ((pre ++ suf).length : Int) (pre.length : Int)) ((pick x pre.length suf : Nat), s, 0) := by
 induction suf with
 | nil => intro pre x hl hy h0 h1; simp only [sum] at h1; omega
 | cons y ys ih =>
  intro pre x hl hy h0 h1
  have hlt : (pre.length : Int) < ((pre ++ y :: ys).length : Int) := by simp; omega
  have hl' : pre.length + (ys.length + 1) ≤ 40 := hl
  have hy0 := hy y (by simp)
  have hb := sum_bd (y :: ys) hy
  simp only [List.length_cons] at hb
  by_cases c : x < y
  ·refine ⟨1, fun k hk => ?_⟩
   obtain ⟨k, rfl⟩ := pk hk
   simp only [qCD.l1, pick, rd_at]
   rw [if_pos hlt, if_pos (by omega), if_pos hlt, if_pos c, if_pos c]
  ·simp only [sum] at h1
   have h := ih (pre ++ [y]) (x - y) (by simp; omega) (fun z hz => hy z (by simp [hz])) (by omega) (by omega)
   rw [show pick x pre.length (y :: ys) = pick (x - y) (pre ++ [y]).length ys from by simp only [pick]; rw [if_neg c]; simp]
   simp only [sum] at hb
   refine Ev.step (fun k => ?_) h
   simp only [qCD.l1, rd_at]
   rw [if_pos hlt, if_pos (by omega), if_pos hlt, if_neg c, w64 (by omega) (by omega), w64 (by omega) (by omega), qF0]
   simp
theorem pick_l0 (s : Int) (xs : List Int) (r : Int × Int × Int) (suf : List Int) : ∀ (pre : List Int) (acc : Int), pre.length + suf.length ≤ 40 → (∀ y ∈ suf, 0 ≤ y ∧ y ≤ 1048576) → 0 ≤ acc → acc ≤ pre.length * 1048576 →
  Ev (fun k => (qDZ.f s (acc + sum suf)).bind fun bt => qCD.l1 k bt.2 bt.1 xs (xs.length : Int) 0) r →
  Ev (fun k => qCD.l0 k s xs acc (pre ++ suf) ((pre ++ suf).length : Int) (pre.length : Int)) r := by
 induction suf with
 | nil =>
  intro pre acc hl hy h0 h1 H
  refine Ev.step (fun k => ?_) H
  simp only [qCD.l0, sum]
  rw [if_neg (by simp)]
  simp
 | cons y ys ih =>
  intro pre acc hl hy h0 h1 H
  have hlt : (pre.length : Int) < ((pre ++ y :: ys).length : Int) := by simp; omega
  have hl' : pre.length + (ys.length + 1) ≤ 40 := hl
  have hy0 := hy y (by simp)
  have h := ih (pre ++ [y]) (acc + y) (by simp; omega) (fun z hz => hy z (by simp [hz])) (by omega) (by simp; omega) (by simpa [sum, Int.add_assoc] using H)
  refine Ev.step (fun k => ?_) h
  simp only [qCD.l0, rd_at]
  rw [if_pos hlt, if_pos (by omega), if_pos hlt, w64 (by omega) (by omega), w64 (by omega) (by omega), qF0]
  simp
def idx : Nat → List Int → List Int
 | _, [] => []
 | i, y :: ys => if y < 1 then idx (i + 1) ys else (i : Int) :: idx (i + 1) ys
theorem idx_len (l : List Int) : ∀ i, (idx i l).length ≤ l.length := by
 induction l with
 | nil => intro i; simp [idx]
 | cons y ys ih =>
  intro i
  simp only [idx]
  split
  ·have := ih (i + 1); simp; omega
  ·have := ih (i + 1); simp; omega
theorem ref_l3 (xs : List Int) (s : Int) (suf : List Int) : ∀ (pre ipre : List Int) (x at_ : Int), xs = pre ++ suf → pre.length + suf.length ≤ 40 → ipre.length ≤ pre.length → (∀ y ∈ suf, 0 ≤ y ∧ y ≤ 1048576) → 0 ≤ at_ → at_ ≤ pre.length * 1048576 → at_ ≤ x → x < at_ + sum suf →
  Ev (fun k => qAA.l3 k xs x at_ (ipre ++ idx pre.length suf) ((ipre ++ idx pre.length suf).length : Int) (ipre.length : Int) s) ((pick (x - at_) pre.length suf : Nat), s) := by
 induction suf with
 | nil => intro pre ipre x at_ hx hl hi hy h0 h1 h2 h3; simp only [sum] at h3; omega
 | cons y ys ih =>
  intro pre ipre x at_ hx hl hi hy h0 h1 h2 h3
  have hl' : pre.length + (ys.length + 1) ≤ 40 := hl
  have hy0 := hy y (by simp)
  simp only [sum] at h3
  by_cases c : y < 1
  ·have e0 : y = 0 := by omega
   subst e0
   have h := ih (pre ++ [0]) ipre x at_ (by rw [hx]; simp) (by simp; omega) (by simp; omega) (fun z hz => hy z (by simp [hz])) h0 (by simp; omega) h2 (by omega)
   rw [show idx pre.length (0 :: ys) = idx (pre ++ [0]).length ys from by simp [idx],
    show pick (x - at_) pre.length (0 :: ys) = pick (x - at_) (pre ++ [0]).length ys from by simp only [pick]; rw [if_neg (by omega)]; simp]
   exact h
  ·have hix : idx pre.length (y :: ys) = (pre.length : Int) :: idx (pre.length + 1) ys := by simp only [idx]; rw [if_neg c]
   rw [hix]
   have hlt : (ipre.length : Int) < ((ipre ++ (pre.length : Int) :: idx (pre.length + 1) ys).length : Int) := by simp; omega
   have hxl : (pre.length : Int) < (xs.length : Int) := by rw [hx]; simp; omega
   have hrd : rd xs (pre.length : Int) = y := by rw [hx]; exact rd_at _ _ _
   have hil := idx_len ys (pre.length + 1)
   by_cases d : x < at_ + y
   ·refine ⟨1, fun k hk => ?_⟩
    obtain ⟨k, rfl⟩ := pk hk
    simp only [qAA.l3, rd_at, pick]
    rw [if_pos hlt, if_pos (by omega), if_pos hlt, if_pos (by omega), if_pos hxl, hrd, w64 (by omega) (by omega), if_pos d, if_pos (by omega)]
   ·have h := ih (pre ++ [y]) (ipre ++ [(pre.length : Int)]) x (at_ + y) (by rw [hx]; simp) (by simp; omega) (by simp; omega) (fun z hz => hy z (by simp [hz])) (by omega) (by simp; omega) (by omega) (by omega)
    rw [show pick (x - at_) pre.length (y :: ys) = pick (x - (at_ + y)) (pre ++ [y]).length ys from by simp only [pick]; rw [if_neg (by omega), show x - at_ - y = x - (at_ + y) from by omega]; simp]
    refine Ev.step (fun k => ?_) h
    simp only [qAA.l3, rd_at]
    rw [if_pos hlt, if_pos (by omega), if_pos hlt, if_pos (by omega), if_pos hxl, hrd, w64 (by omega) (by omega), if_neg d, w64 (by omega) (by omega), qF0]
    simp
theorem ref_l2 (xs all : List Int) (s : Int) (r : Int × Int) (suf : List Int) : ∀ (pre ipre : List Int) (acc : Int), xs = pre ++ suf → pre.length + suf.length ≤ 40 → ipre.length ≤ pre.length → (∀ y ∈ suf, 0 ≤ y ∧ y ≤ 1048576) → 0 ≤ acc → acc ≤ pre.length * 1048576 →
  Ev (fun k => (qC7.f s (acc + sum suf)).bind fun bt => qAA.l3 k xs bt.1 0 all (all.length : Int) 0 bt.2) r →
  Ev (fun k => qAA.l2 k xs all acc (ipre ++ idx pre.length suf) ((ipre ++ idx pre.length suf).length : Int) (ipre.length : Int) s) r := by
 induction suf with
 | nil =>
  intro pre ipre acc hx hl hi hy h0 h1 H
  rw [show idx pre.length [] = [] from rfl]
  refine Ev.step (fun k => ?_) H
  simp only [qAA.l2, sum]
  rw [if_neg (by simp)]
  simp
 | cons y ys ih =>
  intro pre ipre acc hx hl hi hy h0 h1 H
  have hl' : pre.length + (ys.length + 1) ≤ 40 := hl
  have hy0 := hy y (by simp)
  by_cases c : y < 1
  ·have e0 : y = 0 := by omega
   subst e0
   have h := ih (pre ++ [0]) ipre acc (by rw [hx]; simp) (by simp; omega) (by simp; omega) (fun z hz => hy z (by simp [hz])) h0 (by simp; omega) (by simpa [sum] using H)
   rw [show idx pre.length (0 :: ys) = idx (pre ++ [0]).length ys from by simp [idx]]
   exact h
  ·have hix : idx pre.length (y :: ys) = (pre.length : Int) :: idx (pre.length + 1) ys := by simp only [idx]; rw [if_neg c]
   rw [hix]
   have hlt : (ipre.length : Int) < ((ipre ++ (pre.length : Int) :: idx (pre.length + 1) ys).length : Int) := by simp; omega
   have hxl : (pre.length : Int) < (xs.length : Int) := by rw [hx]; simp; omega
   have hrd : rd xs (pre.length : Int) = y := by rw [hx]; exact rd_at _ _ _
   have h := ih (pre ++ [y]) (ipre ++ [(pre.length : Int)]) (acc + y) (by rw [hx]; simp) (by simp; omega) (by simp; omega) (fun z hz => hy z (by simp [hz])) (by omega) (by simp; omega) (by simpa [sum, Int.add_assoc] using H)
   refine Ev.step (fun k => ?_) h
   simp only [qAA.l2, rd_at]
   rw [if_pos hlt, if_pos (by omega), if_pos hlt, if_pos (by omega), if_pos hxl, hrd, w64 (by omega) (by omega), w64 (by omega) (by omega), qF0]
   simp
theorem ref_l0 (xs : List Int) (s : Int) (r : Int × Int) (suf : List Int) : ∀ (pre ipre : List Int), pre.length + suf.length ≤ 40 → ipre.length ≤ pre.length → (∀ y ∈ suf, 0 ≤ y ∧ y ≤ 1048576) →
  Ev (fun k => qAA.l2 k xs (ipre ++ idx pre.length suf) 0 (ipre ++ idx pre.length suf) ((ipre ++ idx pre.length suf).length : Int) 0 s) r →
  Ev (fun k => qAA.l0 k xs ipre (pre ++ suf) ((pre ++ suf).length : Int) (pre.length : Int) s) r := by
 induction suf with
 | nil =>
  intro pre ipre hl hi hy H
  refine Ev.step (fun k => ?_) H
  simp only [qAA.l0, idx]
  rw [if_neg (by simp)]
  simp
 | cons y ys ih =>
  intro pre ipre hl hi hy H
  have hl' : pre.length + (ys.length + 1) ≤ 40 := hl
  have hy0 := hy y (by simp)
  have hlt : (pre.length : Int) < ((pre ++ y :: ys).length : Int) := by simp; omega
  by_cases c : y < 1
  ·have e0 : y = 0 := by omega
   subst e0
   have h := ih (pre ++ [0]) ipre (by simp; omega) (by simp; omega) (fun z hz => hy z (by simp [hz])) (by
    rw [show idx pre.length (0 :: ys) = idx (pre ++ [0]).length ys from by simp [idx]] at H
    exact H)
   refine Ev.step (fun k => ?_) (Ev.step (fun k => ?_) h) (f := fun k => qAA.l1 k xs ipre (pre.length : Int) (pre ++ 0 :: ys) ((pre ++ 0 :: ys).length : Int) (pre.length : Int) (mn 0 1) 0 s)
   ·simp only [qAA.l0, rd_at]
    rw [if_pos hlt, if_pos (by omega), if_pos hlt]
   ·simp only [qAA.l1]
    rw [if_neg (by decide), w64 (by omega) (by omega), qF0]
    simp
  ·have hix : idx pre.length (y :: ys) = (pre.length : Int) :: idx (pre.length + 1) ys := by simp only [idx]; rw [if_neg c]
   have h := ih (pre ++ [y]) (ipre ++ [(pre.length : Int)]) (by simp; omega) (by simp; omega) (fun z hz => hy z (by simp [hz])) (by
    rw [hix] at H
    simpa using H)
   have hm : mn y 1 = 1 := by unfold mn; omega
   refine Ev.step (fun k => ?_) (Ev.step (fun k => ?_) (Ev.step (fun k => ?_) h)
    (f := fun k => qAA.l1 k xs (ipre ++ [(pre.length : Int)]) (pre.length : Int) (pre ++ y :: ys) ((pre ++ y :: ys).length : Int) (pre.length : Int) 1 1 s))
    (f := fun k => qAA.l1 k xs ipre (pre.length : Int) (pre ++ y :: ys) ((pre ++ y :: ys).length : Int) (pre.length : Int) (mn y 1) 0 s)
   ·simp only [qAA.l0, rd_at]
    rw [if_pos hlt, if_pos (by omega), if_pos hlt]
   ·simp only [qAA.l1, hm]
    rw [if_pos (by omega), if_pos (by omega), show wrap64 (0 + 1) = 1 from w64 (by omega) (by omega)]
   ·simp only [qAA.l1]
    rw [if_neg (by omega), w64 (by omega) (by omega), qF0]
    simp
theorem pick_has (l : List Int) : ∀ (x : Int) (i : Nat), (∀ y ∈ l, 0 ≤ y ∧ y ≤ 1048576) → 0 ≤ x → x < sum l → ∃ j : Nat, pick x i l = i + j ∧ j < l.length ∧ 0 < l.getD j 0 := by
 induction l with
 | nil => intro x i hy h0 h1; simp only [sum] at h1; omega
 | cons y ys ih =>
  intro x i hy h0 h1
  by_cases c : x < y
  ·exact ⟨0, by simp only [pick]; rw [if_pos c]; rfl, by simp, by simp; omega⟩
  ·simp only [sum] at h1
   obtain ⟨j, e, hl, hp⟩ := ih (x - y) (i + 1) (fun z hz => hy z (by simp [hz])) (by omega) (by omega)
   refine ⟨j + 1, by simp only [pick]; rw [if_neg c, e]; omega, by simp; omega, ?_⟩
   simpa using hp
def nx (s : Int) : Int := IntKind.u64.wrap (s + 11400714819323198485)
theorem pick_both (s : Int) (l : List Int) (hl : l.length ≤ 40) (h0 : wf 0 l = 0) : ∃ x : Nat, x < l.length ∧ Ev (fun k => qCD.f k s l) ((x : Int), nx s, 0) ∧ Ev (fun k => qAA.f k s l) ((x : Int), nx s) := by
 have e1 := weights l hl
 obtain ⟨hr, hne⟩ := wf_ok 0 l h0
 have hb := sum_bd l hr
 rw [h0] at e1
 obtain ⟨x, b1, b2, hx⟩ := below_is s (sum l) (by omega) (by omega)
 obtain ⟨j, hj, hjl, _⟩ := pick_has l x 0 hr (by omega) hx
 refine ⟨pick x 0 l, by omega, ?_, ?_⟩
 ·unfold qCD.f
  refine Ev.bind e1 ?_
  refine Ev.congr (fun k => if_pos rfl) ?_
  refine pick_l0 s l _ l [] 0 (by simpa using hl) hr (by omega) (by simp) ?_
  rw [show (0 : Int) + sum l = sum l from by omega, b1]
  simp only [Option.bind_some]
  exact pick_l1 _ l [] x (by simpa using hl) hr (by omega) hx
 ·unfold qAA.f
  refine ref_l0 l s _ l [] [] (by simpa using hl) (by simp) hr ?_
  refine ref_l2 l _ s _ l [] [] 0 rfl (by simpa using hl) (by simp) hr (by omega) (by simp) ?_
  rw [show (0 : Int) + sum l = sum l from by omega, b2]
  simp only [Option.bind_some]
  have := ref_l3 l (IntKind.u64.wrap (s + 11400714819323198485)) l [] [] x 0 rfl (by simpa using hl) (by simp) hr (by omega) (by simp) (by omega) (by omega)
  simpa [nx] using this
def wts (l : List Int) : Int := if l.length ≤ 40 then wf 0 l else 2
theorem wts_ev (l : List Int) : Ev (fun k => qBT.f k l) (wts l) := by
 unfold wts
 by_cases h : l.length ≤ 40
 ·rw [if_pos h]; exact weights l h
 ·rw [if_neg h]; exact weights_large l h
theorem wts_ref (l : List Int) : Ev (fun k => qAN.f k l) (wts l) := by
 unfold wts
 by_cases h : l.length ≤ 40
 ·rw [if_pos h]; exact fault l h
 ·rw [if_neg h]; exact fault_large l h
theorem wts_zero {l : List Int} (h : wts l = 0) : l.length ≤ 40 ∧ wf 0 l = 0 := by
 unfold wts at h
 by_cases hl : l.length ≤ 40
 ·rw [if_pos hl] at h; exact ⟨hl, h⟩
 ·rw [if_neg hl] at h; omega
theorem split_both (s i : Int) : ∃ t, qE6.f s i = some t ∧ qDC.f s i = some t := by
 have r1 := u64_range (IntKind.u64.wrap i + 11400714819323198485)
 obtain ⟨m, hm, _⟩ := mix_range (IntKind.u64.wrap (IntKind.u64.wrap i + 11400714819323198485))
 have r2 := xor_range s m
 obtain ⟨t, ht, _⟩ := mix_range (Go.bits .xor .u64 s m)
 refine ⟨t, ?_, ?_⟩
 ·unfold qE6.f
  rw [hm, Option.bind_some, ht]; rfl
 ·unfold qDC.f
  rw [spread_mix r1.1 r1.2, hm, Option.bind_some, spread_mix r2.1 r2.2, ht]; rfl
theorem evT {α : Type} {g : Nat → Option α} {r : α} (h : Ev g r) : T g (fun x => x = r) := ⟨r, h, rfl⟩
theorem evB {α β : Type} {g : Nat → Option α} {f : Nat → α → Option β} {a : α} {Q : β → Prop} (h : Ev g a) (k : T (fun n => f n a) Q) : T (fun n => (g n).bind (f n)) Q := T.bind (evT h) fun _ e => by subst e; exact k
open Classical in
noncomputable def at_ (b : List S76) (s : ByteArray) : At := if h : ∃ r, Ev (fun k => qAR.f k b s) r then Classical.choose h else noAt
theorem at_ev {b : List S76} (hb : Sz b) (s : ByteArray) : Ev (fun k => qAR.f k b s) (at_ b s) := by
 obtain ⟨r, h, _⟩ := attr_T b hb s
 have hx : ∃ r, Ev (fun k => qAR.f k b s) r := ⟨r, h⟩
 unfold at_
 rw [dif_pos hx]
 exact Classical.choose_spec hx
theorem at_ref {b : List S76} (hb : Sz b) (s : ByteArray) : Ev (fun k => qBA.f k b s) (at_ b s) := Ev.congr (fun k => attr_same k b s) (at_ev hb s)
theorem evU {α : Type} {g : Nat → Option α} {r s : α} (h : Ev g r) (i : Ev g s) : r = s := by
 obtain ⟨k, h⟩ := h
 obtain ⟨m, i⟩ := i
 have h1 := h (k + m) (by omega)
 have h2 := i (k + m) (by omega)
 exact Option.some.inj (h1.symm.trans h2)
theorem at_cases {b : List S76} (hb : Sz b) (s : ByteArray) : ((at_ b s).2.2.2.2.2.2.2 = true ∧ ∃ a, a ∈ b ∧ ∃ x, x ∈ a.f3 ∧ x.f0.toList = s.toList) ∨ at_ b s = noAt := by
 obtain ⟨r, h, hq⟩ := attr_T b hb s
 rw [evU (at_ev hb s) h]
 exact hq
theorem less_nil {l : List UInt8} (h : l ≠ []) : Op.bytesLess [] l = true := by
 cases l with
 | nil => exact absurd rfl h
 | cons a l => rfl
noncomputable def mfGo (b : List S76) : ByteArray → List S56 → Int
 | _, [] => 0
 | last, x :: xs =>
  if (at_ b x.f0).2.2.1 = true then
   if Op.bytesLess last.toList x.f0.toList = true then
    if x.f2.length = x.f1.length then
     if farB x.f1 (at_ b x.f0).2.2.2.1 (at_ b x.f0).2.2.2.2.1 = true then 18
     else if wts x.f2 = 0 then mfGo b x.f0 xs else wts x.f2
    else 3
   else 9
  else 15
theorem rd56 (l : List S56) (i : Nat) : qAH l (i : Int) = l.getD i z56 := by simp [qAH]
theorem drop_getD {α : Type} {l : List α} {i : Nat} (z : α) (h : i < l.length) : l.drop i = l.getD i z :: l.drop (i + 1) := by
 rw [List.drop_eq_getElem_cons h, List.getD_eq_getElem?_getD, List.getElem?_eq_getElem h]; rfl
def lastAt (inp : List S56) (i : Nat) : ByteArray := if i = 0 then ⟨#[]⟩ else (inp.getD (i - 1) z56).f0
theorem lastAt_succ (inp : List S56) (i : Nat) : lastAt inp (i + 1) = (inp.getD i z56).f0 := by simp [lastAt]
theorem chk_go {b : List S76} (hb : Sz b) (hn : ∀ a, a ∈ b → ∀ x, x ∈ a.f3 → x.f0.toList ≠ []) (day : Int) (sizes : List Int) (inp : List S56) (opn : Int) (hl : inp.length ≤ 40) : ∀ d i, inp.length - i = d → i ≤ inp.length →
  T (fun k => qAV.l0 k b inp (inp.length : Int) (i : Int) day sizes inp opn) (fun r => r = mfGo b (lastAt inp i) (inp.drop i))
 | 0, i, hd, hi => by
  refine T.succ ?_
  simp only [qAV.l0]
  exact T.ng (T.some (by rw [List.drop_eq_nil_of_le (by omega)]; rfl))
 | d + 1, i, hd, hi => by
  have ih := chk_go hb hn day sizes inp opn hl d (i + 1) (by omega) (by omega)
  have hlt : i < inp.length := by omega
  rw [lastAt_succ] at ih
  have hc := at_cases hb (inp.getD i z56).f0
  rw [drop_getD z56 hlt]
  have hprev : i ≠ 0 → qAH inp (wrap64 ((i : Int) - 1)) = inp.getD (i - 1) z56 := fun h => by
   rw [w64 (by omega) (by omega), show (i : Int) - 1 = ((i - 1 : Nat) : Int) from by omega, rd56]
  refine T.succ ?_
  simp only [qAV.l0, rd56]
  refine T.po (T.po (T.po (evB (at_ev hb _) ?_)))
  generalize hx : inp.getD i z56 = x at *
  have hj4 : ∀ bb : Bool, (bb = false ↔ Op.bytesLess (lastAt inp i).toList x.f0.toList = true) → (at_ b x.f0).2.2.1 = true → ∀ y0 y1 y2 y5 y6, T (fun k => qAV.j4 k b inp (inp.length : Int) (i : Int) bb day sizes inp opn x.f0 x.f1 x.f2 y0 y1 y2 (at_ b x.f0).2.2.2.1 (at_ b x.f0).2.2.2.2.1 y5 y6) (fun r => r = mfGo b (lastAt inp i) (x :: inp.drop (i + 1))) := fun bb hbb hin y0 y1 y2 y5 y6 => by
   refine T.succ ?_
   simp only [qAV.j4, mfGo, if_pos hin]
   refine T.ite (fun h => T.some ?_) fun h => ?_
   ·rw [if_neg]
    intro h2
    rw [hbb.2 h2] at h
    cases h
   ·have h9 : Op.bytesLess (lastAt inp i).toList x.f0.toList = true := hbb.1 (by cases bb; rfl; exact absurd rfl h)
    simp only [if_pos h9]
    refine T.ite (fun h3 => ?_) fun h3 => T.some (by rw [if_neg (by omega)])
    have h3' : x.f2.length = x.f1.length := by omega
    simp only [if_pos h3']
    unfold qDD.f
    simp only [Option.bind_some]
    refine T.ite (fun h18 => T.some (by rw [if_pos h18])) fun h18 => ?_
    simp only [if_neg h18]
    refine evB (wts_ev _) (T.ite (fun h0 => ?_) fun h0 => T.some (by rw [if_neg h0]))
    simp only [if_pos h0]
    rw [w64 (by omega) (by omega)]
    exact ih
  have hj3 : ∀ bb : Bool, (bb = true ↔ ¬ (at_ b x.f0).2.2.1 = true) → ∀ y0 y1 y2 y5 y6, T (fun k => qAV.j3 k b (i : Int) inp (inp.length : Int) (i : Int) bb day sizes inp opn x.f0 x.f1 x.f2 y0 y1 y2 (at_ b x.f0).2.2.2.1 (at_ b x.f0).2.2.2.2.1 y5 y6) (fun r => r = mfGo b (lastAt inp i) (x :: inp.drop (i + 1))) := fun bb hbb y0 y1 y2 y5 y6 => by
   refine T.succ ?_
   simp only [qAV.j3]
   refine T.ite (fun h => T.some ?_) fun h => ?_
   ·simp only [mfGo]
    rw [if_neg (hbb.1 h)]
   ·have hin : (at_ b x.f0).2.2.1 = true := by
     by_cases g : (at_ b x.f0).2.2.1 = true
     ·exact g
     ·exact absurd (hbb.2 g) h
    refine T.ite (fun h7 => ?_) fun h7 => ?_
    ·have hi0 : i ≠ 0 := by omega
     have e1 : (lastAt inp i) = (inp.getD (i - 1) z56).f0 := by unfold lastAt; rw [if_neg hi0]
     refine T.pos (by rw [w64 (by omega) (by omega)]; omega) (T.pos (by rw [w64 (by omega) (by omega)]; omega) ?_)
     rw [hprev hi0, ← e1]
     exact hj4 _ (by cases Op.bytesLess (lastAt inp i).toList x.f0.toList <;> simp) hin _ _ _ _ _
    ·have hi0 : i = 0 := by omega
     refine hj4 _ ?_ hin _ _ _ _ _
     have e1 : lastAt inp i = ⟨#[]⟩ := by unfold lastAt; rw [if_pos hi0]
     have hne : x.f0.toList ≠ [] := by
      rcases hc with ⟨_, a, ha, y, hy, e⟩ | hc
      ·rw [← e]; exact hn a ha y hy
      ·rw [hc] at hin; cases hin
     rw [e1, show (⟨#[]⟩ : ByteArray).toList = [] from by decide +kernel]
     exact ⟨fun _ => less_nil hne, fun _ => rfl⟩
  rcases hc with ⟨hf, _⟩ | hc
  ·refine T.pos hf (hj3 _ ?_ _ _ _ _ _)
   cases (at_ b x.f0).2.2.1 <;> simp
  ·refine T.neg (by rw [hc]; decide) (hj3 _ ?_ _ _ _ _ _)
   rw [hc]
   simp [noAt]
theorem ref_in {b : List S76} (last : ByteArray) (inp : List S56) (i : Nat) (x : S56) (hl : x.f1.length ≤ 140737488355328) (a0 : ByteArray) (a1 : Int) (a2 : Bool) (lo hi a5 a6 v : Int)
  (hnext : wts x.f2 = 0 → T (fun k => qAG.l0 k b last inp (inp.length : Int) (wrap64 ((i : Int) + 1))) (fun r => r = v)) : ∀ d j, x.f1.length - j = d → j ≤ x.f1.length →
  T (fun k => qAG.l1 k b last inp (inp.length : Int) (i : Int) x.f1 (x.f1.length : Int) (j : Int) x.f0 x.f1 x.f2 a0 a1 a2 lo hi a5 a6) (fun r => r = if farB (x.f1.drop j) lo hi = true then 18 else if wts x.f2 = 0 then v else wts x.f2)
 | 0, j, hd, hj => by
  refine T.succ ?_
  simp only [qAG.l1]
  refine T.ng (evB (wts_ref _) ?_)
  have e : farB (x.f1.drop j) lo hi = false := by rw [List.drop_eq_nil_of_le (by omega)]; rfl
  rw [e]
  simp only [Bool.false_eq_true, if_false]
  refine T.ite (fun h => ?_) fun h => T.some (by rw [if_neg h])
  simp only [if_pos h]
  exact hnext h
 | d + 1, j, hd, hj => by
  have ih := ref_in last inp i x hl a0 a1 a2 lo hi a5 a6 v hnext d (j + 1) (by omega) (by omega)
  have hlt : j < x.f1.length := by omega
  refine T.succ ?_
  have hr : rd x.f1 (j : Int) = x.f1.getD j 0 := by simp [rd]
  have e : farB (x.f1.drop j) lo hi = (decide (x.f1.getD j 0 < lo) || decide (hi < x.f1.getD j 0) || farB (x.f1.drop (j + 1)) lo hi) := by
   rw [drop_getD 0 hlt]; rfl
  simp only [qAG.l1, hr, e]
  refine T.po (T.po (T.po (T.ite (fun h => T.some ?_) fun h => T.ite (fun h2 => T.some ?_) fun h2 => ?_)))
  ·rw [if_pos (by simp; exact .inl (.inr h))]
  ·rw [if_pos (by simp; exact .inl (.inl h2))]
  ·rw [w64 (by omega) (by omega)]
   have h1 : decide (x.f1.getD j 0 < lo) = false := decide_eq_false h2
   have h3 : decide (hi < x.f1.getD j 0) = false := decide_eq_false h
   rw [h1, h3]
   exact ih
theorem ref_go {b : List S76} (hb : Sz b) (inp : List S56) (hl : inp.length ≤ 40) (hv : ∀ x, x ∈ inp → x.f1.length ≤ 140737488355328) : ∀ d i last, inp.length - i = d → i ≤ inp.length →
  T (fun k => qAG.l0 k b last inp (inp.length : Int) (i : Int)) (fun r => r = mfGo b last (inp.drop i))
 | 0, i, last, hd, hi => by
  refine T.succ ?_
  simp only [qAG.l0]
  exact T.ng (T.some (by rw [List.drop_eq_nil_of_le (by omega)]; rfl))
 | d + 1, i, last, hd, hi => by
  have hlt : i < inp.length := by omega
  have ih := ref_go hb inp hl hv d (i + 1) (inp.getD i z56).f0 (by omega) (by omega)
  have hm := hv _ (qDM z56 hlt)
  rw [drop_getD z56 hlt]
  refine T.succ ?_
  simp only [qAG.l0, rd56]
  refine T.po (T.po (T.po (evB (at_ref hb _) ?_)))
  generalize hx : inp.getD i z56 = x at *
  simp only [mfGo]
  refine T.ite (fun h => ?_) fun h => T.some (by rw [if_neg h])
  simp only [if_pos h]
  refine T.ite (fun h9 => ?_) fun h9 => T.some (by rw [if_neg h9])
  simp only [if_pos h9]
  refine T.ite (fun h3 => ?_) fun h3 => T.some (by rw [if_neg (by omega)])
  rw [if_pos (show x.f2.length = x.f1.length by omega)]
  refine ref_in x.f0 inp i x hm _ _ _ _ _ _ _ _ (fun _ => ?_) x.f1.length 0 rfl (Nat.zero_le _)
  rw [w64 (by omega) (by omega)]
  exact ih
noncomputable def mf (b : List S76) (c day : Int) (sizes : List Int) (inp : List S56) (opn : Int) : Int :=
 if c = 0 then
  if day < 0 ∨ 1048575 < day ∨ opn < 0 ∨ 1000000 < opn then 1
  else if 6 < sizes.length ∨ 40 < inp.length then 2
  else if wts sizes = 0 then mfGo b ⟨#[]⟩ inp else wts sizes
 else c
theorem chk_T {b : List S76} (hb : Sz b) {c : Int} (hc : qCJ.f b = some c) (day : Int) (sizes : List Int) (inp : List S56) (opn : Int) : T (fun k => qAV.f k b day sizes inp opn) (fun r => r = mf b c day sizes inp opn) := by
 unfold qAV.f
 rw [hc]
 simp only [Option.bind_some]
 unfold mf
 refine T.ite (fun h => ?_) fun h => T.some (by rw [if_neg h])
 subst h
 simp only [if_true]
 have hn := check_nm hc
 have hj1 : ∀ bb : Bool, (bb = true ↔ 6 < sizes.length ∨ 40 < inp.length) → T (fun k => qAV.j1 k b bb day sizes inp opn) (fun r => r = if 6 < sizes.length ∨ 40 < inp.length then 2 else if wts sizes = 0 then mfGo b ⟨#[]⟩ inp else wts sizes) := fun bb hbb => by
  refine T.succ ?_
  simp only [qAV.j1]
  refine T.ite (fun h => T.some (by rw [if_pos (hbb.1 h)])) fun h => ?_
  have h2 : ¬ (6 < sizes.length ∨ 40 < inp.length) := fun g => h (hbb.2 g)
  simp only [if_neg h2]
  refine evB (wts_ev _) (T.ite (fun h0 => ?_) fun h0 => T.some (by rw [if_neg h0]))
  simp only [if_pos h0]
  exact chk_go hb hn day sizes inp opn (by omega) inp.length 0 rfl (Nat.zero_le _)
 have hj0 : ∀ bb : Bool, (bb = true ↔ (day < 0 ∨ 1048575 < day ∨ opn < 0 ∨ 1000000 < opn)) → T (fun k => qAV.j0 k b bb day sizes inp opn) (fun r => r = if day < 0 ∨ 1048575 < day ∨ opn < 0 ∨ 1000000 < opn then 1 else if 6 < sizes.length ∨ 40 < inp.length then 2 else if wts sizes = 0 then mfGo b ⟨#[]⟩ inp else wts sizes) := fun bb hbb => by
  refine T.succ ?_
  simp only [qAV.j0]
  refine T.ite (fun h => T.some (by rw [if_pos (hbb.1 h)])) fun h => ?_
  have h2 : ¬ (day < 0 ∨ 1048575 < day ∨ opn < 0 ∨ 1000000 < opn) := fun g => h (hbb.2 g)
  simp only [if_neg h2]
  exact T.ite (fun g => hj1 _ ⟨fun _ => .inl (by omega), fun _ => rfl⟩) fun g => hj1 _ ⟨fun h => .inr (by have := of_decide_eq_true h; omega), fun h => decide_eq_true (by omega)⟩
 refine T.ite (fun g => hj0 _ ⟨fun _ => .inl g, fun _ => rfl⟩) fun g1 => T.ite (fun g => hj0 _ ⟨fun _ => .inr (.inl g), fun _ => rfl⟩) fun g2 => T.ite (fun g => hj0 _ ⟨fun _ => .inr (.inr (.inl g)), fun _ => rfl⟩) fun g3 => hj0 _ ⟨fun h => .inr (.inr (.inr (of_decide_eq_true h))), fun h => decide_eq_true (by omega)⟩
theorem mf_T {b : List S76} (hb : Sz b) {c : Int} (hc : qCJ.f b = some c) (day : Int) (sizes : List Int) (inp : List S56) (opn : Int) (hv : ∀ x, x ∈ inp → x.f1.length ≤ 140737488355328) : T (fun k => qAG.f k b day sizes inp opn) (fun r => r = mf b c day sizes inp opn) := by
 unfold qAG.f
 rw [hc]
 simp only [Option.bind_some]
 unfold mf
 refine T.ite (fun h => ?_) fun h => T.some (by rw [if_neg h])
 subst h
 simp only [if_true]
 have hj0 : ∀ bb : Bool, (bb = true ↔ (day < 0 ∨ 1048575 < day ∨ opn < 0 ∨ 1000000 < opn)) → T (fun k => qAG.j0 k b bb day sizes inp opn) (fun r => r = if day < 0 ∨ 1048575 < day ∨ opn < 0 ∨ 1000000 < opn then 1 else if 6 < sizes.length ∨ 40 < inp.length then 2 else if wts sizes = 0 then mfGo b ⟨#[]⟩ inp else wts sizes) := fun bb hbb => by
  refine T.succ ?_
  simp only [qAG.j0]
  refine T.ite (fun h => T.some (by rw [if_pos (hbb.1 h)])) fun h => ?_
  have h2 : ¬ (day < 0 ∨ 1048575 < day ∨ opn < 0 ∨ 1000000 < opn) := fun g => h (hbb.2 g)
  simp only [if_neg h2]
  refine T.ite (fun g => T.some (by rw [if_pos (by omega)])) fun g => T.ite (fun g => T.some (by rw [if_pos (by omega)])) fun g' => ?_
  rw [if_neg (show ¬ (6 < sizes.length ∨ 40 < inp.length) by omega)]
  refine evB (wts_ref _) (T.ite (fun h0 => ?_) fun h0 => T.some (by rw [if_neg h0]))
  simp only [if_pos h0]
  exact ref_go hb inp (by omega) hv inp.length 0 _ rfl (Nat.zero_le _)
 refine T.ite (fun g => hj0 _ ⟨fun _ => .inl g, fun _ => rfl⟩) fun g1 => T.ite (fun g => hj0 _ ⟨fun _ => .inr (.inl (by omega)), fun _ => rfl⟩) fun g2 => T.ite (fun g => hj0 _ ⟨fun _ => .inr (.inr (.inl g)), fun _ => rfl⟩) fun g3 => hj0 _ ⟨fun h => .inr (.inr (.inr (of_decide_eq_true h))), fun h => decide_eq_true (by omega)⟩
structure GoodM (b : List S76) (sizes : List Int) (inp : List S56) : Prop where
 sz : sizes.length ≤ 6
 sw : wf 0 sizes = 0
 inl : inp.length ≤ 40
 ins : ∀ x, x ∈ inp → x.f2.length = x.f1.length ∧ x.f2.length ≤ 40 ∧ wf 0 x.f2 = 0
theorem mfGo_good {b : List S76} : ∀ {inp : List S56} {last : ByteArray}, mfGo b last inp = 0 → ∀ x, x ∈ inp → x.f2.length = x.f1.length ∧ x.f2.length ≤ 40 ∧ wf 0 x.f2 = 0
 | [], _, _, x, hx => by cases hx
 | y :: ys, last, h, x, hx => by
  simp only [mfGo] at h
  split at h
  ·split at h
   ·split at h
    ·rename_i h3
     split at h
     ·omega
     ·split at h
      ·rename_i h0
       rcases List.mem_cons.1 hx with rfl | hx
       ·exact ⟨h3, wts_zero h0⟩
       ·exact mfGo_good h x hx
      ·rename_i h0
       exact absurd h h0
    ·omega
   ·omega
  ·omega
theorem mf_good {b : List S76} {c day : Int} {sizes : List Int} {inp : List S56} {opn : Int} (h : mf b c day sizes inp opn = 0) : GoodM b sizes inp := by
 unfold mf at h
 split at h
 ·split at h
  ·omega
  ·split at h
   ·omega
   ·rename_i h6
    split at h
    ·rename_i h0
     exact ⟨by omega, (wts_zero h0).2, by omega, mfGo_good h⟩
    ·rename_i h0
     exact absurd h h0
 ·rename_i h0
  exact absurd h h0
end Go.Proofs.YtpafpefealopoaaGreat.Pure
end
