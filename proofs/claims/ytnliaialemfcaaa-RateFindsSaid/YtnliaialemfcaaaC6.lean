/- Whatever the body and the place: Find and Get of rate return what the reference says, and the arguments read as they did. No condition. The row of RateFinds, out of the pure law and the walk. -/
import Derived.Test.YtnliaialemfcaaaC5
import Derived.Test.YtnliaialemfcaaaRows
import Derived.WalkKit
import Derived.ProofKit
import Derived.OpenShut
import Derived.ShutString
import Derived.ChangeOld
import Derived.Below
import Derived.SizedLaws
set_option linter.unusedVariables false
set_option linter.unusedSimpArgs false
section
namespace Go.Proofs.Ytnliaialemfcaaa.Pure
open Go.RowKit Go.Proofs.YtnliaialemfcaaaW.PrintWords Go.Proofs.YtnliaialemfcaaaW.PrintLast Go.Proofs.YtnliaialemfcaaaW.PrintMore Go.Proofs.Ytnliaialemfcaaa.PRateFinds
theorem S_ite {α : Type} {c : Prop} {i : Decidable c} {a b : Option α} {Q : α → Prop} (h1 : c → S a Q) (h2 : ¬ c → S b Q) : S (@_root_.ite _ c i a b) Q := S.ite h1 h2
def RI (R : Refs) : Prop := ∀ r, r ∈ R → r.f0.size ≤ maxLen ∧ r.f1.size ≤ maxLen
def OI (O : qFB) : Prop := ∀ p, p ∈ O → p.2.length ≤ 8 ∧ RI p.2
def AI (n : Nat) (R : Refs) (O : qFB) : Prop := R.length ≤ n ∧ O.length ≤ n ∧ RI R ∧ OI O
theorem AI.cast {n m : Nat} {R : Refs} {O : qFB} (h : AI n R O) (hm : n ≤ m) : AI m R O := ⟨Nat.le_trans h.1 hm, Nat.le_trans h.2.1 hm, h.2.2⟩
theorem in_S (b : List S48) (hb : Sx b) (hL : Lim b) (an : ByteArray) (ha : an.size ≤ maxLen) : ∀ (xs : List S54) (L : List ByteArray) (R : Refs) (O : qFB) (n : Nat), (∀ x, x ∈ xs → x.f0.size ≤ maxLen ∧ RI x.f4) → L.length + xs.length ≤ 100 → n + xs.length ≤ 1000 → AI n R O →
  S (chk_in b an xs L R O) (fun p => AI (n + xs.length) p.2.1 p.2.2 ∧ (p.1 = 0 → (xs.map fun x => x.f0).Nodup ∧ ∀ x, x ∈ xs → x.f0 ∉ L ∧ Art x))
 | [], L, R, O, n, hx, hl, hn, hA => S.some ⟨hA, fun _ => ⟨List.nodup_nil, fun x hx => (by cases hx)⟩⟩
 | x :: xs, L, R, O, n, hx, hl, hn, hA => by
  rw [List.length_cons] at hl hn ⊢
  have hA' := hA
  obtain ⟨a1, a2, a3, a4⟩ := hA
  have hx0 := hx x (List.mem_cons_self ..)
  unfold chk_in
  refine S.pos ⟨by omega, by omega, by omega, ha, hx0.1⟩ (S.ite (fun h0 => S.some ⟨hA'.cast (by omega), fun e => absurd e h0⟩) fun h0 => S.bind (article_S b hb.toSz hL.acts hL.tabs x) fun e he => S.ite (fun h1 => S.some ⟨hA'.cast (by omega), fun e => absurd e h1⟩) fun h1 => ?_)
  have hArt := he (by omega)
  refine (in_S b hb hL an ha xs (x.f0 :: L) _ _ (n + 1) (fun y hy => hx y (List.mem_cons_of_mem _ hy)) (by simp; omega) (by omega) ⟨by simp; omega, by simp; omega, ?_, ?_⟩).mono fun p ⟨hp1, hp2⟩ => ⟨hp1.cast (by omega), fun hp => ?_⟩
  ·intro r hr
   rcases List.mem_append.1 hr with hr | hr
   ·exact a3 r hr
   ·rw [List.mem_singleton.1 hr]; exact ⟨ha, hx0.1⟩
  ·intro p hp
   rcases List.mem_cons.1 hp with rfl | hp
   ·exact ⟨hArt.2.2, hx0.2⟩
   ·exact a4 p hp
  ·obtain ⟨n1, n2⟩ := hp2 hp
   refine ⟨?_, fun y hy => ?_⟩
   ·rw [List.map_cons, List.nodup_cons]
    refine ⟨fun hm => ?_, n1⟩
    obtain ⟨y, hy, e⟩ := List.mem_map.1 hm
    exact (n2 y hy).1 (by rw [e]; exact List.mem_cons_self ..)
   ·rcases List.mem_cons.1 hy with rfl | hy
    ·exact ⟨addR_zero h0, hArt⟩
    ·exact ⟨fun hm => (n2 y hy).1 (List.mem_cons_of_mem _ hm), (n2 y hy).2⟩
structure Arr (l : List S48) : Prop where
 arts : ∀ a, a ∈ l → ∀ x, x ∈ a.f5 → Art x
 names : ∀ a, a ∈ l → (a.f5.map fun x => x.f0).Nodup
theorem acts_S (b : List S48) (hb : Sx b) (hL : Lim b) : ∀ (l : List S48) (R : Refs) (O : qFB) (n : Nat), (∀ a, a ∈ l → a ∈ b) → n + l.length * 60 ≤ 1000 → AI n R O → S (qE5 b l R O) (fun p => AI (n + l.length * 60) p.2.1 p.2.2 ∧ (p.1 = 0 → Arr l))
 | [], R, O, n, hl, hn, hA => S.some ⟨hA.cast (by omega), fun _ => ⟨fun a h => (by cases h), fun a h => (by cases h)⟩⟩
 | a :: l, R, O, n, hl, hn, hA => by
  rw [List.length_cons] at hn ⊢
  have hm := hl a (List.mem_cons_self ..)
  have h60 := hL.arts a hm
  unfold qE5
  refine S.bind (in_S b hb hL a.f0 (hb.aname a hm) a.f5 [] R O n (fun x hx => ⟨(hb.xname a hm x hx).1, hb.refs a hm x hx⟩) (by simp; omega) (by omega) hA) fun p ⟨hp1, hp2⟩ => S.ite (fun h => S.some ⟨hp1.cast (by omega), fun e => absurd e h⟩) fun h => ?_
  refine (acts_S b hb hL l _ _ (n + a.f5.length) (fun x hx => hl x (List.mem_cons_of_mem _ hx)) (by omega) hp1).mono fun q ⟨hq1, hq2⟩ => ⟨hq1.cast (by omega), fun e => ?_⟩
  obtain ⟨g1, g2⟩ := hq2 e
  obtain ⟨m1, m2⟩ := hp2 (by omega)
  refine ⟨fun y hy => ?_, fun y hy => ?_⟩
  ·rcases List.mem_cons.1 hy with rfl | hy
   ·exact fun x hx => (m2 x hx).2
   ·exact g1 y hy
  ·rcases List.mem_cons.1 hy with rfl | hy
   ·exact m1
   ·exact g2 y hy
theorem over_in_S (b : List S48) (hb : Sx b) (hA : Arts b) (an : ByteArray) : ∀ (xs : List S54), (∀ x, x ∈ xs → Art x) → S (qEF b an xs) (fun _ => True)
 | [], _ => S.some trivial
 | x :: xs, h => by
  unfold qEF
  exact S.bind (over_S b hb hA an x (h x (List.mem_cons_self ..))) fun _ _ => S.ite (fun _ => S.some trivial) fun _ => over_in_S b hb hA an xs fun y hy => h y (List.mem_cons_of_mem _ hy)
theorem over_acts_S (b : List S48) (hb : Sx b) (hA : Arts b) : ∀ (l : List S48), (∀ a, a ∈ l → ∀ x, x ∈ a.f5 → Art x) → S (qD8 b l) (fun _ => True)
 | [], _ => S.some trivial
 | a :: l, h => by
  unfold qD8
  exact S.bind (over_in_S b hb hA a.f0 a.f5 (h a (List.mem_cons_self ..))) fun _ _ => S.ite (fun _ => S.some trivial) fun _ => over_acts_S b hb hA l fun y hy => h y (List.mem_cons_of_mem _ hy)
abbrev Looks := List (ByteArray × List ByteArray)
def LI (n : Nat) (P : Looks) : Prop := P.length ≤ n ∧ ∀ p, p ∈ P → p.1.size ≤ maxLen ∧ Sm 200 p.2
theorem qEV {α β : Type} (f : α → List β) (c : Nat) : ∀ (l : List α), (∀ x, x ∈ l → (f x).length ≤ c) → (l.flatMap f).length ≤ l.length * c
 | [], _ => by simp
 | x :: l, h => by
  rw [List.flatMap_cons, List.length_append, List.length_cons, Nat.add_mul, Nat.one_mul]
  have h1 := h x (List.mem_cons_self ..)
  have h2 := qEV f c l fun y hy => h y (List.mem_cons_of_mem _ hy)
  omega
theorem lookN_le {n : Nat} {P : Looks} (h : LI n P) (s : ByteArray) : (qED P s).length ≤ n * 200 := by
 unfold qED
 have h1 := qEV (fun p : ByteArray × List ByteArray => p.2) 200 (P.filter fun p => decide (p.1 = s)) fun p hp => (h.2 p (List.mem_filter.1 hp).1).2.1
 have h2 := List.length_filter_le (fun p : ByteArray × List ByteArray => decide (p.1 = s)) P
 have h3 := h.1
 exact Nat.le_trans h1 (Nat.mul_le_mul_right _ (by omega))
theorem looks_go_S : ∀ (xs : List S54) (P : Looks) (n : Nat), (∀ x, x ∈ xs → Art x ∧ x.f1.size ≤ maxLen ∧ (∀ n, n ∈ x.f2 → n.f4.size ≤ maxLen) ∧ ∀ n, n ∈ x.f3 → n.f4.size ≤ maxLen) → n + xs.length ≤ 1000 → LI n P → S (qDV xs P) (LI (n + xs.length))
 | [], P, n, _, _, h => S.some h
 | x :: xs, P, n, hx, hn, h => by
  rw [List.length_cons] at hn ⊢
  obtain ⟨⟨g1, g2, _⟩, g3, g4, g5⟩ := hx x (List.mem_cons_self ..)
  have h1 := h.1
  have hl := lookN_le h x.f1
  unfold qDV
  refine S.pos (by omega) (S.pos g3 (S.bind (T.lim (fun k => qAT.mono _ _) (names_T x.f2 g1 g4)) fun c hc => S.bind (T.lim (fun k => qAT.mono _ _) (names_T x.f3 g2 g5)) fun t ht => ?_))
  have c1 := hc.1.1
  have t1 := ht.1.1
  have hm : n * 200 ≤ 1000 * 200 := Nat.mul_le_mul_right _ (by omega)
  refine S.pos (by omega) ((looks_go_S xs _ (n + 1) (fun y hy => hx y (List.mem_cons_of_mem _ hy)) (by omega) ⟨by simp; omega, fun p hp => ?_⟩).mono fun r hr => ⟨by have := hr.1; omega, hr.2⟩)
  rcases List.mem_append.1 hp with hp | hp
  ·exact h.2 p hp
  ·rw [List.mem_singleton.1 hp]
   refine ⟨g3, by simp; omega, fun s hs => ?_⟩
   rcases List.mem_append.1 hs with hs | hs
   ·exact hc.1.2 s hs
   ·exact ht.1.2 s hs
theorem looks_acts_S (b : List S48) (hb : Sx b) (hL : Lim b) (hA : Arts b) : ∀ (l : List S48) (P : Looks) (n : Nat), (∀ a, a ∈ l → a ∈ b) → n + l.length * 60 ≤ 1000 → LI n P → S (qCH.go l P) (LI (n + l.length * 60))
 | [], P, n, _, _, h => S.some h
 | a :: l, P, n, hl, hn, h => by
  rw [List.length_cons] at hn ⊢
  have hm := hl a (List.mem_cons_self ..)
  have h60 := hL.arts a hm
  unfold qCH.go
  refine S.bind (looks_go_S a.f5 P n (fun x hx => ⟨hA a hm x hx, (hb.xname a hm x hx).2, fun y hy => (hb.cond a hm x hx y hy).1, fun y hy => (hb.then_ a hm x hx y hy).1⟩) (by omega) h) fun P' hP' => ?_
  exact (looks_acts_S b hb hL hA l P' (n + a.f5.length) (fun x hx => hl x (List.mem_cons_of_mem _ hx)) (by omega) hP').mono fun r hr => ⟨by have := hr.1; omega, hr.2⟩
theorem last_S {P : Looks} (h : LI 480 P) : S (chk_last P) (fun _ => True) := by
 have h1 := h.1
 unfold chk_last
 refine S.pos ⟨fun s hs => ?_, ?_, by omega⟩ (S_ite (fun _ => S.some trivial) fun _ => S.some trivial)
 ·obtain ⟨p, hp, hs⟩ := List.mem_flatMap.1 hs
  obtain ⟨g1, g2⟩ := h.2 p hp
  rcases List.mem_cons.1 hs with rfl | hs
  ·exact g1
  ·exact g2.2 s hs
 ·have h2 := qEV (fun p : ByteArray × List ByteArray => p.1 :: p.2) 201 P fun p hp => by have := (h.2 p hp).2.1; simp; omega
  have h3 : P.length * 201 ≤ 480 * 201 := Nat.mul_le_mul_right _ h1
  unfold qEH
  have : maxLen = 9223372036854775807 := by decide
  omega
structure GoodB (b : List S48) : Prop where
 lim : Lim b
 parts : Parts b
 arr : Arr b
theorem check_S (b : List S48) (hb : Sx b) (hsz : ∀ a, a ∈ b → a.f3.length ≤ 140737488355328) : S (qCI.f b) (fun r => r = 0 → GoodB b) := by
 unfold qCI.f limitsF
 refine S.bind (T.lim (fun k => qBE.mono _ _) (limits_is b hb.acts hsz)) fun e he => S.ite (fun h => S.some fun e => absurd e h) fun h => ?_
 have hL := he (by omega)
 have h8 := hL.acts
 refine S.bind (parts_S hL) fun e he => S.ite (fun h => S.some fun e => absurd e h) fun h => ?_
 have hP := he (by omega)
 refine S.bind (acts_S b hb hL b [] [] 0 (fun _ h => h) (by omega) ⟨by simp, by simp, fun r hr => (by cases hr), fun p hp => (by cases hp)⟩) fun p ⟨hp1, hp2⟩ => ?_
 unfold chk_k1
 refine S.ite (fun h => S.some fun e => absurd e h) fun h => ?_
 have hR := hp2 (by omega)
 refine S.bind (over_acts_S b hb hR.arts b hR.arts) fun e _ => ?_
 unfold chk_k2
 refine S.ite (fun h => S.some fun e => absurd e h) fun h => S.mono (Q := fun _ => True) ?_ fun _ _ _ => ⟨hL, hP, hR⟩
 obtain ⟨r1, r2, r3, r4⟩ := hp1
 unfold chk_end
 refine S.pos ⟨fun x hx => ?_, ?_⟩ (S_ite (fun _ => S.some trivial) fun _ => ?_)
 ·rcases List.mem_append.1 hx with hx | hx
  ·exact r3 x hx
  ·obtain ⟨q, hq, hx⟩ := List.mem_flatMap.1 hx
   exact (r4 q hq).2 x hx
 ·have h2 := qEV (fun p : S58 × List S58 => p.2) 8 p.2.2 fun q hq => (r4 q hq).1
  have h3 : p.2.2.length * 8 ≤ (0 + b.length * 60) * 8 := Nat.mul_le_mul_right _ r2
  unfold allRefs
  rw [List.length_append]
  have : maxLen = 9223372036854775807 := by decide
  omega
 ·unfold qCH.f
  exact S.bind (looks_acts_S b hb hL hR.arts b [] 0 (fun _ h => h) (by omega) ⟨by simp, fun p hp => (by cases hp)⟩) fun P hP => last_S ⟨by have := hP.1; omega, hP.2⟩
end Go.Proofs.Ytnliaialemfcaaa.Pure
end
section
namespace Go.Proofs.Ytnliaialemfcaaa.Pure
open Go.RowKit Go.Proofs.YtnliaialemfcaaaW.PrintWords Go.Proofs.YtnliaialemfcaaaW.PrintLast Go.Proofs.YtnliaialemfcaaaW.PrintMore Go.Proofs.Ytnliaialemfcaaa.PRateFinds
theorem bodyP_small {b : List S48} (h : GoodB b) : (qC8 b).length ≤ 100000 := by
 have h8 := h.lim.acts
 have h1 := qEV actP 12500 b fun a ha => by
  unfold actP
  rw [List.length_append]
  have h4 := h.lim.tabs a ha
  have h5 := h.lim.arts a ha
  have g1 := qEV (qCD a) 40 a.f4 fun t ht => by
   have := h.parts.steps a ha t ht
   have g := qEV (fun i => qEP a t i (t.f4.getD i z76)) 2 (List.range t.f4.length) fun i _ => by simp [qEP]
   unfold qCD upto
   rw [List.length_range] at g
   omega
  have g2 := qEV (artP a) 200 a.f5 fun x hx => by
   obtain ⟨a1, a2, _⟩ := h.arr.arts a ha x hx
   have ge : ∀ (p : Int) (e : List S80), (qEE a x p e).length ≤ e.length := fun p e => by
    have g := qEV (fun i => qE3 a x p i (e.getD i z80)) 1 (List.range e.length) fun i _ => by
     unfold qE3
     split <;> simp
    unfold qEE upto
    rw [List.length_range] at g
    omega
   have e1 := ge 0 x.f2
   have e2 := ge 1 x.f3
   unfold artP
   rw [List.length_append]
   omega
  have m1 : a.f4.length * 40 ≤ 8 * 40 := Nat.mul_le_mul_right _ h4
  have m2 : a.f5.length * 200 ≤ 60 * 200 := Nat.mul_le_mul_right _ h5
  omega
 unfold qC8
 have m1 : b.length * 12500 ≤ 8 * 12500 := Nat.mul_le_mul_right _ h8
 omega
theorem literals_T (a : S48) (x : S54) (p : Int) (e : List S80) (he : e.length ≤ 100) (L : List S25) (hL : L.length ≤ 200000) (q : Int) : T (fun k => qBM.f k L a.f0 x.f0 p q e) (fun r => r = L ++ (qEE a x p e).map (·.1)) := by
 unfold qBM.f
 refine T.loop (σ := List S25 × Int) (g := fun k s i => qBM.l0 k s.1 e (e.length : Int) i a.f0 x.f0 p s.2) (n := e.length) (by omega) (I := fun i s => s.1 = L ++ (upto (fun i => qE3 a x p i (e.getD i z80)) i).map (·.1) ∧ s.1.length ≤ L.length + i) ?_ ?_ e.length 0 (L, q) rfl (Nat.zero_le _) ⟨by simp [upto], by simp⟩
 ·rintro ⟨s, v⟩ ⟨h1, h2⟩
  refine T.succ ?_
  simp only [qBM.l0]
  exact T.neg (by omega) (T.some h1)
 ·rintro i ⟨s, v⟩ hi ⟨h1, h2⟩ next
  dsimp only at h1 h2
  refine T.succ ?_
  simp only [qBM.l0, rd80]
  refine T.pos (by omega) (T.pos (by omega) (T.pos (by omega) (T.ite (fun c0 => T.ite (fun c1 => ?_) fun c1 => ?_) fun c0 => ?_)))
  ·refine next (s, v) ⟨?_, by dsimp only; omega⟩
   rw [qDD, show qE3 a x p i (e.getD i z80) = [] from if_pos (.inr c1), List.append_nil]
   exact h1
  ·refine T.pos (by omega) (next (s ++ [⟨a.f0, x.f0, p, (i : Int)⟩], (i : Int)) ⟨?_, by simp; omega⟩)
   rw [qDD, show qE3 a x p i (e.getD i z80) = [(⟨a.f0, x.f0, p, (i : Int)⟩, ⟨(e.getD i z80).f2, (e.getD i z80).f3⟩)] from if_neg (fun h => h.elim (fun h => h c0) c1), List.map_append, ← List.append_assoc, ← h1]
   rfl
  ·refine next (s, v) ⟨?_, by dsimp only; omega⟩
   rw [qDD, show qE3 a x p i (e.getD i z80) = [] from if_pos (.inl c0), List.append_nil]
   exact h1
def fsts (P : List (S25 × S32)) : List S25 := P.map (·.1)
theorem qEC (P : List (S25 × S32)) : (fsts P).length = P.length := by simp [fsts]
theorem fsts_app (P Q : List (S25 × S32)) : fsts (P ++ Q) = fsts P ++ fsts Q := by simp [fsts]
theorem find_l {b : List S48} (hb : Sz b) (h : GoodB b) : T (fun k => qB1.l0 k ([] : List S25) b (b.length : Int) 0) (fun r => r = (fsts (qC8 b), 0)) := by
 have hM := bodyP_small h
 refine T.loop (σ := List S25) (g := fun k s i => qB1.l0 k s b (b.length : Int) i) (n := b.length) hb.acts (I := fun i s => s = fsts (qC8 (b.take i))) ?_ ?_ b.length 0 [] rfl (Nat.zero_le _) (by simp [qC8, fsts])
 ·rintro s rfl
  refine T.succ ?_
  simp only [qB1.l0]
  exact T.neg (by omega) (T.some (by rw [List.take_length]))
 ·rintro i s hi rfl next
  have hy := qDH z48 hi
  have hLy := flat_lt actP z48 hi
  refine T.succ ?_
  simp only [qB1.l0, rd48]
  refine T.pos (by omega) (T.pos (by omega) (T.pos (by omega) ?_))
  generalize hy_ : b.getD i z48 = y at *
  have hAct : (actP y).length = (y.f4.flatMap (qCD y)).length + (y.f5.flatMap (artP y)).length := by unfold actP; exact List.length_append
  have hB1 : (qC8 b).length = (b.flatMap actP).length := rfl
  have hB2 : (qC8 (b.take i)).length = ((b.take i).flatMap actP).length := rfl
  refine T.loop (σ := List S25) (g := fun k s j => qB1.l1 k s b (b.length : Int) (i : Int) y.f4 (y.f4.length : Int) j y.f0 y.f1 y.f2 y.f3 y.f4 y.f5) (n := y.f4.length) (hb.tabs _ hy) (I := fun j s => s = fsts (qC8 (b.take i) ++ (y.f4.take j).flatMap (qCD y))) ?_ ?_ y.f4.length 0 _ rfl (Nat.zero_le _) (by simp)
  ·rintro s rfl
   refine T.succ ?_
   simp only [qB1.l1]
   refine T.neg (by omega) ?_
   rw [List.take_length]
   refine T.loop (σ := List S25) (g := fun k s j => qB1.l3 k s b (b.length : Int) (i : Int) y.f5 (y.f5.length : Int) j y.f0 y.f1 y.f2 y.f3 y.f4 y.f5) (n := y.f5.length) (hb.arts _ hy) (I := fun j s => s = fsts (qC8 (b.take i) ++ y.f4.flatMap (qCD y) ++ (y.f5.take j).flatMap (artP y))) ?_ ?_ y.f5.length 0 _ rfl (Nat.zero_le _) (by simp)
   ·rintro s rfl
    refine T.succ ?_
    simp only [qB1.l3]
    refine T.neg (by omega) (next _ ?_)
    rw [List.take_length, List.append_assoc]
    unfold qC8
    rw [qE4 actP z48 hi, hy_]
    rfl
   ·rintro j s hj rfl next2
    have hx := qDH z54 hj
    have hLx := flat_lt (artP y) z54 hj
    obtain ⟨g1, g2, _⟩ := h.arr.arts _ hy _ hx
    have hl : (fsts (qC8 (b.take i) ++ y.f4.flatMap (qCD y) ++ (y.f5.take j).flatMap (artP y))).length ≤ 100000 := by
     rw [qEC]
     simp only [List.length_append]
     omega
    refine T.succ ?_
    simp only [qB1.l3, rd54]
    refine T.pos (by omega) (T.pos (by omega) (T.pos (by omega) (T.bind (literals_T y (y.f5.getD j z54) 0 _ g1 _ (by omega) 0) fun s1 hs1 => T.bind (literals_T y (y.f5.getD j z54) 1 _ g2 s1 ?_ 0) fun s2 hs2 => next2 s2 ?_)))
    ·have ge : (qEE y (y.f5.getD j z54) 0 (y.f5.getD j z54).f2).length ≤ (y.f5.getD j z54).f2.length := by
      have g := qEV (fun i => qE3 y (y.f5.getD j z54) 0 i ((y.f5.getD j z54).f2.getD i z80)) 1 (List.range (y.f5.getD j z54).f2.length) fun i _ => by
       unfold qE3
       split <;> simp
      unfold qEE upto
      rw [List.length_range] at g
      omega
     rw [hs1, List.length_append, List.length_map]
     omega
    ·rw [hs2, hs1, qE4 (artP y) z54 hj, ← List.append_assoc, fsts_app _ (artP y _), List.append_assoc]
     congr 1
     exact (fsts_app (qEE y _ 0 _) (qEE y _ 1 _)).symm
  ·rintro j s hj rfl next2
   have hLt := flat_lt (qCD y) z69 hj
   have h20 := h.parts.steps _ hy _ (qDH z69 hj)
   refine T.succ ?_
   simp only [qB1.l1, rd69]
   refine T.pos (by omega) (T.pos (by omega) (T.pos (by omega) ?_))
   generalize ht_ : y.f4.getD j z69 = t at *
   refine T.loop (σ := List S25) (g := fun k s q => qB1.l2 k s b (b.length : Int) (i : Int) y.f4 (y.f4.length : Int) (j : Int) (t.f4.length : Int) q y.f0 y.f1 y.f2 y.f3 y.f4 y.f5 t.f0 t.f1 t.f2 t.f3 t.f4) (n := t.f4.length) (by omega) (I := fun q s => s = fsts (qC8 (b.take i) ++ (y.f4.take j).flatMap (qCD y) ++ upto (fun i => qEP y t i (t.f4.getD i z76)) q)) ?_ ?_ t.f4.length 0 _ rfl (Nat.zero_le _) (by simp [upto])
   ·rintro s rfl
    refine T.succ ?_
    simp only [qB1.l2]
    refine T.neg (by omega) (next2 _ ?_)
    rw [qE4 (qCD y) z69 hj, ht_, ← List.append_assoc]
    rfl
   ·rintro q s hq rfl next3
    have h3 : (upto (fun i => qEP y t i (t.f4.getD i z76)) q).length + 2 ≤ (qCD y t).length := upto_lt (fun i => qEP y t i (t.f4.getD i z76)) hq
    refine T.succ ?_
    simp only [qB1.l2]
    refine T.pos (by omega) (T.bind (R := fun r => r = [(⟨y.f0, t.f0, 2, (q : Int)⟩ : S25), ⟨y.f0, t.f0, 3, (q : Int)⟩]) (T.some rfl) fun v hv => ?_)
    subst hv
    refine T.pos ?_ (next3 _ ?_)
    ·rw [qEC]
     simp only [List.length_append, List.length_cons, List.length_nil]
     omega
    ·rw [qDD, ← List.append_assoc, fsts_app _ (qEP y t q _)]
     rfl
theorem find_T_ {b : List S48} (hb : Sz b) {c : Int} (hc : qCI.f b = some c) (h : c = 0 → GoodB b) : T (fun k => qB1.f k b) (fun r => r = if c = 0 then (fsts (qC8 b), 0) else ([], c)) := by
 unfold qB1.f
 rw [hc]
 simp only [Option.bind_some]
 refine T.ite (fun h0 => ?_) fun h0 => T.some (by rw [if_neg h0])
 exact (find_l hb (h h0)).mono fun r hr => by rw [if_pos h0]; exact hr
end Go.Proofs.Ytnliaialemfcaaa.Pure
end
section
namespace Go.Proofs.Ytnliaialemfcaaa.Pure
open Go.RowKit Go.Proofs.YtnliaialemfcaaaW.PrintWords Go.Proofs.YtnliaialemfcaaaW.PrintLast Go.Proofs.YtnliaialemfcaaaW.PrintMore Go.Proofs.Ytnliaialemfcaaa.PRateFinds
theorem bytes_eq {s t : ByteArray} (h : s.toList = t.toList) : s = t := by
 rw [ByteArray.toList_eq, ByteArray.toList_eq] at h
 cases s; cases t
 simpa [Array.toList_inj] using h
theorem qF3 {α : Type} (nm : α → ByteArray) : ∀ {l : List α}, (l.map nm).Nodup → ∀ {x : α}, x ∈ l → l.find? (fun y => (nm y).toList == (nm x).toList) = some x
 | [], _, x, hx => by cases hx
 | y :: l, hn, x, hx => by
  rw [List.map_cons, List.nodup_cons] at hn
  rcases List.mem_cons.1 hx with rfl | hx
  ·rw [List.find?_cons_of_pos (by simp)]
  ·rw [List.find?_cons_of_neg]
   ·exact qF3 nm hn.2 hx
   ·intro e
    have e := bytes_eq (eq_of_beq e)
    exact hn.1 (by rw [e]; exact List.mem_map.2 ⟨x, hx, rfl⟩)
theorem find_back {α : Type} (nm : α → ByteArray) {l : List α} {s : ByteArray} {x : α} (h : l.find? (fun y => (nm y).toList == s.toList) = some x) : x ∈ l ∧ nm x = s :=
 ⟨List.mem_of_find?_eq_some h, bytes_eq (eq_of_beq (List.find?_some (p := fun y => (nm y).toList == s.toList) h))⟩
theorem mem_upto {β : Type} {f : Nat → List β} {n : Nat} {p : β} : p ∈ upto f n ↔ ∃ i, i < n ∧ p ∈ f i := by simp [upto]
theorem place_of {b : List S48} (h : GoodB b) {r : S25} {v : S32} (hm : (r, v) ∈ qC8 b) : qE0 b r.f0 r.f1 r.f2 r.f3 = some (v.f1, v.f0) := by
 unfold qC8 at hm
 obtain ⟨a, ha, hm⟩ := List.mem_flatMap.1 hm
 unfold actP at hm
 rcases List.mem_append.1 hm with hm | hm
 ·obtain ⟨t, ht, hm⟩ := List.mem_flatMap.1 hm
  obtain ⟨i, hi, hm⟩ := mem_upto.1 hm
  have f1 := qF3 (fun a : S48 => a.f0) h.parts.acts ha
  have f2 := qF3 (fun t : S69 => t.f0) (h.parts.tabs a ha) ht
  simp only [qEP, List.mem_cons, List.not_mem_nil, or_false, Prod.mk.injEq] at hm
  rcases hm with ⟨rfl, rfl⟩ | ⟨rfl, rfl⟩
  ·unfold qE0
   rw [f1, Option.bind_some, if_pos (.inl rfl), f2, Option.bind_some, if_neg (by dsimp only; omega)]
   simp
  ·unfold qE0
   rw [f1, Option.bind_some, if_pos (.inr rfl), f2, Option.bind_some, if_neg (by dsimp only; omega)]
   simp
 ·obtain ⟨x, hx, hm⟩ := List.mem_flatMap.1 hm
  have f1 := qF3 (fun a : S48 => a.f0) h.parts.acts ha
  have f2 := qF3 (fun x : S54 => x.f0) (h.arr.names a ha) hx
  unfold artP at hm
  rcases List.mem_append.1 hm with hm | hm
  ·obtain ⟨i, hi, hm⟩ := mem_upto.1 hm
   unfold qE3 at hm
   split at hm
   ·cases hm
   rename_i hc
   simp only [List.mem_cons, List.not_mem_nil, or_false, Prod.mk.injEq] at hm
   obtain ⟨rfl, rfl⟩ := hm
   unfold qE0
   rw [f1, Option.bind_some, if_neg (by dsimp only; omega), f2, Option.bind_some, if_neg (by dsimp only; omega)]
   simp only [show ¬ ((0 : Int) = 1) by decide, if_false, Int.toNat_natCast]
   rw [if_neg (by omega), if_neg hc]
  ·obtain ⟨i, hi, hm⟩ := mem_upto.1 hm
   unfold qE3 at hm
   split at hm
   ·cases hm
   rename_i hc
   simp only [List.mem_cons, List.not_mem_nil, or_false, Prod.mk.injEq] at hm
   obtain ⟨rfl, rfl⟩ := hm
   unfold qE0
   rw [f1, Option.bind_some, if_neg (by dsimp only; omega), f2, Option.bind_some, if_neg (by dsimp only; omega)]
   simp only [if_true, Int.toNat_natCast]
   rw [if_neg (by omega), if_neg hc]
theorem place_mem {b : List S48} {r : S25} {n kd : Int} (h : qE0 b r.f0 r.f1 r.f2 r.f3 = some (n, kd)) : (r, (⟨kd, n⟩ : S32)) ∈ qC8 b := by
 obtain ⟨r0, r1, r2, r3⟩ := r
 unfold qE0 at h
 obtain ⟨a, ha, h⟩ := Option.bind_eq_some_iff.1 h
 obtain ⟨ha2, rfl⟩ := find_back (fun a : S48 => a.f0) ha
 unfold qC8
 refine List.mem_flatMap.2 ⟨a, ha2, ?_⟩
 unfold actP
 dsimp only at h
 by_cases c : r2 = 2 ∨ r2 = 3
 ·rw [if_pos c] at h
  obtain ⟨t, ht, h⟩ := Option.bind_eq_some_iff.1 h
  obtain ⟨ht2, rfl⟩ := find_back (fun t : S69 => t.f0) ht
  refine List.mem_append.2 (.inl (List.mem_flatMap.2 ⟨t, ht2, ?_⟩))
  by_cases g : r3 < 0 ∨ (t.f4.length : Int) ≤ r3
  ·rw [if_pos g] at h; cases h
  rw [if_neg g] at h
  refine mem_upto.2 ⟨r3.toNat, by omega, ?_⟩
  have e3 : ((r3.toNat : Nat) : Int) = r3 := by omega
  have h9 := Option.some.inj h
  clear h
  simp only [qEP, e3]
  by_cases c2 : r2 = 2
  ·subst c2
   rw [if_pos rfl] at h9
   obtain ⟨rfl, rfl⟩ := Prod.mk.inj h9
   exact List.mem_cons_self ..
  ·rw [if_neg c2] at h9
   obtain rfl : r2 = 3 := by omega
   obtain ⟨rfl, rfl⟩ := Prod.mk.inj h9
   exact List.mem_cons_of_mem _ (List.mem_cons_self ..)
 ·rw [if_neg c] at h
  obtain ⟨x, hx, h⟩ := Option.bind_eq_some_iff.1 h
  obtain ⟨hx2, rfl⟩ := find_back (fun x : S54 => x.f0) hx
  refine List.mem_append.2 (.inr (List.mem_flatMap.2 ⟨x, hx2, ?_⟩))
  unfold artP
  have fin : ∀ (p : Int) (e : List S80), (if r3 < 0 ∨ ((e.length : Nat) : Int) ≤ r3 then none else if (e.getD r3.toNat z80).f0 ≠ 0 ∨ (e.getD r3.toNat z80).f2 = 1 then none else some ((e.getD r3.toNat z80).f3, (e.getD r3.toNat z80).f2)) = some (n, kd) → ((⟨a.f0, x.f0, p, r3⟩ : S25), (⟨kd, n⟩ : S32)) ∈ qEE a x p e := fun p e h => by
   by_cases g : r3 < 0 ∨ ((e.length : Nat) : Int) ≤ r3
   ·rw [if_pos g] at h; cases h
   rw [if_neg g] at h
   by_cases g2 : (e.getD r3.toNat z80).f0 ≠ 0 ∨ (e.getD r3.toNat z80).f2 = 1
   ·rw [if_pos g2] at h; cases h
   rw [if_neg g2] at h
   refine mem_upto.2 ⟨r3.toNat, by omega, ?_⟩
   have e3 : ((r3.toNat : Nat) : Int) = r3 := by omega
   unfold qE3
   rw [if_neg g2, e3]
   obtain ⟨rfl, rfl⟩ := Prod.mk.inj (Option.some.inj h)
   exact List.mem_cons_self ..
  by_cases c1 : r2 = 1
  ·subst c1
   rw [if_neg (by omega)] at h
   simp only [if_true] at h
   exact List.mem_append.2 (.inr (fin 1 _ h))
  ·by_cases c0 : r2 = 0
   ·subst c0
    rw [if_neg (by omega)] at h
    simp only [show ¬ ((0 : Int) = 1) by decide, if_false] at h
    exact List.mem_append.2 (.inl (fin 0 _ h))
   ·rw [if_pos ⟨c0, c1⟩] at h; cases h
theorem equal_T (L : List S25) (hL : L.length < 9223372036854775807) : T (fun k => qC1.f k L L) (fun r => r = true) := by
 unfold qC1.f
 refine T.pos rfl ?_
 refine T.loop (σ := Unit) (g := fun k _ i => qC1.l0 k L L (L.length : Int) i) (n := L.length) hL (I := fun _ _ => True) (fun _ _ => ?_) (fun i _ hi _ next => ?_) L.length 0 () rfl (Nat.zero_le _) trivial
 ·refine T.succ ?_
  simp only [qC1.l0]
  exact T.neg (by omega) (T.some rfl)
 ·refine T.succ ?_
  simp only [qC1.l0]
  exact T.pos (by omega) (T.pos (by omega) (T.pos (by omega) (T.pos (by omega) (T.neg (by simp) (next () trivial)))))
theorem rd25 (l : List S25) (i : Nat) : qBJ l (i : Int) = l.getD i z25 := by simp [qBJ]
theorem place_T (L : List S25) (hL : L.length < 9223372036854775807) (r : S25) : T (fun k => qC7.f k L r.f0 r.f1 r.f2 r.f3) (fun v => (v = -1 ∧ r ∉ L) ∨ ∃ j, j < L.length ∧ v = (j : Int) ∧ L.getD j z25 = r) := by
 unfold qC7.f
 refine T.loop (σ := Unit) (g := fun k _ i => qC7.l0 k L (L.length : Int) i r.f0 r.f1 r.f2 r.f3) (n := L.length) hL (I := fun i _ => ∀ j, j < i → L.getD j z25 ≠ r) (fun _ h => ?_) (fun i _ hi h next => ?_) L.length 0 () rfl (Nat.zero_le _) (fun j hj => absurd hj (by omega))
 ·refine T.succ ?_
  simp only [qC7.l0]
  refine T.neg (by omega) (T.some (.inl ⟨rfl, fun hm => ?_⟩))
  obtain ⟨j, hj, e⟩ := List.getElem_of_mem hm
  exact h j hj (by rw [List.getD_eq_getElem?_getD, List.getElem?_eq_getElem hj]; exact e)
 ·refine T.succ ?_
  simp only [qC7.l0, rd25]
  refine T.pos (by omega) (T.pos (by omega) (T.pos (by omega) (T.ite (fun c => T.some (.inr ⟨i, hi, rfl, ?_⟩)) fun c => next () fun j hj => ?_)))
  ·simp only [Bool.and_eq_true, beq_iff_eq] at c
   obtain ⟨c0, c1, c2, c3⟩ := c
   have c0 := bytes_eq c0
   have c1 := bytes_eq c1
   generalize L.getD i z25 = y at *
   cases r; cases y
   simp_all
  ·rcases Nat.lt_or_ge j i with hj' | hj'
   ·exact h j hj'
   ·obtain rfl : j = i := by omega
    intro e
    apply c
    rw [e]
    simp
end Go.Proofs.Ytnliaialemfcaaa.Pure
end
section
namespace Go.Proofs.Ytnliaialemfcaaa.Pure
open Go.RowKit Go.Proofs.YtnliaialemfcaaaW.PrintWords Go.Proofs.YtnliaialemfcaaaW.PrintLast Go.Proofs.YtnliaialemfcaaaW.PrintMore Go.Proofs.Ytnliaialemfcaaa.PRateFinds
def sLaw : ByteArray := ⟨#[108, 97, 119]⟩
def sIn : ByteArray := ⟨#[105, 110]⟩
def sOut : ByteArray := ⟨#[111, 117, 116]⟩
def sA : ByteArray := ⟨#[97]⟩
def expr5 : List S80 := [⟨1, [], 0, 0, sIn⟩, ⟨0, [], 5, 5, ⟨#[]⟩⟩, ⟨10, [0, 1], 0, 0, ⟨#[]⟩⟩]
def art5 : S54 := ⟨sA, sOut, [], expr5, [], 0⟩
def flat5 : List S48 := [⟨sLaw, 0, 0, [⟨sIn, 5, true, 0, 9, ⟨0, 0⟩⟩, ⟨sOut, 5, false, 0, 0, ⟨0, 0⟩⟩], [], [art5]⟩]
theorem flat_is : qDB.f 5 = some flat5 := rfl
theorem lim5 : limitsF flat5 = some 0 := Gen.lim_eq (F := fun k => qBE.f k flat5) (fun k => qBE.mono _ _) (k := 10) (by kernel_rfl)
theorem parts5 : qBK.f flat5 = some 0 := by kernel_rfl
theorem art5_is : articleF flat5 art5 = some 0 := Gen.lim_eq (F := fun k => qBB.f k flat5 art5.f0 art5.f1 art5.f2 art5.f3 art5.f4 art5.f5) (fun k => qBB.mono _ _ _ _ _ _ _ _) (k := 60) (by kernel_rfl)
theorem over5 : overF flat5 sLaw art5 = some 0 := Gen.lim_eq (F := fun k => qBA.f k flat5 sLaw art5.f0 art5.f0 art5.f1 art5.f2 art5.f3 art5.f4 art5.f5) (fun k => qBA.mono _ _ _ _ _ _ _ _ _ _) (k := 5) (by kernel_rfl)
theorem add5 : ¬ addR [] sA ≠ 0 := fun h => h (by kernel_rfl)
theorem acts5 : qE5 flat5 flat5 [] [] = some (0, [⟨sLaw, sA⟩], [(⟨sLaw, sA⟩, [])]) := by
 have h1 : chk_in flat5 sLaw [art5] [] [] [] = some (0, [⟨sLaw, sA⟩], [(⟨sLaw, sA⟩, [])]) := by
  rw [chk_in, if_pos ⟨by simp, by simp, by simp, by decide, by decide⟩, show art5.f0 = sA from rfl, if_neg add5, art5_is, Option.bind_some, if_neg (by decide), chk_in]
  rfl
 show (chk_in flat5 sLaw [art5] [] [] []).bind _ = _
 rw [h1]
 rfl
theorem overs5 : qD8 flat5 flat5 = some 0 := by
 have h1 : qEF flat5 sLaw [art5] = some 0 := by
  rw [qEF, over5]
  rfl
 show (qEF flat5 sLaw [art5]).bind _ = _
 rw [h1]
 rfl
theorem names5 : (Gen.lim fun k => qAT.f k expr5) = some ([sIn], []) := Gen.lim_eq (F := fun k => qAT.f k expr5) (fun k => qAT.mono _ _) (k := 20) (by kernel_rfl)
theorem names0 : (Gen.lim fun k => qAT.f k []) = some ([], []) := Gen.lim_eq (F := fun k => qAT.f k []) (fun k => qAT.mono _ _) (k := 5) (by kernel_rfl)
theorem looks5 : qCH.f flat5 = some [(sOut, [sIn])] := by
 have h1 : qDV [art5] [] = some [(sOut, [sIn])] := by
  rw [qDV, if_pos (by decide), if_pos (by decide), show art5.f2 = [] from rfl, show art5.f3 = expr5 from rfl, names0, names5, Option.bind_some, Option.bind_some, if_pos (by decide), qDV]
  rfl
 show (qDV [art5] []).bind _ = _
 rw [h1]
 rfl
theorem reach_rank {U : Type} {next : U → List U} (rank : U → Nat) (h : ∀ y z, z ∈ next y → rank z < rank y) : ∀ (n : Nat) (x y : U), Dfs.reachN next n x y → rank y ≤ rank x
 | 0, x, y, e => by cases e; exact Nat.le_refl _
 | n + 1, x, y, ⟨u, hu, r⟩ => by
  have h1 := h x u hu
  have h2 := reach_rank rank h n u y r
  omega
theorem cyc_none {U : Type} {next : U → List U} (rank : U → Nat) (h : ∀ y z, z ∈ next y → rank z < rank y) (x : U) : ¬ Dfs.Cyc next x := by
 rintro ⟨y, z, _, hz, ⟨n, r⟩⟩
 have h1 := h y z hz
 have h2 := reach_rank rank h n z y r
 omega
theorem check5 : qCI.f flat5 = some 0 := by
 unfold qCI.f
 rw [lim5, Option.bind_some, if_neg (by decide), parts5, Option.bind_some, if_neg (by decide), acts5, Option.bind_some]
 unfold chk_k1
 rw [if_neg (by decide), overs5, Option.bind_some]
 unfold chk_k2
 rw [if_neg (by decide)]
 unfold chk_end
 rw [if_pos ⟨by decide, by decide⟩, if_neg ?_, looks5, Option.bind_some]
 ·unfold chk_last
  rw [if_pos ⟨by decide, by decide, by decide⟩, if_neg ?_]
  rintro ⟨s, _, hc⟩
  refine cyc_none (fun s => if s = sOut then 1 else 0) (fun y z hz => ?_) s hc
  obtain ⟨p, hp, hz⟩ := List.mem_flatMap.1 hz
  obtain ⟨hp1, hp2⟩ := List.mem_filter.1 hp
  obtain rfl := List.mem_singleton.1 hp1
  obtain rfl := List.mem_singleton.1 hz
  have hp2 : sOut = y := of_decide_eq_true hp2
  rw [if_pos hp2.symm, if_neg (by decide)]
  decide
 ·rintro ⟨x, _, hc⟩
  refine cyc_none (fun _ => 0) (fun y z hz => ?_) x hc
  unfold lookO at hz
  cases hf : List.find? (fun p : S58 × List S58 => decide (p.1 = y)) [((⟨sLaw, sA⟩ : S58), ([] : List S58))] with
  | none => rw [hf] at hz; cases hz
  | some q =>
   have hq := List.mem_of_find?_eq_some hf
   obtain rfl := List.mem_singleton.1 hq
   rw [hf] at hz
   cases hz
theorem sx5 : Sx flat5 where
 acts := by decide
 attrs := by decide
 tabs := by decide
 arts := by decide
 steps := by intro a ha t ht; obtain rfl := List.mem_singleton.1 ha; cases ht
 aname := by decide
 xname := by intro a ha x hx; obtain rfl := List.mem_singleton.1 ha; obtain rfl := List.mem_singleton.1 hx; decide
 refs := by intro a ha x hx r hr; obtain rfl := List.mem_singleton.1 ha; obtain rfl := List.mem_singleton.1 hx; cases hr
 cond := by intro a ha x hx r hr; obtain rfl := List.mem_singleton.1 ha; obtain rfl := List.mem_singleton.1 hx; cases hr
 then_ := by
  intro a ha x hx r hr
  obtain rfl := List.mem_singleton.1 ha
  obtain rfl := List.mem_singleton.1 hx
  rcases List.mem_cons.1 hr with rfl | hr
  ·decide
  rcases List.mem_cons.1 hr with rfl | hr
  ·decide
  obtain rfl := List.mem_singleton.1 hr
  decide
theorem places5 : fsts (qC8 flat5) = [⟨sLaw, sA, 1, 1⟩] := by kernel_rfl
theorem placed_T : T (fun k => qCO.f k) (fun r => r = true) := by
 unfold qCO.f
 rw [flat_is]
 simp only [Option.bind_some]
 have hg : GoodB flat5 := by
  obtain ⟨r, h1, h2⟩ := check_S flat5 sx5 (by decide)
  rw [check5] at h1
  exact h2 (Option.some.inj h1).symm
 refine T.bind (find_T_ sx5.toSz check5 fun _ => hg) fun v hv => ?_
 rw [if_pos rfl, places5] at hv
 subst hv
 exact T.pos rfl (T.bind (equal_T [⟨sLaw, sA, 1, 1⟩] (by decide)) fun w hw => T.some hw)
end Go.Proofs.Ytnliaialemfcaaa.Pure
end
section
namespace Go.Proofs.Ytnliaialemfcaaa.Pure
open Go.RowKit Go.Proofs.YtnliaialemfcaaaW.PrintWords Go.Proofs.YtnliaialemfcaaaW.PrintLast Go.Proofs.YtnliaialemfcaaaW.PrintMore Go.Proofs.Ytnliaialemfcaaa.PRateFinds
theorem len_of {n B : Nat} (h : n * B ≤ reachBytes) (hB : 1 ≤ B) : n ≤ 140737488355328 := by
 have h1 : n * 1 ≤ n * B := Nat.mul_le_mul_left _ hB
 have h2 : reachBytes = 140737488351232 := by decide
 omega
theorem size_of {n : Nat} (h : n ≤ reachBytes) : n ≤ maxLen := Nat.le_trans h (by decide)
theorem sx_of {b : List S48} (h : b.length * Try.prog.bytesOf 48 ≤ reachBytes ∧ ∀ y ∈ b, ok48 y) : Sx b ∧ ∀ a, a ∈ b → a.f3.length ≤ 140737488355328 := by
 have b48 : 1 ≤ Try.prog.bytesOf 48 := by decide +kernel
 have b83 : 1 ≤ Try.prog.bytesOf 83 := by decide +kernel
 have b69 : 1 ≤ Try.prog.bytesOf 69 := by decide +kernel
 have b54 : 1 ≤ Try.prog.bytesOf 54 := by decide +kernel
 have b76 : Try.prog.bytesOf 76 = 16 := by decide +kernel
 have b3 : Try.prog.bytesOf 3 = 8 := by decide +kernel
 have hr : reachBytes = 140737488351232 := by decide
 have h3 : ∀ a, a ∈ b → a.f3.length ≤ 140737488355328 := fun a ha => by
  obtain ⟨_, _, _, ⟨g, _⟩, _, _⟩ := h.2 a ha
  exact len_of g b83
 refine ⟨⟨⟨?_, ?_, ?_, ?_, ?_⟩, ?_, ?_, ?_, ?_, ?_⟩, h3⟩
 ·have := len_of h.1 b48
  omega
 ·intro a ha
  have := h3 a ha
  omega
 ·intro a ha
  obtain ⟨_, _, _, _, ⟨g, _⟩, _⟩ := h.2 a ha
  have := len_of g b69
  omega
 ·intro a ha
  obtain ⟨_, _, _, _, _, ⟨g, _⟩⟩ := h.2 a ha
  have := len_of g b54
  omega
 ·intro a ha t ht
  obtain ⟨_, _, _, _, ⟨_, g⟩, _⟩ := h.2 a ha
  obtain ⟨_, _, _, _, ⟨g, _⟩⟩ := g t ht
  rw [b76] at g
  omega
 ·intro a ha
  obtain ⟨g, _⟩ := h.2 a ha
  exact size_of g
 ·intro a ha x hx
  obtain ⟨_, _, _, _, _, ⟨_, g⟩⟩ := h.2 a ha
  obtain ⟨g1, g2, _⟩ := g x hx
  exact ⟨size_of g1, size_of g2⟩
 ·intro a ha x hx r hr
  obtain ⟨_, _, _, _, _, ⟨_, g⟩⟩ := h.2 a ha
  obtain ⟨_, _, _, _, ⟨_, g⟩, _⟩ := g x hx
  obtain ⟨g1, g2⟩ := g r hr
  exact ⟨size_of g1, size_of g2⟩
 ·intro a ha x hx n hn
  obtain ⟨_, _, _, _, _, ⟨_, g⟩⟩ := h.2 a ha
  obtain ⟨_, _, ⟨_, g⟩, _⟩ := g x hx
  obtain ⟨_, ⟨g1, _⟩, _, _, g2⟩ := g n hn
  rw [b3] at g1
  exact ⟨size_of g2, by omega⟩
 ·intro a ha x hx n hn
  obtain ⟨_, _, _, _, _, ⟨_, g⟩⟩ := h.2 a ha
  obtain ⟨_, _, _, ⟨_, g⟩, _⟩ := g x hx
  obtain ⟨_, ⟨g1, _⟩, _, _, g2⟩ := g n hn
  rw [b3] at g1
  exact ⟨size_of g2, by omega⟩
theorem rd32 (l : List S32) (i : Nat) : rd_T32 l (i : Int) = l.getD i z32 := by simp [rd_T32]
theorem rateFinds_T (b : List S48) (x : S25) (h : b.length * Try.prog.bytesOf 48 ≤ reachBytes ∧ ∀ y ∈ b, ok48 y) : T (fun k => qAB.f k b x.f0 x.f1 x.f2 x.f3) (fun r => r = true) := by
 obtain ⟨hx, h3⟩ := sx_of h
 obtain ⟨c, hc, hg⟩ := check_S b hx h3
 unfold qAB.f qER.f
 rw [hc]
 simp only [Option.bind_some]
 refine T.bind (find_T_ hx.toSz hc hg) fun v hv => ?_
 subst hv
 by_cases h0 : c = 0
 ·subst h0
  have hG := hg rfl
  have hl := bodyP_small hG
  have hp : qC0.f b = some (fsts (qC8 b), (qC8 b).map (·.2)) := by
   unfold qC0.f
   rw [if_pos (by omega)]
   rfl
  rw [hp]
  simp only [if_neg (show ¬ ((0 : Int) ≠ 0) by decide), Option.bind_some, if_true]
  cases hq : qE0 b x.f0 x.f1 x.f2 x.f3 with
  | none =>
   simp only [Option.bind_some]
   refine T.succ ?_
   simp only [qAB.j0]
   refine T.bind placed_T fun v hv => ?_
   subst hv
   refine T.pos (by simp) (T.pos (by simp) (T.bind (equal_T (fsts (qC8 b)) (by rw [qEC]; omega)) fun v hv => ?_))
   subst hv
   refine T.succ ?_
   simp only [qAB.j1]
   refine T.neg (by decide) (T.bind (place_T (fsts (qC8 b)) (by rw [qEC]; omega) x) fun v hv => T.pos (by simp) ?_)
   rcases hv with ⟨rfl, _⟩ | ⟨j, hj, rfl, hj2⟩
   ·refine T.succ ?_
    simp only [qAB.j2]
    exact T.pos (by decide) (T.neg (by decide) (T.pos (by simp) (T.some (by decide))))
   ·exfalso
    rw [qEC] at hj
    have hm : ((qC8 b)[j].1, (qC8 b)[j].2) ∈ qC8 b := List.getElem_mem hj
    have e : (qC8 b)[j].1 = x := by
     rw [← hj2, List.getD_eq_getElem?_getD, List.getElem?_eq_getElem (by rw [qEC]; exact hj)]
     simp [fsts]
    rw [e] at hm
    have := place_of hG hm
    rw [hq] at this
    cases this
  | some q =>
   obtain ⟨n, kd⟩ := q
   simp only [Option.bind_some]
   have hmem := place_mem hq
   refine T.succ ?_
   simp only [qAB.j0]
   refine T.bind placed_T fun v hv => ?_
   subst hv
   refine T.pos (by simp) (T.pos (by simp) (T.bind (equal_T (fsts (qC8 b)) (by rw [qEC]; omega)) fun v hv => ?_))
   subst hv
   refine T.succ ?_
   simp only [qAB.j1]
   refine T.neg (by decide) (T.bind (place_T (fsts (qC8 b)) (by rw [qEC]; omega) x) fun v hv => T.pos (by simp) ?_)
   rcases hv with ⟨rfl, hno⟩ | ⟨j, hj, rfl, hj2⟩
   ·exact absurd (List.mem_map.2 ⟨_, hmem, rfl⟩) hno
   ·rw [qEC] at hj
    have hm : ((qC8 b)[j].1, (qC8 b)[j].2) ∈ qC8 b := List.getElem_mem hj
    have e : (qC8 b)[j].1 = x := by
     rw [← hj2, List.getD_eq_getElem?_getD, List.getElem?_eq_getElem (by rw [qEC]; exact hj)]
     simp [fsts]
    rw [e] at hm
    have h5 := place_of hG hm
    rw [hq] at h5
    obtain ⟨rfl, rfl⟩ := Prod.mk.inj (Option.some.inj h5)
    refine T.succ ?_
    simp only [qAB.j2, rd32]
    have hd : ((qC8 b).map (·.2)).getD j z32 = (qC8 b)[j].2 := by
     rw [List.getD_eq_getElem?_getD, List.getElem?_eq_getElem (by simpa using hj)]
     simp
    rw [hd]
    refine T.neg (by simp) (T.pos (by simp) (T.pos (by simp) (T.pos (by omega) (T.pos (by simp; omega) (T.some (by simp))))))
 ·simp only [if_neg h0, if_pos h0, Option.bind_some]
  refine T.succ ?_
  simp only [qAB.j0]
  refine T.bind placed_T fun v hv => ?_
  subst hv
  refine T.pos (by simp) (T.pos (by simp) (T.bind (equal_T [] (by decide)) fun v hv => ?_))
  subst hv
  refine T.succ ?_
  simp only [qAB.j1]
  refine T.neg (by decide) (T.bind (place_T [] (by decide) x) fun v hv => T.neg h0 ?_)
  refine T.succ ?_
  simp only [qAB.j2]
  exact T.neg (by decide) (T.neg h0 (T.pos (by simp) (T.some (by decide))))
theorem RateFinds (l0 : List S48) (x : S25) (h0 : l0.length * Try.prog.bytesOf 48 ≤ reachBytes ∧ ∀ y ∈ l0, ok48 y) (_ : ok25 x) : ∃ k, qAB.f k l0 x.f0 x.f1 x.f2 x.f3 = some true := by
 obtain ⟨r, h1, rfl⟩ := rateFinds_T l0 x h0
 exact h1.rounds
end Go.Proofs.Ytnliaialemfcaaa.Pure
end
section
namespace Go.Proofs.Ytnliaialemfcaaa.rateFinds
open Go.ChangeShapes Go.WideShapes Go.ChangeAt Go.RowKit Go.Proofs.Ytnliaialemfcaaa.Open Go.Proofs.YtnliaialemfcaaaW.PrintWords
open Go.Proofs.Ytnliaialemfcaaa.PRateFinds (o23 o25 ok25 ok48 k25_open k48)
theorem own : ownKnob Try.prog.godebug = none := by kernel_rfl
theorem laidOut : laidOutB Try.prog = true := by kernel_rfl
set_option maxRecDepth 100000 in
theorem lifted (os : Os) (started : os.Started) (H : Type) (enc : TypeId × Value → H) :
  ReturnsInHanded {} Try.checked os 3 .any (Rows.rateFindsSpec.pre6 enc Try.prog Try.f3 Rows.rateFindsRow.domain false) (Rows.rateFindsSpec.post enc Try.prog Try.f3 false true false false) := by
 refine returnsInHanded_of_change_sized (C := Try.checked) own started (by kernel_rfl) Try.func3
  (ChangeSpec.witness6 (enc := enc) (C := Try.checked) false ⟨#[], #[.slice none 0 0, .agg #[.string ByteArray.empty, .string ByteArray.empty, .int .i64 0, .int .i64 0]], []⟩ 8 (by kernel_rfl) (by kernel_rfl) (by kernel_rfl) (by kernel_rfl)) ?_
 intro W base args ds gs before hval0 hW hcnd hsz0 _
 have hsz : (DataW.weightsEach Try.prog (Try.f3.params.toList ++ Rows.rateFindsSpec.plain.varTypes Try.prog) (ds ++ gs)).all (· ≤ reachBytes) = true := hsz0
 have hval : ∀ (j : Nat) t v, Try.f3.params[j]? = some t → args[j]? = some v → Value.okWide Try.prog W .any base t v := hval0
 have hW' := hW
 obtain ⟨p, q, hA0, hV, rfl, hfz, hnd⟩ := hW
 have hA : DataW.TrodAll enc Try.prog W 0 (fun _ => true) true Try.f3.params.toList args.toList ds p := hA0
 rw [Try.params3] at hA hval hsz
 obtain ⟨v0, vs0, d0, ds0, p0, q0, hargs, rfl, rfl, h0, r0⟩ := trodAll_cons hA
 obtain ⟨v1, vs1, d1, ds1, p1, q1, rfl, rfl, rfl, h1, r1⟩ := trodAll_cons r0
 obtain ⟨rfl, rfl, rfl⟩ := trodAll_nil r1
 obtain rfl : args = #[v0, v1] := by cases args; simp_all
 obtain ⟨rfl, rfl⟩ := trodVars_none hV
 obtain ⟨a0, len0, cap0, rfl⟩ := okWide_slice Try.underlying23 (hval 0 23 v0 rfl rfl)
 obtain ⟨cs1, rfl, _⟩ := okWide_struct Try.underlying25 (hval 1 25 v1 rfl rfl)
 have k0 := h0
 have k1 := h1
 have lt0 : ∀ x ∈ p0, x.block < W.heap.size := by obtain ⟨m, hm⟩ := k0; exact DataW.trod_lt m _ _ _ hm
 have lt1 : ∀ x ∈ p1, x.block < W.heap.size := by obtain ⟨m, hm⟩ := k1; exact DataW.trod_lt m _ _ _ hm
 obtain ⟨n0, hn0⟩ := h0
 obtain ⟨n1, hn1⟩ := h1
 obtain ⟨l0, ⟨A0, c0, e0, hc0, hC0⟩, hO0⟩ := o23.2 H enc W _ _ n0 _ _ hn0
 obtain ⟨x1, hK1, hO1⟩ := o25.2 H enc W _ _ n1 _ _ hn1
 have e1 := k25_open hK1
 have e0' : #[Value.slice a0 len0 cap0].toList = [.slice A0 l0.length c0] := e0
 have e1' : cs1.toList = [.string x1.f0, .string x1.f1, .int .i64 x1.f2, .int .i64 x1.f3] := e1
 obtain rfl : cs1 = #[.string x1.f0, .string x1.f1, .int .i64 x1.f2, .int .i64 x1.f3] := by cases cs1; simp_all
 simp only [List.cons.injEq, and_true, Value.slice.injEq] at e0'
 obtain ⟨rfl, rfl, rfl⟩ := e0'
 have f0 : Fit Try.prog 23 d0 := List.all_eq_true.2 fun m hm => List.all_eq_true.1 hsz m (DataW.weights_mem_each (j := 0) (t := 23) (d := d0) rfl rfl m hm)
 have f1 : Fit Try.prog 25 d1 := List.all_eq_true.2 fun m hm => List.all_eq_true.1 hsz m (DataW.weights_mem_each (j := 1) (t := 25) (d := d1) rfl rfl m hm)
 obtain ⟨k, hk⟩ := Pure.RateFinds l0 x1 (hO0 f0) (hO1 f1)
 clear hA0 hval0 hsz0 hsz
 refine (PRateFinds.qAB.calls k a0 cap0 l0 x1.f0 x1.f1 x1.f2 x1.f3 true W hC0 hc0 hk).mono fun e W' ⟨he, bel⟩ => ?_
 subst he
 exact ⟨_, rfl, _, _, _, [], _, [], hW', trodAll_mk1 (shut_bool Try.underlying4 _), (trodAll_cons_mk (Below.trod laidOut (by kernel_rfl) (of_decide_eq_true (by kernel_rfl)) k0 bel lt0) (trodAll_cons_mk (Below.trod laidOut (by kernel_rfl) (of_decide_eq_true (by kernel_rfl)) k1 bel lt1) trodAll_mk0)), rfl, bel.frame _, fun h => by cases h⟩
theorem over : Rows.rateFindsRow.holds Try.pinned (OpenSpec.ofChange Rows.rateFindsSpec) :=
 OpenClaim.holds_of_wide 3 Try.f3 rfl rfl rfl rfl rfl rfl rfl ⟨rfl, rfl, rfl, rfl, rfl⟩ rfl rfl rfl rfl rfl (by kernel_rfl) Try.func3 (by kernel_rfl)
  (of_decide_eq_true (by kernel_rfl)) (by unfold Func.isWrapper; first | (rw [if_pos (by decide +kernel)]; kernel_rfl) | (rw [if_neg (by decide +kernel)]; exact ⟨rfl, rfl⟩))
  (fun os started H enc _ => lifted os started H enc)
theorem proved : Rows.RateFindsSaid := over
#print axioms proved
end Go.Proofs.Ytnliaialemfcaaa.rateFinds
namespace Go.Proofs.Ytnliaialemfcaaa
theorem rateFinds_holds : Rows.RateFindsSaid := rateFinds.proved
end Go.Proofs.Ytnliaialemfcaaa
end
