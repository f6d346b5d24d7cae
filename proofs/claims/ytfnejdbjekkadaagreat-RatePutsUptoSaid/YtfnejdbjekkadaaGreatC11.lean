/- A part of the proof of RatePuts: texts that were printed, words, walks. No condition. -/
import Derived.Test.YtfnejdbjekkadaaGreatC7
import Derived.Test.YtfnejdbjekkadaaGreatC8
import Derived.Test.YtfnejdbjekkadaaGreatC9
import Derived.Test.YtfnejdbjekkadaaGreatC10
set_option linter.unusedVariables false
set_option linter.unusedSimpArgs false
section
namespace Go.Proofs.YtfnejdbjekkadaaGreat.PRatePuts
noncomputable section
open Go.RowKit Go.Proofs.YtfnejdbjekkadaaGreatW.PrintWords Go.Proofs.YtfnejdbjekkadaaGreatW.PrintLast Go.Proofs.YtfnejdbjekkadaaGreatW.PrintMore
set_option maxHeartbeats 8000000
set_option maxRecDepth 100000
def PutTo (l : List S49) (r0 r1 : ByteArray) (r2 r3 n : Int) (l' : List S49) : Prop := 0 ≤ r3 ∧ ∃ i y, l[i]? = some y ∧ l.find? (fun x => x.f0.toList == r0.toList) = some y ∧
 ((∃ k t s, (r2 = 2 ∨ r2 = 3) ∧ y.f4[k]? = some t ∧ y.f4.find? (fun x => x.f0.toList == r1.toList) = some t ∧ t.f4[r3.toNat]? = some s ∧ l' = l.set i { y with f4 := y.f4.set k { t with f4 := t.f4.set r3.toNat (if r2 = 2 then { s with f0 := n } else { s with f1 := n }) } }) ∨
  (∃ k x s, r2 = 0 ∧ y.f5[k]? = some x ∧ y.f5.find? (fun x => x.f0.toList == r1.toList) = some x ∧ x.f2[r3.toNat]? = some s ∧ l' = l.set i { y with f5 := y.f5.set k { x with f2 := x.f2.set r3.toNat { s with f3 := n } } }) ∨
  (∃ k x s, r2 = 1 ∧ y.f5[k]? = some x ∧ y.f5.find? (fun x => x.f0.toList == r1.toList) = some x ∧ x.f3[r3.toNat]? = some s ∧ l' = l.set i { y with f5 := y.f5.set k { x with f3 := x.f3.set r3.toNat { s with f3 := n } } }))
theorem seg_one (W : World) (g o : Nat) (u : Value) : W.setCells g o [u] = W.setCell ⟨g, o, none⟩ u := rfl
theorem own_form {W : World} {base : Nat} {e : TypeId} {sz n c m : Nat} {ad : Addr} {xs : List Value} (h : W.ownsRow base e sz (.slice (some ad) n c) m xs) (hm : 0 < m) : ∃ g, ad = ⟨g, 0, none⟩ := by
 obtain ⟨g, cap, hv, -, -⟩ := h.form hm
 injection hv with hv
 injection hv with hv
 exact ⟨g, hv⟩
theorem step_put {W : World} {base : Nat} {ok : Nat → Prop} {as_ : Addr} {n c : Nat} {l : List S75} {m : Nat} (h : k75.R 75 W base ok (.slice (some as_) n c) l) (hm : m < l.length) (q : Nat) (hq : q < 2) (nn : Int) :
  ∃ g s, as_ = ⟨g, 0, none⟩ ∧ ok g ∧ l[m]? = some s ∧ W.frozen? ⟨g, m * 2 + q, none⟩ = false ∧ (∃ cs, W.heap[g]? = some (.cells cs 75 (0, 0))) ∧ k75.R 75 (W.setCell ⟨g, m * 2 + q, none⟩ (.int .i64 nn)) base ok (.slice (some as_) n c) (l.set m (if q = 0 then { s with f0 := nn } else { s with f1 := nn })) ∧ W.grownBy (W.setCell ⟨g, m * 2 + q, none⟩ (.int .i64 nn)) (some g) := by
 obtain ⟨inner, ho⟩ := Kd.R_own h
 obtain ⟨g, rfl⟩ := own_form ho (by omega)
 obtain ⟨hn, _, _⟩ := Kd.qAR h
 obtain ⟨cs, hcl, hM, hcc, hfz⟩ := Kd.R_elem h z75 (m : Int) (by omega) (by omega)
 have hs : l[m]? = some (l.getD m z75) := by rw [List.getD_eq_getElem?_getD, List.getElem?_eq_getElem hm]; rfl
 simp only [Int.toNat_natCast] at hM hcc hfz
 generalize l.getD m z75 = s at *
 obtain rfl := k75_openM hM
 refine ⟨g, s, rfl, h.1 g (by simp [Value.ownBlock]), hs, hfz q, Kd.R_typed h g (by simp [Value.ownBlock]), ?_⟩
 have key : ∀ (x' : S75), k75.M W base (fun k => ok k ∧ k ≠ g) x' (([.int .i64 s.f0, .int .i64 s.f1] : List Value).take q ++ [.int .i64 nn] ++ ([.int .i64 s.f0, .int .i64 s.f1] : List Value).drop (q + 1)) → _ := fun x' hx => Kd.R_seg h (m : Int) (by omega) (by omega) (j := q) (seg := [.int .i64 nn]) hcl hcc (by show q + 1 ≤ 2; omega) hx (fun _ hk => hk)
 simp only [seg_one, Int.toNat_natCast] at key
 rcases (by omega : q = 0 ∨ q = 1) with rfl | rfl
 ·exact key { s with f0 := nn } (k75_mkM _ _ _ { s with f0 := nn })
 ·exact key { s with f1 := nn } (k75_mkM _ _ _ { s with f1 := nn })
theorem node_put {W : World} {base : Nat} {ok : Nat → Prop} {as_ : Addr} {n c : Nat} {l : List S79} {m : Nat} (h : k79.R 79 W base ok (.slice (some as_) n c) l) (hm : m < l.length) (nn : Int) :
  ∃ g s, as_ = ⟨g, 0, none⟩ ∧ ok g ∧ l[m]? = some s ∧ W.frozen? ⟨g, m * 5 + 3, none⟩ = false ∧ (∃ cs, W.heap[g]? = some (.cells cs 79 (0, 0))) ∧ k79.R 79 (W.setCell ⟨g, m * 5 + 3, none⟩ (.int .i64 nn)) base ok (.slice (some as_) n c) (l.set m { s with f3 := nn }) ∧ W.grownBy (W.setCell ⟨g, m * 5 + 3, none⟩ (.int .i64 nn)) (some g) := by
 obtain ⟨inner, ho⟩ := Kd.R_own h
 obtain ⟨g, rfl⟩ := own_form ho (by omega)
 obtain ⟨hn, _, _⟩ := Kd.qAR h
 obtain ⟨cs, hcl, hM, hcc, hfz⟩ := Kd.R_elem h z79 (m : Int) (by omega) (by omega)
 have hs : l[m]? = some (l.getD m z79) := by rw [List.getD_eq_getElem?_getD, List.getElem?_eq_getElem hm]; rfl
 simp only [Int.toNat_natCast] at hM hcc hfz
 generalize l.getD m z79 = s at *
 obtain ⟨v1, rfl, hR⟩ := k79_openM hM
 refine ⟨g, s, rfl, h.1 g (by simp [Value.ownBlock]), hs, hfz 3, Kd.R_typed h g (by simp [Value.ownBlock]), ?_⟩
 have key := Kd.R_seg h (m : Int) (by omega) (by omega) (j := 3) (seg := [.int .i64 nn]) (x' := { s with f3 := nn }) hcl hcc (by show 3 + 1 ≤ 5; omega) (k79_mkM _ _ _ { s with f3 := nn } hR) (fun _ hk => hk)
 simp only [seg_one, Int.toNat_natCast] at key
 exact key
theorem put_at {W : World} {base : Nat} {ok : Nat → Prop} {A0 : Option Addr} {n c : Nat} {l : List S49} {r0 r1 : ByteArray} {r2 r3 : Int} {a : Addr} (nn : Int) (h : Sep.RI kActI 49 W base ok (.slice A0 n c) l) (hp : PAt W A0 l r0 r1 r2 r3 a) :
  ∃ l', PutTo l r0 r1 r2 r3 nn l' ∧ l'.length = l.length ∧ W.frozen? a = false ∧ base ≤ a.block ∧ Sep.RI kActI 49 (W.setCell a (.int .i64 nn)) base ok (.slice A0 n c) l' := by
 obtain ⟨h3, i, y, hi, hfi, hp⟩ := hp
 have hil : i < l.length := (List.getElem?_eq_some_iff.1 hi).1
 have hform : ∀ ad, A0 = some ad → ∃ g, ad = ⟨g, 0, none⟩ := fun ad e => by
  subst e
  obtain ⟨_, inner, _, ho, _⟩ := h
  exact own_form ho (by omega)
 obtain ⟨oki, cc, hok, hM, hcl, hcell, hupd⟩ := h.upd hi
 obtain ⟨v3, v4, v5, rfl, m3, m4, m5⟩ := kActI_openM hM
 rcases hp with ⟨k, t, A4, c4, as_, cs, hr, hk, hfk, ⟨ad, rfl, hc4⟩, ⟨ad4, rfl, hcs⟩, hlt, rfl⟩ | ⟨k, t, A4, c4, as_, cs, hr, hk, hfk, ⟨ad, rfl, hc4⟩, ⟨ad4, rfl, hcs⟩, hlt, rfl⟩
 ·obtain ⟨g, rfl⟩ := hform ad rfl
  obtain rfl : v4 = .slice (some ad4) y.f4.length c4 := by
   have h1 := hcell g n c rfl 4 v4 rfl
   rw [add_plain] at hc4
   exact zy (h1.symm.trans hc4)
  have hkl : k < y.f4.length := (List.getElem?_eq_some_iff.1 hk).1
  obtain ⟨g4, rfl⟩ : ∃ g4, ad4 = ⟨g4, 0, none⟩ := by
   obtain ⟨_, inner, _, ho, _⟩ := m4
   exact own_form ho (by omega)
  obtain ⟨okk, c2, hok2, hM2, hcl2, hcell2, hupd2⟩ := m4.upd hk
  obtain ⟨v, rfl, mm⟩ := k73_openM hM2
  obtain rfl : v = .slice (some as_) t.f4.length cs := by
   have h1 := hcell2 g4 _ _ rfl 4 v rfl
   rw [add_plain] at hcs
   exact zy (h1.symm.trans hcs)
  have fin : ∀ q, q < 2 → ∃ s, t.f4[r3.toNat]? = some s ∧ ∃ gs, as_ = ⟨gs, 0, none⟩ ∧ W.frozen? ⟨gs, r3.toNat * 2 + q, none⟩ = false ∧ base ≤ gs ∧ Sep.RI kActI 49 (W.setCell ⟨gs, r3.toNat * 2 + q, none⟩ (.int .i64 nn)) base ok (.slice (some ⟨g, 0, none⟩) n c) (l.set i { y with f4 := y.f4.set k { t with f4 := t.f4.set r3.toNat (if q = 0 then { s with f0 := nn } else { s with f1 := nn }) } }) := by
   intro q hq
   obtain ⟨gs, s, rfl, hg, hs, hfz, hty, hR, hG⟩ := step_put mm hlt q hq nn
   have far : ∀ b, b ≠ gs → (W.setCell ⟨gs, r3.toNat * 2 + q, none⟩ (.int .i64 nn)).heap[b]? = W.heap[b]? := fun b hb => Below.heap_setCell _ _ _ _ hb
   have hty' : ∀ b, (Value.slice (some ⟨gs, 0, none⟩) t.f4.length cs).ownBlock = some b → ∃ cells, W.heap[b]? = some (.cells cells 75 (0, 0)) := fun b hb => by
    obtain rfl : gs = b := by simpa [Value.ownBlock] using hb
    exact hty
   have hG' : W.grownBy (W.setCell ⟨gs, r3.toNat * 2 + q, none⟩ (.int .i64 nn)) (Value.slice (some ⟨gs, 0, none⟩) t.f4.length cs).ownBlock := by simpa [Value.ownBlock] using hG
   refine ⟨s, hs, gs, rfl, hfz, Kd.qEV mm gs (by simp [Value.ownBlock]), hupd _ gs _ far (hok2 gs hg).1 (kActI_mkM _ _ _ { y with f4 := _ } ?_ (hupd2 _ gs _ far hg (k73_mkM _ _ _ { t with f4 := _ } hR)) ?_)⟩
   ·have h4 : (Kd.slice 98 k98).M W base oki y.f3 [v3] := ⟨v3, rfl, m3⟩
    obtain ⟨v, hv, h5⟩ := M_apart (e := 75) h4 hty' (by decide) hG'
    injection hv with hv _
    subst hv
    exact h5
   ·have h4 : (Sep.sliceI 55 kArtI).M W base oki y.f5 [v5] := ⟨v5, rfl, m5⟩
    obtain ⟨v, hv, h5⟩ := M_apart (e := 75) h4 hty' (by decide) hG'
    injection hv with hv _
    subst hv
    exact h5
  by_cases h2 : r2 = 2
  ·obtain ⟨s, hs, gs, rfl, hfz, hb, hR⟩ := fin 0 (by decide)
   rw [if_pos h2, add_plain]
   refine ⟨_, ⟨h3, i, y, hi, hfi, .inl ⟨k, t, s, hr, hk, hfk, hs, rfl⟩⟩, by rw [List.length_set], hfz, hb, ?_⟩
   rw [if_pos h2]
   exact hR
  ·obtain ⟨s, hs, gs, rfl, hfz, hb, hR⟩ := fin 1 (by decide)
   rw [if_neg h2, add_plain]
   refine ⟨_, ⟨h3, i, y, hi, hfi, .inl ⟨k, t, s, hr, hk, hfk, hs, rfl⟩⟩, by rw [List.length_set], hfz, hb, ?_⟩
   rw [if_neg h2]
   exact hR
 ·obtain ⟨g, rfl⟩ := hform ad rfl
  obtain rfl : v5 = .slice (some ad4) y.f5.length c4 := by
   have h1 := hcell g n c rfl 5 v5 rfl
   rw [add_plain] at hc4
   exact zy (h1.symm.trans hc4)
  have hkl : k < y.f5.length := (List.getElem?_eq_some_iff.1 hk).1
  obtain ⟨g4, rfl⟩ : ∃ g4, ad4 = ⟨g4, 0, none⟩ := by
   obtain ⟨_, inner, _, ho, _⟩ := m5
   exact own_form ho (by omega)
  obtain ⟨okk, c2, hok2, hM2, hcl2, hcell2, hupd2⟩ := m5.upd hk
  obtain ⟨v2, w3, w4, s0, rfl, q2, q3, q4⟩ := kArtI_openM hM2
  have rest : ∀ (gs m : Nat) (nl : Nat) (y' : List S55), okk gs → (∃ cells, W.heap[gs]? = some (.cells cells 79 (0, 0))) → W.grownBy (W.setCell ⟨gs, m * 5 + 3, none⟩ (.int .i64 nn)) (some gs) → Sep.RI kArtI 55 (W.setCell ⟨gs, m * 5 + 3, none⟩ (.int .i64 nn)) base oki (.slice (some ⟨g4, 0, none⟩) y.f5.length c4) y' → Sep.RI kActI 49 (W.setCell ⟨gs, m * 5 + 3, none⟩ (.int .i64 nn)) base ok (.slice (some ⟨g, 0, none⟩) n c) (l.set i { y with f5 := y' }) := by
   intro gs m nl y' hg hty hG hR
   have hty' : ∀ b, (Value.slice (some ⟨gs, 0, none⟩) nl cs).ownBlock = some b → ∃ cells, W.heap[b]? = some (.cells cells 79 (0, 0)) := fun b hb => by
    obtain rfl : gs = b := by simpa [Value.ownBlock] using hb
    exact hty
   have hG' : W.grownBy (W.setCell ⟨gs, m * 5 + 3, none⟩ (.int .i64 nn)) (Value.slice (some ⟨gs, 0, none⟩) nl cs).ownBlock := by simpa [Value.ownBlock] using hG
   refine hupd _ gs _ (fun b hb => Below.heap_setCell _ _ _ _ hb) (hok2 gs hg).1 (kActI_mkM _ _ _ { y with f5 := y' } ?_ ?_ hR)
   ·have h4 : (Kd.slice 98 k98).M W base oki y.f3 [v3] := ⟨v3, rfl, m3⟩
    obtain ⟨v, hv, h5⟩ := M_apart (e := 79) h4 hty' (by decide) hG'
    injection hv with hv _
    subst hv
    exact h5
   ·have h4 : (Sep.sliceI 73 k73).M W base oki y.f4 [v4] := ⟨v4, rfl, m4⟩
    obtain ⟨v, hv, h5⟩ := M_apart (e := 79) h4 hty' (by decide) hG'
    injection hv with hv _
    subst hv
    exact h5
  rcases hr with rfl | rfl
  ·rw [if_neg (by decide)] at hcs hlt
   obtain rfl : v2 = .slice (some as_) t.f2.length cs := by
    have h1 := hcell2 g4 _ _ rfl 2 v2 rfl
    rw [add_plain] at hcs
    exact zy (h1.symm.trans hcs)
   obtain ⟨gs, s, rfl, hg, hs, hfz, hty, hR, hG⟩ := node_put q2 hlt nn
   rw [add_plain]
   refine ⟨_, ⟨h3, i, y, hi, hfi, .inr (.inl ⟨k, t, s, rfl, hk, hfk, hs, rfl⟩)⟩, by rw [List.length_set], hfz, Kd.qEV q2 gs (by simp [Value.ownBlock]), rest gs r3.toNat 0 _ hg.1 hty hG (hupd2 _ gs _ (fun b hb => Below.heap_setCell _ _ _ _ hb) hg.1 (kArtI_mkM _ _ _ { t with f2 := _ } s0 hR ?_ ?_))⟩
   ·exact Kd.qEU q3 (fun b hb => Below.heap_setCell _ _ _ _ (by have := hg.2; show b ≠ gs; omega))
   ·exact Kd.qEU q4 (fun b hb => Below.heap_setCell _ _ _ _ (by have := hg.2; show b ≠ gs; omega))
  ·rw [if_pos rfl] at hcs hlt
   obtain rfl : w3 = .slice (some as_) t.f3.length cs := by
    have h1 := hcell2 g4 _ _ rfl 3 w3 rfl
    rw [add_plain] at hcs
    exact zy (h1.symm.trans hcs)
   obtain ⟨gs, s, rfl, hg, hs, hfz, hty, hR, hG⟩ := node_put q3 hlt nn
   rw [add_plain]
   refine ⟨_, ⟨h3, i, y, hi, hfi, .inr (.inr ⟨k, t, s, rfl, hk, hfk, hs, rfl⟩)⟩, by rw [List.length_set], hfz, Kd.qEV q3 gs (by simp [Value.ownBlock]), rest gs r3.toNat 0 _ hg.1 hty hG (hupd2 _ gs _ (fun b hb => Below.heap_setCell _ _ _ _ hb) hg.1 (kArtI_mkM _ _ _ { t with f3 := _ } s0 ?_ hR ?_))⟩
   ·exact Kd.qEU q2 (fun b hb => Below.heap_setCell _ _ _ _ (by have := hg.2; show b ≠ gs; omega))
   ·obtain ⟨cells, hc⟩ := hty
    exact Kd.qB3 (Kd.qEU (Kd.qBW q4 hc (by decide)) (fun b hb => Below.heap_setCell _ _ _ _ hb.2)) (fun b hb => hb.1)
def putPost (l : List S49) (r0 r1 : ByteArray) (r2 r3 n : Int) (e : Ending) (W' : World) : Prop :=
 (∃ q, q ≠ 0 ∧ qBZ.f l = some q ∧ e = .returned (.tuple #[.slice none 0 0, .int .i64 q])) ∨ (qBZ.f l = some 0 ∧ ((qDH l r0 r1 r2 r3 = none ∧ e = .returned (.tuple #[.slice none 0 0, .int .i64 4])) ∨
  (qDH l r0 r1 r2 r3 ≠ none ∧ ∃ l', PutTo l r0 r1 r2 r3 n l' ∧ ((∃ q, q ≠ 0 ∧ qBZ.f l' = some q ∧ e = .returned (.tuple #[.slice none 0 0, .int .i64 q])) ∨ (qBZ.f l' = some 0 ∧ ∃ A c, e = .returned (.tuple #[.slice A l'.length c, .int .i64 0]) ∧ l'.length ≤ c ∧ Kd.C k49 W' A l'.length l')))))
set_option maxHeartbeats 4000000 in
set_option maxRecDepth 100000 in
theorem rate_Put.walk (A0 : Option Addr) (c0 : Nat) (l : List S49) (r0 r1 : ByteArray) (r2 r3 n : Int) (w : World) (hC : Kd.C k49 w A0 l.length l) (hl : l.length ≤ c0) (hs : Sm l) (hk : ∃ e, qBZ.f l = some e) (hT : ∀ l', PutTo l r0 r1 r2 r3 n l' → ∃ e, qBZ.f l' = some e) :
  Calls Tryz.prog 4 #[.slice A0 l.length c0, .agg #[.string r0, .string r1, .int .i64 r2, .int .i64 r3], .int .i64 n] w fun e W' => Below w.heap.size w W' ∧ putPost l r0 r1 r2 r3 n e W' := by
 obtain ⟨q, hq⟩ := hk
 have hB : Below w.heap.size w (w.alloc (.cells #[.string r0, .string r1, .int .i64 r2, .int .i64 r3] 25)) := qAA (Below.refl _ _) _
 have hblk : (w.alloc (.cells #[.string r0, .string r1, .int .i64 r2, .int .i64 r3] 25)).heap[w.heap.size]? = some (.cells #[.string r0, .string r1, .int .i64 r2, .int .i64 r3] 25) := heap_alloc_new w _
 have H1 := zq (qBZ.calls A0 c0 l q _ (Kd.qAB hC hB) hl hq)
 have HC := zq (And.intro hC (And.intro hB (And.intro hblk (And.intro hs (And.intro hT hq)))))
 clear hC hB hblk hs hT
 go_enter Tryz.func4, Tryz.ntmps4
 go_wp2_with fail
 refine H1.out.mono ?_
 rintro e W1 ⟨rfl, hb1⟩
 have HB1 := zq (qA7 HC.out.2.1 hb1)
 have hblk1 := (hb1.block _ (Gen.qAT HC.out.2.2.1)).trans HC.out.2.2.1
 clear H1 hb1
 by_cases h0 : q = 0
 ·subst h0
  have HP := zq (rate_Copy.walk A0 c0 l W1 (Kd.qAB HC.out.1 HB1.out) HC.out.2.2.2.1)
  have HK1 := zq hblk1
  clear hblk1
  go_wp2_with fail
  refine HP.out.mono ?_
  rintro e W2 ⟨A2, c2, rfl, hR2, hb2⟩
  have HB2 := zq (qA7 HB1.out hb2)
  have hblk2 := (hb2.block _ (Gen.qAT HK1.out)).trans HK1.out
  obtain ⟨A2', c2', hv, hlc, hC2⟩ := Kd.qE5 hR2.row
  obtain ⟨rfl, rfl⟩ : A2 = A2' ∧ c2 = c2' := by simpa using hv
  have HQ := zq (And.intro hR2 (And.intro hb2 hlc))
  have HL := zq (rate_place.walk A2 c2 l r0 r1 r2 r3 W2 hC2 hlc)
  have p0 := (qA1 hblk2 0).trans rfl
  have p1 := (qA1 hblk2 1).trans rfl
  have p2 := (qA1 hblk2 2).trans rfl
  have p3 := (qA1 hblk2 3).trans rfl
  clear hR2 hb2 hblk2 hv hlc hC2 HP
  go_wp2_with fail
  refine HL.out.mono ?_
  rintro e W3 ⟨hb3, (⟨rfl, hpl⟩ | ⟨a, n0, kd, rfl, hca, hpl, hpa⟩)⟩
  ·have HZ := zq (And.intro (qA7 HB2.out hb3) hpl)
   clear hb3 hpl p0 p1 p2 p3
   go_wp2_with fail
   go_ret2
   exact ⟨HZ.out.1, .inr ⟨HC.out.2.2.2.2.2, .inl ⟨HZ.out.2, rfl⟩⟩⟩
  ·obtain ⟨l', hto, hll, hfz, hba, hR3⟩ := put_at n ((Sep.sliceI 49 kActI).M_below (cs := [.slice A2 l.length c2]) ⟨_, rfl, HQ.out.1⟩ hb3 |> fun ⟨v, e1, r⟩ => by injection e1 with e1 _; subst e1; exact r) hpa
   obtain ⟨q2, hq2⟩ := HC.out.2.2.2.2.1 l' hto
   obtain ⟨A3, c3, hv, hlc3, hC3⟩ := Kd.qE5 hR3.row
   rw [hll] at hv
   obtain ⟨rfl, rfl⟩ : A2 = A3 ∧ c2 = c3 := by simpa using hv
   have HB3 : Below w.heap.size w (W3.setCell a (.int .i64 n)) := (qA7 HB2.out hb3).setCell (Nat.le_trans HB1.out.size hba) _
   have H2 := qBZ.calls A2 c2 l' q2 _ hC3 hlc3 hq2
   rw [hll] at H2
   have HH := zq H2
   have HY := zq (And.intro HB3 (And.intro hto (And.intro hpl (And.intro hC3 (And.intro hlc3 (And.intro hq2 hll))))))
   clear hto hpl hC3 hlc3 hq2 hll HB3 H2 hb3 hba hR3 hv hpa p0 p1 p2 p3 HL
   go_wp2_with fail
   refine HH.out.mono ?_
   rintro e W4 ⟨rfl, hb4⟩
   have hb5 := zq hb4
   clear hb4
   by_cases h2 : q2 = 0
   ·subst h2
    go_wp2_with fail
    go_ret2
    obtain ⟨y1, y2, y3, y4, y5, y6, y7⟩ := HY.out
    refine ⟨qA7 y1 hb5.out, .inr ⟨HC.out.2.2.2.2.2, .inr ⟨by rw [y3]; simp, _, y2, .inr ⟨y6, _, _, by rw [y7]; rfl, y5, Kd.qAB y4 hb5.out⟩⟩⟩⟩
   ·have hd : (q2 != 0) = true := by simpa using h2
    go_wp2_with fail
    go_ret2
    obtain ⟨y1, y2, y3, y4, y5, y6, y7⟩ := HY.out
    refine ⟨qA7 y1 hb5.out, .inr ⟨HC.out.2.2.2.2.2, .inr ⟨by rw [y3]; simp, _, y2, .inl ⟨_, h2, y6, rfl⟩⟩⟩⟩
 ·have hd : (q != 0) = true := by simpa using h0
  clear hblk1
  go_wp2_with fail
  go_ret2
  exact ⟨HB1.out, .inl ⟨q, h0, HC.out.2.2.2.2.2, rfl⟩⟩
set_option maxHeartbeats 8000000 in
set_option maxRecDepth 100000 in
theorem ratePuts.walk (A0 : Option Addr) (c0 : Nat) (l : List S49) (r0 r1 : ByteArray) (r2 r3 n : Int) (w : World) (hC : Kd.C k49 w A0 l.length l) (hl : l.length ≤ c0) (hs : Sm l) (q : Int) (hq : qBZ.f l = some q) (hp : ∃ k, qCE.f k = some true)
  (hP : q = 0 → ∃ pl vl, qC5.f l = some (pl, vl) ∧ ∃ k, qDM.f k pl r0 r1 r2 r3 = some (qDH l r0 r1 r2 r3).isSome) (hF : q = 0 → (qDH l r0 r1 r2 r3).isSome = true → FitsAt l r0 r1 r2 r3 ∧ ∀ l', PutTo l r0 r1 r2 r3 n l' → l' = l.map (actF r0 r1 r2 r3 n)) (hT : ∀ l', PutTo l r0 r1 r2 r3 n l' → ∃ e, qBZ.f l' = some e) (hb : (qD4 l).length ≤ 1099511627776) (hb' : (qD4 (l.map (actF r0 r1 r2 r3 n))).length ≤ 1099511627776) :
  Calls Tryz.prog 3 #[.slice A0 l.length c0, .agg #[.string r0, .string r1, .int .i64 r2, .int .i64 r3], .int .i64 n] w fun e W' => e = .returned (.bool true) ∧ Below w.heap.size w W' := by
 have hW : Below w.heap.size w (w.alloc (.cells #[.string r0, .string r1, .int .i64 r2, .int .i64 r3] 25)) := qAA (Below.refl _ _) _
 have hk0 : (w.alloc (.cells #[.string r0, .string r1, .int .i64 r2, .int .i64 r3] 25)).heap[w.heap.size]? = some (.cells #[.string r0, .string r1, .int .i64 r2, .int .i64 r3] 25) := heap_alloc_new w _
 have HC := zq (And.intro hC (And.intro hs (And.intro hl (And.intro hq hT))))
 have HP := zq hp
 have HQ := zq (And.intro hP hF)
 have HB := zq (And.intro hb hb')
 have HW := zq (And.intro hW hk0)
 clear hC hs hl hq hT hp hP hF hb hb' hW hk0
 go_enter Tryz.func3, Tryz.ntmps3
 go_wp2_with fail
 refine (rate_Put.walk A0 c0 l r0 r1 r2 r3 n _ (Kd.qAB HC.out.1 HW.out.1) HC.out.2.2.1 HC.out.2.1 ⟨q, HC.out.2.2.2.1⟩ HC.out.2.2.2.2).mono ?_
 rintro e W1 ⟨hb1, hpost⟩
 have hk1 := (hb1.block _ (Gen.qAT HW.out.2)).trans HW.out.2
 have H1 := zq (And.intro (qA7 HW.out.1 hb1) hk1)
 have H5 := zq (qBZ.calls A0 c0 l q W1 (Kd.qAB HC.out.1 H1.out.1) HC.out.2.2.1 HC.out.2.2.2.1)
 clear hb1 hk1
 rcases hpost with ⟨q', hq0, hq', rfl⟩ | ⟨hq0, ⟨hpl, rfl⟩ | ⟨hpl, l', hto, hres⟩⟩
 ·obtain rfl : q' = q := zy (hq'.symm.trans HC.out.2.2.2.1)
  have hd : (q' == 0) = false := by simpa using hq0
  clear hq'
  go_wp2_with fail
  refine H5.out.mono ?_
  rintro e W2 ⟨rfl, hb2⟩
  have H2 := zq (qA7 H1.out.1 hb2)
  clear hb2 H5
  go_wp2_with fail
  refine (qCE.calls _ true _ HP.out.choose_spec).mono ?_
  rintro e V1 ⟨rfl, hv1⟩
  have HV1 := zq (And.intro hv1 (qA7 H2.out hv1))
  clear hv1
  go_wp2_with fail
  refine (qFE.walk none none 0 0 [] V1 (Kd.qAB (Kd.C_nil _ _) HV1.out.1) (Kd.qAB (Kd.C_nil _ _) HV1.out.1) (by simp [qD4])).mono ?_
  rintro e V2 ⟨rfl, hv2⟩
  have HV2 := zq (qA7 HV1.out.2 hv2)
  clear hv2
  go_wp2_with fail
  refine (rate_Copy.walk A0 c0 l V2 (Kd.qAB HC.out.1 HV2.out) HC.out.2.1).mono ?_
  rintro e V3 ⟨A9, c9, rfl, hr9, hv3⟩
  obtain ⟨A8, c8, e8, hl8, hC8⟩ := Kd.qE5 hr9.row
  injection e8 with e81 e82 e83
  subst e81
  subst e83
  have HV3 := zq (And.intro hC8 (qA7 HV2.out hv3))
  clear hv3 hr9 hC8 e82
  go_wp2_with fail
  refine (qFE.walk A9 A0 c9 c0 l V3 HV3.out.1 (Kd.qAB HC.out.1 HV3.out.2) HB.out.1).mono ?_
  rintro e V4 ⟨rfl, hv4⟩
  have HV4 := zq (qA7 HV3.out.2 hv4)
  clear hv4
  go_wp2_with fail
  go_ret
  exact ⟨rfl, HV4.out⟩
 ·have hd : (none : Option (Int × Int)).isSome = false := rfl
  obtain rfl : q = 0 := zy (HC.out.2.2.2.1.symm.trans hq0)
  obtain ⟨pl, vl, hPf, kc, hct⟩ := HQ.out.1 rfl
  rw [hpl] at hct
  clear hq0
  have HCt := zq (And.intro hPf hct)
  clear hPf hct
  go_wp2_with fail
  refine H5.out.mono ?_
  rintro e W2 ⟨rfl, hb2⟩
  have hk2 := (hb2.block _ (Gen.qAT H1.out.2)).trans H1.out.2
  have H2 := zq (And.intro (qA7 H1.out.1 hb2) (And.intro hb2 hk2))
  clear hb2 H5 hk2
  go_wp2_with fail
  refine (qC5.calls A0 c0 l pl vl W2 (Kd.qAB HC.out.1 H2.out.1) HC.out.2.2.1 HCt.out.1).mono ?_
  rintro e W3 ⟨v0, v1, rfl, hR0, -, hb3⟩
  obtain ⟨A7, c7, rfl, hl7, hC7⟩ := Kd.qE5 hR0
  have hk3 := (hb3.block _ (Gen.qAT H2.out.2.2)).trans H2.out.2.2
  have p0 := (qA1 hk3 0).trans rfl
  have p1 := (qA1 hk3 1).trans rfl
  have p2 := (qA1 hk3 2).trans rfl
  have p3 := (qA1 hk3 3).trans rfl
  have H3 := zq (And.intro (qA7 H2.out.1 hb3) (And.intro hC7 (And.intro hl7 (And.intro (qA7 H2.out.2.1 hb3) hk3))))
  clear hR0 hb3 hk3 hC7 hl7
  go_wp2_with fail
  refine (qDM.calls kc A7 c7 pl r0 r1 r2 r3 _ W3 H3.out.2.1 H3.out.2.2.1 HCt.out.2).mono ?_
  rintro e W4 ⟨rfl, hb4⟩
  have H4 := zq (qA7 H3.out.1 hb4)
  clear hb4 p0 p1 p2 p3
  go_wp2_with fail
  refine (qCE.calls _ true _ HP.out.choose_spec).mono ?_
  rintro e V1 ⟨rfl, hv1⟩
  have HV1 := zq (And.intro hv1 (qA7 H4.out hv1))
  clear hv1
  go_wp2_with fail
  refine (qFE.walk none none 0 0 [] V1 (Kd.qAB (Kd.C_nil _ _) HV1.out.1) (Kd.qAB (Kd.C_nil _ _) HV1.out.1) (by simp [qD4])).mono ?_
  rintro e V2 ⟨rfl, hv2⟩
  have HV2 := zq (qA7 HV1.out.2 hv2)
  clear hv2
  go_wp2_with fail
  refine (rate_Copy.walk A0 c0 l V2 (Kd.qAB HC.out.1 HV2.out) HC.out.2.1).mono ?_
  rintro e V3 ⟨A9, c9, rfl, hr9, hv3⟩
  obtain ⟨A8, c8, e8, hl8, hC8⟩ := Kd.qE5 hr9.row
  injection e8 with e81 e82 e83
  subst e81
  subst e83
  have HV3 := zq (And.intro hC8 (qA7 HV2.out hv3))
  clear hv3 hr9 hC8 e82
  go_wp2_with fail
  refine (qFE.walk A9 A0 c9 c0 l V3 HV3.out.1 (Kd.qAB HC.out.1 HV3.out.2) HB.out.1).mono ?_
  rintro e V4 ⟨rfl, hv4⟩
  have HV4 := zq (qA7 HV3.out.2 hv4)
  clear hv4
  go_wp2_with fail
  go_ret
  exact ⟨rfl, HV4.out⟩
 ·rcases hres with ⟨q2, hq2, hc2, rfl⟩ | ⟨hc2, A4, c4, rfl, hl4, hC4⟩
  ·have hpz : (qDH l r0 r1 r2 r3).isSome = true := Option.isSome_iff_ne_none.2 hpl
   clear hpl
   have HF := zq (And.intro (HQ.out.2 (zy (HC.out.2.2.2.1.symm.trans hq0)) hpz).1 (And.intro ((HQ.out.2 (zy (HC.out.2.2.2.1.symm.trans hq0)) hpz).2 l' hto) (show l.length = l'.length by rw [(HQ.out.2 (zy (HC.out.2.2.2.1.symm.trans hq0)) hpz).2 l' hto, List.length_map])))
   clear hto
   have H8 := zq (And.intro hc2 hc2)
   have hd2 : (q2 == 0) = false := by simpa using hq2
   clear hc2
   obtain rfl : q = 0 := zy (HC.out.2.2.2.1.symm.trans hq0)
   obtain ⟨pl, vl, hPf, kc, hct⟩ := HQ.out.1 rfl
   rw [hpz] at hct
   clear hq0
   have HCt := zq (And.intro hPf hct)
   clear hPf hct
   go_wp2_with fail
   refine H5.out.mono ?_
   rintro e W2 ⟨rfl, hb2⟩
   have hk2 := (hb2.block _ (Gen.qAT H1.out.2)).trans H1.out.2
   have H2 := zq (And.intro (qA7 H1.out.1 hb2) (And.intro hb2 hk2))
   clear hb2 H5 hk2
   go_wp2_with fail
   refine (qC5.calls A0 c0 l pl vl W2 (Kd.qAB HC.out.1 H2.out.1) HC.out.2.2.1 HCt.out.1).mono ?_
   rintro e W3 ⟨v0, v1, rfl, hR0, -, hb3⟩
   obtain ⟨A7, c7, rfl, hl7, hC7⟩ := Kd.qE5 hR0
   have hk3 := (hb3.block _ (Gen.qAT H2.out.2.2)).trans H2.out.2.2
   have p0 := (qA1 hk3 0).trans rfl
   have p1 := (qA1 hk3 1).trans rfl
   have p2 := (qA1 hk3 2).trans rfl
   have p3 := (qA1 hk3 3).trans rfl
   have H3 := zq (And.intro (qA7 H2.out.1 hb3) (And.intro hC7 (And.intro hl7 (And.intro (qA7 H2.out.2.1 hb3) hk3))))
   clear hR0 hb3 hk3 hC7 hl7
   go_wp2_with fail
   refine (qDM.calls kc A7 c7 pl r0 r1 r2 r3 _ W3 H3.out.2.1 H3.out.2.2.1 HCt.out.2).mono ?_
   rintro e W4 ⟨rfl, hb4⟩
   have hk4 := (hb4.block _ (Gen.qAT H3.out.2.2.2.2)).trans H3.out.2.2.2.2
   have p0 := (qA1 hk4 0).trans rfl
   have p1 := (qA1 hk4 1).trans rfl
   have p2 := (qA1 hk4 2).trans rfl
   have p3 := (qA1 hk4 3).trans rfl
   have H4 := zq (And.intro (qA7 H3.out.1 hb4) (qA7 H3.out.2.2.2.1 hb4))
   clear hb4 hk4
   go_wp2_with fail
   refine (mootref5_Changed.walk A0 c0 l r0 r1 r2 r3 n W4 (Kd.qAB HC.out.1 H4.out.1) HC.out.2.1 HF.out.1).mono ?_
   rintro e W5 ⟨hb5, A5, c5, he5, hl5, hC5⟩
   have hml := HF.out.2
   rw [← hml.1] at hC5
   rw [hml.2] at he5 hl5 hC5
   subst he5
   have H6 := zq (And.intro (qA7 H4.out.1 hb5) (And.intro hC5 (qA7 H4.out.2 hb5)))
   have H7 := zq (qBZ.calls A5 c5 l' q2 W5 hC5 hl5 H8.out.1)
   clear hb5 hC5 hl5 hml p0 p1 p2 p3
   go_wp2_with fail
   refine H7.out.mono ?_
   rintro e W6 ⟨rfl, hb6⟩
   clear H7
   have H9 := zq (qA7 H6.out.1 hb6)
   clear hb6
   go_wp2_with fail
   refine (qCE.calls _ true _ HP.out.choose_spec).mono ?_
   rintro e V1 ⟨rfl, hv1⟩
   have HV1 := zq (And.intro hv1 (qA7 H9.out hv1))
   clear hv1
   go_wp2_with fail
   refine (qFE.walk none none 0 0 [] V1 (Kd.qAB (Kd.C_nil _ _) HV1.out.1) (Kd.qAB (Kd.C_nil _ _) HV1.out.1) (by simp [qD4])).mono ?_
   rintro e V2 ⟨rfl, hv2⟩
   have HV2 := zq (qA7 HV1.out.2 hv2)
   clear hv2
   go_wp2_with fail
   refine (rate_Copy.walk A0 c0 l V2 (Kd.qAB HC.out.1 HV2.out) HC.out.2.1).mono ?_
   rintro e V3 ⟨A9, c9, rfl, hr9, hv3⟩
   obtain ⟨A8, c8, e8, hl8, hC8⟩ := Kd.qE5 hr9.row
   injection e8 with e81 e82 e83
   subst e81
   subst e83
   have HV3 := zq (And.intro hC8 (qA7 HV2.out hv3))
   clear hv3 hr9 hC8 e82
   go_wp2_with fail
   refine (qFE.walk A9 A0 c9 c0 l V3 HV3.out.1 (Kd.qAB HC.out.1 HV3.out.2) HB.out.1).mono ?_
   rintro e V4 ⟨rfl, hv4⟩
   have HV4 := zq (qA7 HV3.out.2 hv4)
   clear hv4
   go_wp2_with fail
   go_ret
   exact ⟨rfl, HV4.out⟩
  ·have hpz : (qDH l r0 r1 r2 r3).isSome = true := Option.isSome_iff_ne_none.2 hpl
   clear hpl
   have HF := zq (And.intro (HQ.out.2 (zy (HC.out.2.2.2.1.symm.trans hq0)) hpz).1 (And.intro ((HQ.out.2 (zy (HC.out.2.2.2.1.symm.trans hq0)) hpz).2 l' hto) (show l.length = l'.length by rw [(HQ.out.2 (zy (HC.out.2.2.2.1.symm.trans hq0)) hpz).2 l' hto, List.length_map])))
   clear hto
   have H8 := zq (And.intro hc2 (And.intro hl4 hC4))
   clear hc2 hl4 hC4
   obtain rfl : q = 0 := zy (HC.out.2.2.2.1.symm.trans hq0)
   obtain ⟨pl, vl, hPf, kc, hct⟩ := HQ.out.1 rfl
   rw [hpz] at hct
   clear hq0
   have HCt := zq (And.intro hPf hct)
   clear hPf hct
   go_wp2_with fail
   refine H5.out.mono ?_
   rintro e W2 ⟨rfl, hb2⟩
   have hk2 := (hb2.block _ (Gen.qAT H1.out.2)).trans H1.out.2
   have H2 := zq (And.intro (qA7 H1.out.1 hb2) (And.intro hb2 hk2))
   clear hb2 H5 hk2
   go_wp2_with fail
   refine (qC5.calls A0 c0 l pl vl W2 (Kd.qAB HC.out.1 H2.out.1) HC.out.2.2.1 HCt.out.1).mono ?_
   rintro e W3 ⟨v0, v1, rfl, hR0, -, hb3⟩
   obtain ⟨A7, c7, rfl, hl7, hC7⟩ := Kd.qE5 hR0
   have hk3 := (hb3.block _ (Gen.qAT H2.out.2.2)).trans H2.out.2.2
   have p0 := (qA1 hk3 0).trans rfl
   have p1 := (qA1 hk3 1).trans rfl
   have p2 := (qA1 hk3 2).trans rfl
   have p3 := (qA1 hk3 3).trans rfl
   have H3 := zq (And.intro (qA7 H2.out.1 hb3) (And.intro hC7 (And.intro hl7 (And.intro (qA7 H2.out.2.1 hb3) hk3))))
   clear hR0 hb3 hk3 hC7 hl7
   go_wp2_with fail
   refine (qDM.calls kc A7 c7 pl r0 r1 r2 r3 _ W3 H3.out.2.1 H3.out.2.2.1 HCt.out.2).mono ?_
   rintro e W4 ⟨rfl, hb4⟩
   have hk4 := (hb4.block _ (Gen.qAT H3.out.2.2.2.2)).trans H3.out.2.2.2.2
   have p0 := (qA1 hk4 0).trans rfl
   have p1 := (qA1 hk4 1).trans rfl
   have p2 := (qA1 hk4 2).trans rfl
   have p3 := (qA1 hk4 3).trans rfl
   have H4 := zq (And.intro (qA7 H3.out.1 hb4) (qA7 H3.out.2.2.2.1 hb4))
   clear hb4 hk4
   go_wp2_with fail
   refine (mootref5_Changed.walk A0 c0 l r0 r1 r2 r3 n W4 (Kd.qAB HC.out.1 H4.out.1) HC.out.2.1 HF.out.1).mono ?_
   rintro e W5 ⟨hb5, A5, c5, he5, hl5, hC5⟩
   have hml := HF.out.2
   rw [← hml.1] at hC5
   rw [hml.2] at he5 hl5 hC5
   subst he5
   have H6 := zq (And.intro (qA7 H4.out.1 hb5) (And.intro hC5 (qA7 H4.out.2 hb5)))
   have H7 := zq (qBZ.calls A5 c5 l' 0 W5 hC5 hl5 H8.out.1)
   clear hb5 hC5 hl5 hml p0 p1 p2 p3
   go_wp2_with fail
   refine H7.out.mono ?_
   rintro e W6 ⟨rfl, hb6⟩
   clear H7
   have H9 := zq (And.intro (qA7 H6.out.1 hb6) (And.intro hb6 (qA7 H6.out.2.2 hb6)))
   clear hb6
   go_wp2_with fail
   refine (qCE.calls _ true _ HP.out.choose_spec).mono ?_
   rintro e V1 ⟨rfl, hv1⟩
   have HV1 := zq (And.intro hv1 (qA7 H9.out.1 hv1))
   clear hv1
   go_wp2_with fail
   refine (qFE.walk A4 A5 c4 c5 l' V1 (Kd.qAB (Kd.qAB H8.out.2.2 H9.out.2.2) HV1.out.1) (Kd.qAB (Kd.qAB H6.out.2.1 H9.out.2.1) HV1.out.1) (HF.out.2.1 ▸ HB.out.2)).mono ?_
   rintro e V2 ⟨rfl, hv2⟩
   have HV2 := zq (qA7 HV1.out.2 hv2)
   clear hv2
   go_wp2_with fail
   refine (rate_Copy.walk A0 c0 l V2 (Kd.qAB HC.out.1 HV2.out) HC.out.2.1).mono ?_
   rintro e V3 ⟨A9, c9, rfl, hr9, hv3⟩
   obtain ⟨A8, c8, e8, hl8, hC8⟩ := Kd.qE5 hr9.row
   injection e8 with e81 e82 e83
   subst e81
   subst e83
   have HV3 := zq (And.intro hC8 (qA7 HV2.out hv3))
   clear hv3 hr9 hC8 e82
   go_wp2_with fail
   refine (qFE.walk A9 A0 c9 c0 l V3 HV3.out.1 (Kd.qAB HC.out.1 HV3.out.2) HB.out.1).mono ?_
   rintro e V4 ⟨rfl, hv4⟩
   have HV4 := zq (qA7 HV3.out.2 hv4)
   clear hv4
   go_wp2_with fail
   go_ret
   exact ⟨rfl, HV4.out⟩
end
end Go.Proofs.YtfnejdbjekkadaaGreat.PRatePuts
end
