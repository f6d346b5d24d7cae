/- A part of the proof of RatePuts: texts that were printed, words, walks. No condition. -/
import Derived.Test.YtfnejdbjekkadaaGreatC5
import Derived.Test.YtfnejdbjekkadaaGreatC8
import Derived.BigQuiet
set_option linter.unusedVariables false
set_option linter.unusedSimpArgs false
section
namespace Go.Proofs.YtfnejdbjekkadaaGreat.PRatePuts
noncomputable section
open Go.RowKit Go.Proofs.YtfnejdbjekkadaaGreatW.PrintWords Go.Proofs.YtfnejdbjekkadaaGreatW.PrintLast Go.Proofs.YtfnejdbjekkadaaGreatW.PrintMore
set_option maxHeartbeats 8000000
set_option maxRecDepth 100000
theorem clActs {A : Option Addr} {c : Nat} {l : List S49} {w0 w : World} (hC : Kd.C k49 w0 A l.length l) (hl : l.length ≤ 1048576) (hB : Below w0.heap.size w0 w) : Calls Tryz.prog 25 #[.slice A l.length c] w (Sep.qEZ k49 49 w0 w l) :=
 Sep.qEZ.of 6 104 rfl cloneActs.walk cloneActs.nil (by decide) hC hl hB
theorem clAttrs {A : Option Addr} {c : Nat} {l : List S98} {w0 w : World} (hC : Kd.C k98 w0 A l.length l) (hl : l.length ≤ 1048576) (hB : Below w0.heap.size w0 w) : Calls Tryz.prog 34 #[.slice A l.length c] w (Sep.qEZ k98 98 w0 w l) :=
 Sep.qEZ.of 7 64 rfl qFT.walk qFT.nil (by decide) hC hl hB
theorem clTables {A : Option Addr} {c : Nat} {l : List S73} {w0 w : World} (hC : Kd.C k73 w0 A l.length l) (hl : l.length ≤ 1048576) (hB : Below w0.heap.size w0 w) : Calls Tryz.prog 26 #[.slice A l.length c] w (Sep.qEZ k73 73 w0 w l) :=
 Sep.qEZ.of 5 64 rfl qF7.walk qF7.nil (by decide) hC hl hB
theorem clArts {A : Option Addr} {c : Nat} {l : List S55} {w0 w : World} (hC : Kd.C k55 w0 A l.length l) (hl : l.length ≤ 1048576) (hB : Below w0.heap.size w0 w) : Calls Tryz.prog 27 #[.slice A l.length c] w (Sep.qEZ k55 55 w0 w l) :=
 Sep.qEZ.of 6 112 rfl cloneArts.walk cloneArts.nil (by decide) hC hl hB
theorem clStp {A : Option Addr} {c : Nat} {l : List S75} {w0 w : World} (hC : Kd.C k75 w0 A l.length l) (hl : l.length ≤ 1048576) (hB : Below w0.heap.size w0 w) : Calls Tryz.prog 28 #[.slice A l.length c] w (Sep.qEZ k75 75 w0 w l) :=
 Sep.qEZ.of 2 16 rfl cloneStp.walk cloneStp.nil (by decide) hC hl hB
theorem clNodes {A : Option Addr} {c : Nat} {l : List S79} {w0 w : World} (hC : Kd.C k79 w0 A l.length l) (hl : l.length ≤ 1048576) (hB : Below w0.heap.size w0 w) : Calls Tryz.prog 29 #[.slice A l.length c] w (Sep.qEZ k79 79 w0 w l) :=
 Sep.qEZ.of 5 64 rfl qFS.walk qFS.nil (by decide) hC hl hB
theorem clRefs {A : Option Addr} {c : Nat} {l : List S59} {w0 w : World} (hC : Kd.C k59 w0 A l.length l) (hl : l.length ≤ 1048576) (hB : Below w0.heap.size w0 w) : Calls Tryz.prog 36 #[.slice A l.length c] w (Sep.qEZ k59 59 w0 w l) :=
 Sep.qEZ.of 2 32 rfl qBU.walk qBU.nil (by decide) hC hl hB
set_option maxHeartbeats 4000000 in
set_option maxRecDepth 100000 in
theorem rate_nodes.walk (A0 : Option Addr) (c0 : Nat) (l : List S79) (w : World) (hC : Kd.C k79 w A0 l.length l) (hl : l.length ≤ 1048576) (hk : ∀ x ∈ l, x.f1.length ≤ 1048576) :
  Calls Tryz.prog 35 #[.slice A0 l.length c0] w fun e w' => ∃ A c, e = .returned (.slice A l.length c) ∧ Kd.R k79 79 w' w.heap.size (fun k => w.heap.size ≤ k) (.slice A l.length c) l ∧ Below w.heap.size w w' := by
 have HN := zq (clNodes (c := c0) hC hl (Below.refl _ w))
 clear hC
 go_enter Tryz.func35, Tryz.ntmps35
 go_wp2_with fail
 refine HN.out.mono ?_
 rintro e W1 ⟨Av, cv, inner, rfl, ho, hr, hB⟩
 have HI : ∃ s inner', Sep.qE3 k79 k79 79 w w.heap.size (.slice Av l.length cv) l l 0 s W1 inner' := ⟨_, _, Sep.qE3.start ho hr⟩
 have HA := zq (And.intro HI hB)
 clear HI hB ho hr HN
 go_wp2_with fail
 go_loopw [9] (fun i wr => ∃ k : Nat, k ≤ l.length ∧ i = .int .i64 k ∧ qA0 ((∃ s inner', Sep.qE3 k79 k79 79 w w.heap.size (.slice Av l.length cv) l l k s wr inner') ∧ Below w.heap.size w wr)) (fun i _ => l.length - (intOf i).toNat)
 case atStart => exact ⟨0, Nat.zero_le _, rfl, HA⟩
 case round =>
  obtain ⟨k, hk', rfl, HP⟩ := hrel
  clear HA
  by_cases hlt : k < l.length
  ·obtain ⟨⟨s, inner', HS⟩, HB⟩ := HP.out
   have hget : l[k]? = some (l.getD k z79) := by rw [List.getD_eq_getElem?_getD, List.getElem?_eq_getElem hlt]; rfl
   obtain ⟨A1, c1, hcs, hl1, hC1⟩ := k79_open (HS.old k _ (Nat.le_refl _) hget)
   have hlen := hk _ (List.mem_of_getElem? hget)
   generalize l.getD k z79 = y at *
   obtain ⟨g, cap, hv, -, -⟩ := HS.own.form (by omega)
   obtain ⟨rfl, rfl⟩ : Av = some ⟨g, 0, none⟩ ∧ cv = cap := by simpa using hv
   have h1 : wr.cell? ⟨g, k * 5 + 1, none⟩ = some (.slice A1 y.f1.length c1) := Sep.seg_cell HS.own hcs (q := 1) rfl
   have hcl := qCL.calls A1 c1 y.f1 y.f1 wr (Kd.qAB hC1 (show Below w.heap.size w wr from HB)) hl1 (by unfold qCL.f; exact if_pos (by omega))
   have HC := zq hcl
   have HX := zq (And.intro HS (And.intro HB (And.intro hcs hget)))
   clear hcl HS HB hcs hget hC1 HP
   go_wp2_with (first | (go_at_call 58; refine HC.out.mono ?_; rintro e W2 ⟨v1, rfl, hR, hB2⟩; obtain ⟨A2, c2, rfl⟩ := Kd.qBX hR; have h2 := qA2 hB2 h1; have h3 : W2.frozen? ⟨g, k * 5 + 1, none⟩ = false := (qBJ HX.out.1.own hB2).frozenAt _; have HR := zq (And.intro hR hB2); clear hR hB2 h1))
   go_roundw
   case rel =>
    obtain ⟨HS, HB, hcs, hget⟩ := HX.out
    obtain ⟨ho2, hg2⟩ := (qBJ HS.own HR.out.2).stored (k * 5 + 1) (.slice A2 y.f1.length c2)
    refine ⟨k + 1, by omega, by first | rfl | (simp; done) | rw [Int.natCast_add]; rfl, ⟨⟨_, _, HS.next hget ho2 (fun j hj => by exact (Sep.qCD (sz := 5) (by decide) _ j).trans (if_neg hj)) ?_ (fun q hq hne => ?_) ?_⟩, ?_⟩⟩
    ·have e_ := Sep.qCD (inner := inner') (sz := 5) (i := k) (q := 1) (by decide) (.slice A2 y.f1.length c2) k
     rw [if_pos rfl, show Sep.seg inner' 5 k = _ from hcs] at e_
     rw [show Sep.seg (inner'.set (k * 5 + 1) (.slice A2 y.f1.length c2)) k79.sz k = _ from e_]
     refine k79.M_lower (base := wr.heap.size) (by have := HB.size; omega) (k79_mkM _ _ _ y ?_)
     refine Kd.qAW (Kd.qB3 (Kd.qDK HR.out.1) (fun q hq => hq.2.1)) (fun q hq => ?_) _
     have := qD6 HS.own g (by simp [Value.ownBlock])
     show q ≠ g
     omega
    ·rw [Below.heap_setCell _ _ _ _ (by intro e; exact hne (by simp [Value.ownBlock, e]))]
     exact HR.out.2.block q hq
    ·have := HR.out.2.size; simpa using this
    ·exact (qA7 HB HR.out.2).setCell (qBR HS.own g (by simp [Value.ownBlock])) _
   case measure => show l.length - ((k : Int) + 1).toNat < l.length - (k : Int).toNat; omega
  ·obtain rfl : k = l.length := by omega
   obtain ⟨⟨s, inner', HS⟩, HB⟩ := HP.out
   have HZ := zq (And.intro (HS.done (Nat.le_refl _) rfl) HB)
   clear HP HB HS
   go_wp2_with fail
   go_ret
   exact ⟨_, _, rfl, HZ.out.1.row, HZ.out.2⟩
def kArtI : Kd S55 := Kd.iso (Kd.pair Kd.string (Kd.pair Kd.string (Sep.pairI (Kd.slice 79 k79) (Kd.pair (Kd.slice 79 k79) (Kd.pair (Kd.slice 59 k59) (Kd.int .i64)))))) (fun x : S55 => (x.f0, x.f1, x.f2, x.f3, x.f4, x.f5))
theorem kArtI_mkM (w : World) (base : Nat) (ok : Nat → Prop) (x : S55) {v2 v3 v4 : Value} (s : Nat) (g2 : k79.R 79 w base (fun k => ok k ∧ k < s) v2 x.f2) (g3 : k79.R 79 w base (fun k => ok k ∧ s ≤ k) v3 x.f3) (g4 : k59.R 59 w base (fun k => ok k ∧ s ≤ k) v4 x.f4) : kArtI.M w base ok x [.string x.f0, .string x.f1, v2, v3, v4, .int .i64 x.f5] :=
 ⟨[.string x.f0], [.string x.f1, v2, v3, v4, .int .i64 x.f5], rfl, rfl, ⟨[.string x.f1], [v2, v3, v4, .int .i64 x.f5], rfl, rfl, ⟨[v2], [v3, v4, .int .i64 x.f5], s, rfl, ⟨v2, rfl, g2⟩, ⟨[v3], [v4, .int .i64 x.f5], rfl, ⟨v3, rfl, g3⟩, ⟨[v4], [.int .i64 x.f5], rfl, ⟨v4, rfl, g4⟩, rfl⟩⟩⟩⟩⟩
theorem kArtI_openM {w : World} {base : Nat} {ok : Nat → Prop} {x : S55} {cs : List Value} (h : kArtI.M w base ok x cs) : ∃ v2 v3 v4 s, cs = [.string x.f0, .string x.f1, v2, v3, v4, .int .i64 x.f5] ∧ k79.R 79 w base (fun k => ok k ∧ k < s) v2 x.f2 ∧ k79.R 79 w base (fun k => ok k ∧ s ≤ k) v3 x.f3 ∧ k59.R 59 w base (fun k => ok k ∧ s ≤ k) v4 x.f4 := by
 obtain ⟨_, _, rfl, rfl, _, _, rfl, rfl, _, _, s, rfl, ⟨v2, rfl, g2⟩, _, _, rfl, ⟨v3, rfl, g3⟩, _, _, rfl, ⟨v4, rfl, g4⟩, rfl⟩ := h
 exact ⟨v2, v3, v4, s, rfl, g2, g3, g4⟩
def kActI : Kd S49 := Kd.iso (Kd.pair Kd.string (Kd.pair (Kd.int .i64) (Kd.pair (Kd.int .i64) (Kd.pair (Kd.slice 98 k98) (Kd.pair (Sep.sliceI 73 k73) (Sep.sliceI 55 kArtI)))))) (fun x : S49 => (x.f0, x.f1, x.f2, x.f3, x.f4, x.f5))
theorem kActI_mkM (w : World) (base : Nat) (ok : Nat → Prop) (x : S49) {v3 v4 v5 : Value} (g3 : k98.R 98 w base ok v3 x.f3) (g4 : Sep.RI k73 73 w base ok v4 x.f4) (g5 : Sep.RI kArtI 55 w base ok v5 x.f5) : kActI.M w base ok x [.string x.f0, .int .i64 x.f1, .int .i64 x.f2, v3, v4, v5] :=
 ⟨[.string x.f0], [.int .i64 x.f1, .int .i64 x.f2, v3, v4, v5], rfl, rfl, ⟨[.int .i64 x.f1], [.int .i64 x.f2, v3, v4, v5], rfl, rfl, ⟨[.int .i64 x.f2], [v3, v4, v5], rfl, rfl, ⟨[v3], [v4, v5], rfl, ⟨v3, rfl, g3⟩, ⟨[v4], [v5], rfl, ⟨v4, rfl, g4⟩, ⟨v5, rfl, g5⟩⟩⟩⟩⟩⟩
theorem kActI_openM {w : World} {base : Nat} {ok : Nat → Prop} {x : S49} {cs : List Value} (h : kActI.M w base ok x cs) : ∃ v3 v4 v5, cs = [.string x.f0, .int .i64 x.f1, .int .i64 x.f2, v3, v4, v5] ∧ k98.R 98 w base ok v3 x.f3 ∧ Sep.RI k73 73 w base ok v4 x.f4 ∧ Sep.RI kArtI 55 w base ok v5 x.f5 := by
 obtain ⟨_, _, rfl, rfl, _, _, rfl, rfl, _, _, rfl, rfl, _, _, rfl, ⟨v3, rfl, g3⟩, _, _, rfl, ⟨v4, rfl, g4⟩, ⟨v5, rfl, g5⟩⟩ := h
 exact ⟨v3, v4, v5, rfl, g3, g4, g5⟩
def Sm (b : List S49) : Prop := b.length ≤ 1048576 ∧ ∀ a ∈ b, a.f3.length ≤ 1048576 ∧ a.f4.length ≤ 1048576 ∧ a.f5.length ≤ 1048576 ∧ (∀ t ∈ a.f4, t.f4.length ≤ 1048576) ∧ ∀ x ∈ a.f5, (x.f2.length ≤ 1048576 ∧ ∀ n ∈ x.f2, n.f1.length ≤ 1048576) ∧ (x.f3.length ≤ 1048576 ∧ ∀ n ∈ x.f3, n.f1.length ≤ 1048576) ∧ x.f4.length ≤ 1048576
structure Mid (w wo W : World) (g n cap k : Nat) (y : S49) (inner : List Value) (v3 v4 v5 : Value) (i4 i5 : List Value) (s1 s2 : Nat) : Prop where
 r3 : k98.R 98 W wo.heap.size (fun q => q < s1) v3 y.f3
 o4 : W.ownsRow s1 73 5 v4 y.f4.length i4
 p4 : Reps (k73.K w) 5 y.f4 i4
 b4 : ∀ q, v4.ownBlock = some q → q < s2
 o5 : W.ownsRow s2 55 6 v5 y.f5.length i5
 p5 : Reps (k55.K w) 6 y.f5 i5
 s01 : wo.heap.size ≤ s1
 s12 : s1 ≤ s2
 s2W : s2 ≤ W.heap.size
 oo : W.ownsRow w.heap.size 49 6 (.slice (some ⟨g, 0, none⟩) n cap) n (((inner.set (k * 6 + 3) v3).set (k * 6 + 4) v4).set (k * 6 + 5) v5)
 gb : wo.grownBy W (some g)
 bl : Below w.heap.size w W
theorem Mid.of {w wr W2 W3 W4 : World} {g n cap k : Nat} {y : S49} {inner i3 i4 i5 : List Value} {v3 v4 v5 : Value} (hO : wr.ownsRow w.heap.size 49 6 (.slice (some ⟨g, 0, none⟩) n cap) n inner) (hB : Below w.heap.size w wr)
  (o3 : W2.ownsRow wr.heap.size 98 7 v3 y.f3.length i3) (p3 : Reps (k98.K w) 7 y.f3 i3) (b3 : Below wr.heap.size wr.drew W2) (o4 : W3.ownsRow W2.heap.size 73 5 v4 y.f4.length i4) (p4 : Reps (k73.K w) 5 y.f4 i4) (b4 : Below W2.heap.size W2 W3)
  (o5 : W4.ownsRow W3.heap.size 55 6 v5 y.f5.length i5) (p5 : Reps (k55.K w) 6 y.f5 i5) (b5 : Below W3.heap.size W3 W4) :
  Mid w wr (((W4.setCell ⟨g, k * 6 + 3, none⟩ v3).setCell ⟨g, k * 6 + 4, none⟩ v4).setCell ⟨g, k * 6 + 5, none⟩ v5) g n cap k y inner v3 v4 v5 i4 i5 W2.heap.size W3.heap.size := by
 have hg : g < wr.heap.size := qD6 hO g (by simp [Value.ownBlock])
 have hgb : w.heap.size ≤ g := qBR hO g (by simp [Value.ownBlock])
 have s3 : wr.heap.size ≤ W2.heap.size := b3.size
 have s4 := b4.size
 have s5 := b5.size
 have B : Below wr.heap.size wr W4 := qA7 (qA7 (⟨b3.os, b3.tape, b3.output, b3.size, b3.block⟩ : Below wr.heap.size wr W2) b4) b5
 obtain ⟨q1, g1⟩ := (qBJ hO B).stored (k * 6 + 3) v3
 obtain ⟨q2, g2⟩ := q1.stored (k * 6 + 4) v4
 obtain ⟨q3, g3⟩ := q2.stored (k * 6 + 5) v5
 have G : wr.grownBy _ (some g) := (((qAN B (some g)).trans g1).trans g2).trans g3
 have far : ∀ q, q ≠ g → (((W4.setCell ⟨g, k * 6 + 3, none⟩ v3).setCell ⟨g, k * 6 + 4, none⟩ v4).setCell ⟨g, k * 6 + 5, none⟩ v5).heap[q]? = W4.heap[q]? := fun q hq => by
  rw [Below.heap_setCell _ _ _ _ hq, Below.heap_setCell _ _ _ _ hq, Below.heap_setCell _ _ _ _ hq]
 refine ⟨?_, ?_, p4, fun q hq => qD6 o4 q hq, ?_, p5, s3, s4, by simpa using s5, q3, G, hB.grown G hB.size (fun q hq => by injection hq with hq; omega)⟩
 ·have r : k98.R 98 W2 wr.heap.size (fun q => wr.heap.size ≤ q ∧ q < W2.heap.size) v3 y.f3 := ⟨fun q hq => ⟨qBR o3 q hq, qD6 o3 q hq⟩, i3, o3, Reps.imp_ p3 (fun p c h => by rw [k98_open h]; exact k98_mkM _ _ _ p)⟩
  exact Kd.qB3 (Kd.qEU r (fun q hq => (far q (by omega)).trans ((b5.block q (by omega)).trans (b4.block q hq.2)))) (fun q hq => hq.2)
 ·exact qCY o4 (fun q hq => (far q (by have := qBR o4 q hq; omega)).trans (b5.block q (qD6 o4 q hq)))
 ·exact qCY o5 (fun q hq => far q (by have := qBR o5 q hq; omega))
structure TL (w wc wx : World) (v4 : Value) (l : List S73) (s1 j : Nat) : Prop where
 sw : ∃ s inner, Sep.qE3 k73 k73 73 w s1 v4 l l j s wx inner
 gb : wc.grownBy wx v4.ownBlock
 bl : Below w.heap.size w wx
theorem TL.next {w wc wx W2 : World} {g j n cap : Nat} {l : List S73} {t : S73} {s1 : Nat} {A4 A5 : Option Addr} {c4 c5 : Nat} {s : Nat → Nat} {inner i5 : List Value} (HS : Sep.qE3 k73 k73 73 w s1 (.slice (some ⟨g, 0, none⟩) n cap) l l j s wx inner) (hl : n = l.length) (hb1 : w.heap.size ≤ s1) (hb2 : s1 ≤ wx.heap.size)
  (hgb : wc.grownBy wx (some g)) (hbl : Below w.heap.size w wx) (hget : l[j]? = some t) (hcs : Sep.seg inner 5 j = [.string t.f0, .int .i64 t.f1, .int .i64 t.f2, .bool t.f3, .slice A4 t.f4.length c4])
  (o5 : W2.ownsRow wx.heap.size 75 2 (.slice A5 t.f4.length c5) t.f4.length i5) (p5 : Reps (k75.K w) 2 t.f4 i5) (b5 : Below wx.heap.size wx.drew W2) :
  TL w wc (W2.setCell ⟨g, j * 5 + 4, none⟩ (.slice A5 t.f4.length c5)) (.slice (some ⟨g, 0, none⟩) n cap) l s1 (j + 1) := by
 subst hl
 have B : Below wx.heap.size wx W2 := ⟨b5.os, b5.tape, b5.output, b5.size, b5.block⟩
 have hg : g < wx.heap.size := qD6 HS.own g (by simp [Value.ownBlock])
 have hgb' := qBR HS.own g (by simp [Value.ownBlock])
 obtain ⟨ho2, hg2⟩ := (qBJ HS.own B).stored (j * 5 + 4) (.slice A5 t.f4.length c5)
 have G : wx.grownBy _ (some g) := (qAN B (some g)).trans hg2
 refine ⟨⟨_, _, HS.next hget ho2 (fun i hi => (Sep.qCD (sz := 5) (by decide) _ i).trans (if_neg hi)) ?_ (fun q hq hne => ?_) (by simpa using B.size)⟩, by simpa [Value.ownBlock] using hgb.trans G, hbl.grown G hbl.size (fun q hq => by injection hq with hq; omega)⟩
 ·have e_ := Sep.qCD (inner := inner) (sz := 5) (i := j) (q := 4) (by decide) (.slice A5 t.f4.length c5) j
  rw [if_pos rfl, hcs] at e_
  rw [show Sep.seg (inner.set (j * 5 + 4) (.slice A5 t.f4.length c5)) k73.sz j = _ from e_]
  have r : k75.R 75 W2 wx.heap.size (fun q => wx.heap.size ≤ q) (.slice A5 t.f4.length c5) t.f4 := ⟨fun q hq => qBR o5 q hq, i5, o5, Reps.imp_ p5 (fun p c h => by rw [k75_open h]; exact k75_mkM _ _ _ p)⟩
  exact k73.M_lower (base := wx.heap.size) hb2 (k73_mkM _ _ _ t (Kd.qB3 (Kd.qAW (Kd.qB3 (Kd.qDK r) (fun q hq => hq.2.1)) (fun q hq => by show q ≠ g; omega) _) (fun q hq => hq)))
 ·rw [Below.heap_setCell _ _ _ _ (by intro e; exact hne (by simp [Value.ownBlock, e]))]
  exact B.block q hq
structure AL (w wc wx : World) (v5 : Value) (l : List S55) (s2 j : Nat) : Prop where
 sw : ∃ s inner, Sep.qE3 k55 kArtI 55 w s2 v5 l l j s wx inner
 gb : wc.grownBy wx v5.ownBlock
 bl : Below w.heap.size w wx
theorem AL.next {w wc wx W2 W3 W4 : World} {g j n cap : Nat} {l : List S55} {t : S55} {s2 : Nat} {v2 v3 v4 : Value} {B2 B3 B4 : Value} {s : Nat → Nat} {inner i5 : List Value} (HS : Sep.qE3 k55 kArtI 55 w s2 (.slice (some ⟨g, 0, none⟩) n cap) l l j s wx inner) (hl : n = l.length) (hb1 : w.heap.size ≤ s2) (hb2 : s2 ≤ wx.heap.size)
  (hgb : wc.grownBy wx (some g)) (hbl : Below w.heap.size w wx) (hget : l[j]? = some t) (hcs : Sep.seg inner 6 j = [.string t.f0, .string t.f1, B2, B3, B4, .int .i64 t.f5])
  (r2 : k79.R 79 W2 wx.heap.size (fun q => wx.heap.size ≤ q) v2 t.f2) (b2 : Below wx.heap.size wx.drew W2) (r3 : k79.R 79 W3 W2.heap.size (fun q => W2.heap.size ≤ q) v3 t.f3) (b3 : Below W2.heap.size W2 W3)
  (o5 : W4.ownsRow W3.heap.size 59 2 v4 t.f4.length i5) (p5 : Reps (k59.K w) 2 t.f4 i5) (b4 : Below W3.heap.size W3 W4) :
  AL w wc (((W4.setCell ⟨g, j * 6 + 2, none⟩ v2).setCell ⟨g, j * 6 + 3, none⟩ v3).setCell ⟨g, j * 6 + 4, none⟩ v4) (.slice (some ⟨g, 0, none⟩) n cap) l s2 (j + 1) := by
 subst hl
 have B2' : Below wx.heap.size wx W2 := ⟨b2.os, b2.tape, b2.output, b2.size, b2.block⟩
 have B : Below wx.heap.size wx W4 := qA7 (qA7 B2' b3) b4
 have s2' : wx.heap.size ≤ W2.heap.size := B2'.size
 have s3' := b3.size
 have s4' := b4.size
 have hg : g < wx.heap.size := qD6 HS.own g (by simp [Value.ownBlock])
 have hgb' := qBR HS.own g (by simp [Value.ownBlock])
 obtain ⟨q1, g1⟩ := (qBJ HS.own B).stored (j * 6 + 2) v2
 obtain ⟨q2, g2⟩ := q1.stored (j * 6 + 3) v3
 obtain ⟨q3, g3⟩ := q2.stored (j * 6 + 4) v4
 have G : wx.grownBy _ (some g) := (((qAN B (some g)).trans g1).trans g2).trans g3
 have far : ∀ q, q ≠ g → (((W4.setCell ⟨g, j * 6 + 2, none⟩ v2).setCell ⟨g, j * 6 + 3, none⟩ v3).setCell ⟨g, j * 6 + 4, none⟩ v4).heap[q]? = W4.heap[q]? := fun q hq => by
  rw [Below.heap_setCell _ _ _ _ hq, Below.heap_setCell _ _ _ _ hq, Below.heap_setCell _ _ _ _ hq]
 refine ⟨⟨_, _, HS.next hget q3 (fun i hi => ?_) ?_ (fun q hq hne => ?_) G.size⟩, by simpa [Value.ownBlock] using hgb.trans G, hbl.grown G hbl.size (fun q hq => by injection hq with hq; omega)⟩
 ·have e1 := Sep.qCD (inner := (inner.set (j * 6 + 2) v2).set (j * 6 + 3) v3) (sz := 6) (i := j) (q := 4) (by decide) v4 i
  have e2 := Sep.qCD (inner := inner.set (j * 6 + 2) v2) (sz := 6) (i := j) (q := 3) (by decide) v3 i
  have e3 := Sep.qCD (inner := inner) (sz := 6) (i := j) (q := 2) (by decide) v2 i
  rw [if_neg hi] at e1 e2 e3
  exact e1.trans (e2.trans e3)
 ·have e_ : Sep.seg (((inner.set (j * 6 + 2) v2).set (j * 6 + 3) v3).set (j * 6 + 4) v4) 6 j = [.string t.f0, .string t.f1, v2, v3, v4, .int .i64 t.f5] := by
   rw [Sep.qCD (by decide), if_pos rfl, Sep.qCD (by decide), if_pos rfl, Sep.qCD (by decide), if_pos rfl, hcs]; rfl
  rw [show Sep.seg (((inner.set (j * 6 + 2) v2).set (j * 6 + 3) v3).set (j * 6 + 4) v4) kArtI.sz j = _ from e_]
  have r4 : k59.R 59 W4 W3.heap.size (fun q => W3.heap.size ≤ q) v4 t.f4 := ⟨fun q hq => qBR o5 q hq, i5, o5, Reps.imp_ p5 (fun p c h => by rw [k59_open h]; exact k59_mkM _ _ _ p)⟩
  refine kArtI.M_lower (base := wx.heap.size) hb2 (kArtI_mkM _ _ _ t W2.heap.size ?_ ?_ ?_)
  ·refine Kd.qB3 (Kd.qEU (Kd.qDK r2) (fun q hq => ?_)) (fun q hq => ⟨hq.1, hq.2.2.1⟩)
   exact (far q (by omega)).trans ((b4.block q (by omega)).trans (b3.block q hq.2.2.1))
  ·refine Kd.qC3 (Kd.qB3 (Kd.qEU (Kd.qDK r3) (fun q hq => ?_)) (fun q hq => ⟨by omega, hq.1⟩)) s2'
   exact (far q (by omega)).trans (b4.block q hq.2.2.1)
  ·refine Kd.qC3 (Kd.qB3 (Kd.qEU (Kd.qDK r4) (fun q hq => ?_)) (fun q hq => ⟨by omega, by omega⟩)) (by omega)
   exact far q (by omega)
 ·rw [far q (by intro e; exact hne (by simp [Value.ownBlock, e]))]
  exact B.block q hq
theorem M_apart {α : Type} {d : Kd α} {e : Nat} {w w1 : World} {base : Nat} {ok : Nat → Prop} {x : α} {cs : List Value} {v : Value} (h : d.M w base ok x cs) (hty : ∀ k, v.ownBlock = some k → ∃ cells, w.heap[k]? = some (.cells cells e (0, 0))) (ht : ∀ q, q ∈ d.E → q ≠ e) (hg : w.grownBy w1 v.ownBlock) : d.M w1 base ok x cs := by
 refine d.M_mono (fun _ hk => hk.1) (d.M_move (fun k hk => hg.block k hk.2.2.1 (fun he => ?_)) (d.M_bound h))
 obtain ⟨_, _, _, q, hq, cells, hc⟩ := hk
 obtain ⟨cells', hc'⟩ := hty k he.symm
 rw [hc] at hc'
 injection hc' with hc'
 injection hc' with _ hc'
 exact ht q hq hc'
theorem Act.next {w wo wc wd W : World} {g n cap k : Nat} {l : List S49} {y : S49} {s : Nat → Nat} {inner i4 i5 : List Value} {v3 v4 v5 B3 B4 B5 : Value} {s1 s2 : Nat} (HS : Sep.qE3 k49 kActI 49 w w.heap.size (.slice (some ⟨g, 0, none⟩) n cap) l l k s wo inner) (hn : n = l.length) (hB : Below w.heap.size w wo) (hget : l[k]? = some y) (hcs : Sep.seg inner 6 k = [.string y.f0, .int .i64 y.f1, .int .i64 y.f2, B3, B4, B5])
  (HD : Mid w wo wc g n cap k y inner v3 v4 v5 i4 i5 s1 s2) (r4 : Sep.RI k73 73 wd s1 (fun q => s1 ≤ q) v4 y.f4) (gb4 : wc.grownBy wd v4.ownBlock) (r5 : Sep.RI kArtI 55 W s2 (fun q => s2 ≤ q) v5 y.f5) (gb5 : wd.grownBy W v5.ownBlock) :
  ∃ s' inner', Sep.qE3 k49 kActI 49 w w.heap.size (.slice (some ⟨g, 0, none⟩) n cap) l l (k + 1) s' W inner' := by
 subst hn
 have hg : g < wo.heap.size := qD6 HS.own g (by simp [Value.ownBlock])
 have h01 := HD.s01
 have h12 := HD.s12
 have h2W := HD.s2W
 have z4 := gb4.size
 have z5 := gb5.size
 have zw := hB.size
 have lo4 : ∀ q, q < s1 → some q ≠ v4.ownBlock := fun q hq e => by have := qBR HD.o4 q e.symm; omega
 have lo5 : ∀ q, q < s2 → some q ≠ v5.ownBlock := fun q hq e => by have := qBR HD.o5 q e.symm; omega
 have hi4 : ∀ q, s2 ≤ q → some q ≠ v4.ownBlock := fun q hq e => by have := HD.b4 q e.symm; omega
 have same : ∀ q, q < s1 → W.heap[q]? = wc.heap[q]? := fun q hq => (gb5.block q (by omega) (lo5 q (by omega))).trans (gb4.block q (by omega) (lo4 q hq))
 have e_ : Sep.seg (((inner.set (k * 6 + 3) v3).set (k * 6 + 4) v4).set (k * 6 + 5) v5) 6 k = [.string y.f0, .int .i64 y.f1, .int .i64 y.f2, v3, v4, v5] := by
  rw [Sep.qCD (by decide), if_pos rfl, Sep.qCD (by decide), if_pos rfl, Sep.qCD (by decide), if_pos rfl, hcs]; rfl
 refine ⟨_, _, HS.next hget (qCY HD.oo (fun q hq => ?_)) (fun i hi => ?_) ?_ (fun q hq hne => ?_) (Nat.le_trans HD.gb.size (Nat.le_trans z4 z5))⟩
 ·obtain rfl : g = q := by simpa [Value.ownBlock] using hq
  exact same g (by omega)
 ·have e1 := Sep.qCD (inner := (inner.set (k * 6 + 3) v3).set (k * 6 + 4) v4) (sz := 6) (i := k) (q := 5) (by decide) v5 i
  have e2 := Sep.qCD (inner := inner.set (k * 6 + 3) v3) (sz := 6) (i := k) (q := 4) (by decide) v4 i
  have e3 := Sep.qCD (inner := inner) (sz := 6) (i := k) (q := 3) (by decide) v3 i
  rw [if_neg hi] at e1 e2 e3
  exact e1.trans (e2.trans e3)
 ·rw [show Sep.seg (((inner.set (k * 6 + 3) v3).set (k * 6 + 4) v4).set (k * 6 + 5) v5) kActI.sz k = _ from e_]
  refine kActI_mkM _ _ _ y ?_ ?_ ?_
  ·exact Kd.qC3 (Kd.qB3 (Kd.qEU (Kd.qDK HD.r3) (fun q hq => same q hq.1)) (fun q hq => hq.2.1)) zw
  ·have h4 : (Sep.sliceI 73 k73).M wd s1 (fun q => s1 ≤ q) y.f4 [v4] := ⟨v4, rfl, r4⟩
   have hty : ∀ q, v5.ownBlock = some q → ∃ cells, wd.heap[q]? = some (.cells cells 55 (0, 0)) := fun q hq => by
    obtain ⟨cells, hc⟩ := qF6 HD.o5 q hq
    exact ⟨cells, (gb4.block q (qD6 HD.o5 q hq) (hi4 q (qBR HD.o5 q hq))).trans hc⟩
   obtain ⟨v, hv, h5⟩ := M_apart (e := 55) (v := v5) h4 hty (by decide) gb5
   injection hv with hv _
   subst hv
   exact (h5.lower (by omega)).mono (fun q hq => by omega)
  ·exact (r5.lower (by omega)).mono (fun q hq => by omega)
 ·have hqg : some q ≠ some g := fun e => hne (by simpa [Value.ownBlock] using e)
  exact (same q (by omega)).trans (HD.gb.block q hq hqg)
set_option maxHeartbeats 8000000 in
set_option maxRecDepth 100000 in
theorem rate_Copy.walk (A0 : Option Addr) (c0 : Nat) (l : List S49) (w : World) (hC : Kd.C k49 w A0 l.length l) (hl : Sm l) :
  Calls Tryz.prog 11 #[.slice A0 l.length c0] w fun e w' => ∃ A c, e = .returned (.slice A l.length c) ∧ Sep.RI kActI 49 w' w.heap.size (fun k => w.heap.size ≤ k) (.slice A l.length c) l ∧ Below w.heap.size w w' := by
 have HN := zq (clActs (c := c0) hC hl.1 (Below.refl _ w))
 have HL := zq hl.2
 have hln := hl.1
 clear hC hl
 go_enter Tryz.func11, Tryz.ntmps11
 go_wp2_with fail
 refine HN.out.mono ?_
 rintro e W1 ⟨Av, cv, inner, rfl, ho, hr, hB⟩
 have HI : ∃ s inner', Sep.qE3 k49 kActI 49 w w.heap.size (.slice Av l.length cv) l l 0 s W1 inner' := ⟨_, _, Sep.qE3.start ho hr⟩
 have HA := zq (And.intro HI hB)
 clear HI hB ho hr HN
 go_wp2_with fail
 go_loopw [13] (fun i wr => ∃ k : Nat, k ≤ l.length ∧ i = .int .i64 k ∧ qA0 ((∃ s inner', Sep.qE3 k49 kActI 49 w w.heap.size (.slice Av l.length cv) l l k s wr inner') ∧ Below w.heap.size w wr)) (fun i _ => l.length - (intOf i).toNat)
 case atStart => exact ⟨0, Nat.zero_le _, rfl, HA⟩
 case round =>
  obtain ⟨k, hk', rfl, HP⟩ := hrel
  clear HA
  by_cases hlt : k < l.length
  ·obtain ⟨⟨s, inner', HS⟩, HB⟩ := HP.out
   have hget : l[k]? = some (l.getD k z49) := by rw [List.getD_eq_getElem?_getD, List.getElem?_eq_getElem hlt]; rfl
   obtain ⟨A3, c3, A4, c4, A5, c5, hcs, hl3, hC3, hl4, hC4, hl5, hC5⟩ := k49_open (HS.old k _ (Nat.le_refl _) hget)
   obtain ⟨m3, m4, m5, mt, ma⟩ := HL.out _ (List.mem_of_getElem? hget)
   generalize l.getD k z49 = y at *
   obtain ⟨g, cap, hv, -, -⟩ := HS.own.form (by omega)
   obtain ⟨rfl, rfl⟩ : Av = some ⟨g, 0, none⟩ ∧ cv = cap := by simpa using hv
   have x3 : wr.cell? ⟨g, k * 6 + 3, none⟩ = some (.slice A3 y.f3.length c3) := Sep.seg_cell HS.own hcs (q := 3) rfl
   have x4 : wr.cell? ⟨g, k * 6 + 4, none⟩ = some (.slice A4 y.f4.length c4) := Sep.seg_cell HS.own hcs (q := 4) rfl
   have x5 : wr.cell? ⟨g, k * 6 + 5, none⟩ = some (.slice A5 y.f5.length c5) := Sep.seg_cell HS.own hcs (q := 5) rfl
   have H3 := fun W (hB : Below w.heap.size w W) => clAttrs (c := c3) hC3 m3 hB
   have H4 := fun W (hB : Below w.heap.size w W) => clTables (c := c4) hC4 m4 hB
   have H5 := fun W (hB : Below w.heap.size w W) => clArts (c := c5) hC5 m5 hB
   have HC := zq (And.intro H3 (And.intro H4 H5))
   have HX := zq (And.intro HS (And.intro HB (And.intro hcs hget)))
   have HM := zq (And.intro mt ma)
   clear HS HB hcs hget HP H3 H4 H5 hC3 hC4 hC5 mt ma
   go_upto_region 6 with (fail)
   go_cut [] (fun wc => ∃ v3 v4 v5 i4 i5 s1 s2, qA0 (Mid w wr wc g l.length cv k y inner' v3 v4 v5 i4 i5 s1 s2))
   case first =>
    refine Gate.begin (fun w_ => w_.cell? ⟨g, k * 6 + 3, none⟩ = some (.slice A3 y.f3.length c3) ∧ w_.cell? ⟨g, k * 6 + 4, none⟩ = some (.slice A4 y.f4.length c4) ∧ w_.cell? ⟨g, k * 6 + 5, none⟩ = some (.slice A5 y.f5.length c5)) 18 (by kernel_rfl) ?_
    refine Gate.g0 0 19 (.pointer (some ⟨g, k * 6, none⟩)) ⟨x3, x4, x5⟩ ?_
    refine Gate.g0 1 20 (.pointer (some ⟨g, k * 6, none⟩)) ⟨x3, x4, x5⟩ ?_
    refine Gate.g0 2 21 (.pointer (some ⟨g, k * 6, none⟩)) ⟨x3, x4, x5⟩ ?_
    refine Gate.g0 3 22 (.pointer (some ⟨g, k * 6, none⟩)) ⟨x3, x4, x5⟩ ?_
    refine Gate.g0 4 23 (.pointer (some ⟨g, k * 6, none⟩)) ⟨x3, x4, x5⟩ ?_
    refine Gate.g0 5 24 (.pointer (some ⟨g, k * 6 + 3, none⟩)) ⟨x3, x4, x5⟩ ?_
    refine Gate.gt 6 25 (.slice A3 y.f3.length c3) ⟨x3, x4, x5⟩ ?_
    refine Gate.g0 8 27 (.pointer (some ⟨g, k * 6, none⟩)) ⟨x3, x4, x5⟩ ?_
    refine Gate.g0 9 28 (.pointer (some ⟨g, k * 6, none⟩)) ⟨x3, x4, x5⟩ ?_
    refine Gate.g0 10 29 (.pointer (some ⟨g, k * 6 + 4, none⟩)) ⟨x3, x4, x5⟩ ?_
    refine Gate.gt 11 30 (.slice A4 y.f4.length c4) ⟨x3, x4, x5⟩ ?_
    refine Gate.g0 13 32 (.pointer (some ⟨g, k * 6, none⟩)) ⟨x3, x4, x5⟩ ?_
    refine Gate.g0 14 33 (.pointer (some ⟨g, k * 6, none⟩)) ⟨x3, x4, x5⟩ ?_
    refine Gate.g0 15 34 (.pointer (some ⟨g, k * 6 + 5, none⟩)) ⟨x3, x4, x5⟩ ?_
    refine Gate.gt 16 35 (.slice A5 y.f5.length c5) ⟨x3, x4, x5⟩ ?_
    refine Gate.gc 7 26 ?_
    refine (HC.out.1 _ (qDJ HX.out.2.1)).mono ?_
    rintro e W2 ⟨a3, b3, i3, rfl, ho3, hr3, hb3⟩
    have G3 := zq (And.intro ho3 (And.intro hr3 (And.intro hb3 (qA7 (qDJ HX.out.2.1) hb3))))
    replace x3 := qA2 hb3 x3
    replace x4 := qA2 hb3 x4
    replace x5 := qA2 hb3 x5
    clear ho3 hr3 hb3
    refine ⟨_, rfl, ⟨x3, x4, x5⟩, ?_⟩
    simp only [Act.put, List.setIfInBounds_toArray, List.set_cons_zero, List.set_cons_succ]
    refine Gate.gc 12 31 ?_
    refine (HC.out.2.1 _ G3.out.2.2.2).mono ?_
    rintro e W3 ⟨a4, b4, i4, rfl, ho4, hr4, hb4⟩
    have G4 := zq (And.intro ho4 (And.intro hr4 (And.intro hb4 (qA7 G3.out.2.2.2 hb4))))
    replace x3 := qA2 hb4 x3
    replace x4 := qA2 hb4 x4
    replace x5 := qA2 hb4 x5
    clear ho4 hr4 hb4
    refine ⟨_, rfl, ⟨x3, x4, x5⟩, ?_⟩
    simp only [Act.put, List.setIfInBounds_toArray, List.set_cons_zero, List.set_cons_succ]
    refine Gate.gc 17 36 ?_
    refine (HC.out.2.2 _ G4.out.2.2.2).mono ?_
    rintro e W4 ⟨a5, b5, i5, rfl, ho5, hr5, hb5⟩
    have OO := zq (qBJ (qBJ (qBJ HX.out.1.own.drew G3.out.2.2.1) G4.out.2.2.1) hb5)
    have f3 : W4.frozen? ⟨g, k * 6 + 3, none⟩ = false := OO.out.frozenAt _
    have f4 : W4.frozen? ⟨g, k * 6 + 4, none⟩ = false := OO.out.frozenAt _
    have f5 : W4.frozen? ⟨g, k * 6 + 5, none⟩ = false := OO.out.frozenAt _
    have G5 := zq (And.intro ho5 (And.intro hr5 (And.intro hb5 (qA7 G4.out.2.2.2 hb5))))
    replace x3 := qA2 hb5 x3
    replace x4 := qA2 hb5 x4
    replace x5 := qA2 hb5 x5
    clear ho5 hr5 hb5
    refine ⟨_, rfl, ⟨x3, x4, x5⟩, ?_⟩
    simp only [Act.put, List.setIfInBounds_toArray, List.set_cons_zero, List.set_cons_succ]
    refine Gate.gv 18 37 (.pointer (some ⟨g, k * 6, none⟩)) ?_
    refine Gate.gv 19 38 (.pointer (some ⟨g, k * 6 + 3, none⟩)) ?_
    refine Gate.gs 20 ?_
    refine Gate.gv 21 39 (.pointer (some ⟨g, k * 6, none⟩)) ?_
    refine Gate.gv 22 40 (.pointer (some ⟨g, k * 6 + 4, none⟩)) ?_
    refine Gate.gs 23 ?_
    refine Gate.gv 24 41 (.pointer (some ⟨g, k * 6, none⟩)) ?_
    refine Gate.gv 25 42 (.pointer (some ⟨g, k * 6 + 5, none⟩)) ?_
    refine Gate.gs 26 ?_
    refine Gate.done (by kernel_rfl) ?_ _
    go_wp2_with fail
    go_meet
    case rel => exact ⟨_, _, _, _, _, _, _, ⟨Mid.of HX.out.1.own HX.out.2.1 G3.out.1 G3.out.2.1 G3.out.2.2.1 G4.out.1 G4.out.2.1 G4.out.2.2.1 G5.out.1 G5.out.2.1 G5.out.2.2.1⟩⟩
   case rest =>
    obtain ⟨v3, v4, v5, i4, i5, s1, s2, HD⟩ := hcut
    clear x3 x4 x5 HC
    obtain ⟨B4, d4, rfl⟩ := own_slice HD.out.o4
    have x4 : wc.cell? ⟨g, k * 6 + 4, none⟩ = some (.slice B4 y.f4.length d4) := by
     have e_ : Sep.seg (((inner'.set (k * 6 + 3) v3).set (k * 6 + 4) (.slice B4 y.f4.length d4)).set (k * 6 + 5) v5) 6 k = [.string y.f0, .int .i64 y.f1, .int .i64 y.f2, v3, .slice B4 y.f4.length d4, v5] := by
      rw [Sep.qCD (by decide), if_pos rfl, Sep.qCD (by decide), if_pos rfl, Sep.qCD (by decide), if_pos rfl, show Sep.seg inner' 6 k = _ from HX.out.2.2.1]; rfl
     exact Sep.seg_cell HD.out.oo e_ (q := 4) rfl
    have HT : qA0 (TL w wc wc (.slice B4 y.f4.length d4) y.f4 s1 0) := ⟨⟨⟨_, _, Sep.qE3.start HD.out.o4 HD.out.p4⟩, World.grownBy.refl _ _, HD.out.bl⟩⟩
    go_wp2_with fail
    obtain ⟨wo, hwo⟩ : ∃ v, v = wr := ⟨_, rfl⟩
    subst hwo
    go_loopw [48] (fun i wx => ∃ j : Nat, j ≤ y.f4.length ∧ i = .int .i64 j ∧ qA0 (TL w wc wx (.slice B4 y.f4.length d4) y.f4 s1 j)) (fun i _ => y.f4.length - (intOf i).toNat)
    case atStart => exact ⟨0, Nat.zero_le _, rfl, HT⟩
    case round =>
     obtain ⟨j, hj, rfl, HT⟩ := hrel
     by_cases hjlt : j < y.f4.length
     ·obtain ⟨⟨sj, ij, HS⟩, hgb, hbl⟩ := HT.out
      have hget : y.f4[j]? = some (y.f4.getD j z73) := by rw [List.getD_eq_getElem?_getD, List.getElem?_eq_getElem hjlt]; rfl
      obtain ⟨As, cs, hcs, hls, hCs⟩ := k73_open (HS.old j _ (Nat.le_refl _) hget)
      have hm := HM.out.1 _ (List.mem_of_getElem? hget)
      generalize y.f4.getD j z73 = t at *
      obtain ⟨g4, cap4, hv, -, -⟩ := HS.own.form (by omega)
      obtain ⟨rfl, rfl⟩ : B4 = some ⟨g4, 0, none⟩ ∧ d4 = cap4 := by simpa using hv
      have hne : (some g : Option Nat) ≠ (Value.slice (some ⟨g4, 0, none⟩) y.f4.length d4).ownBlock := by
       have h1 := qBR HS.own g4 (by simp [Value.ownBlock])
       have h2 := qD6 HX.out.1.own g (by simp [Value.ownBlock])
       have h3 := HD.out.s01
       simp only [Value.ownBlock, ne_eq, Option.some.injEq]
       first | omega | (intro e; simp at e; omega)
      have q1 : wr.cell? ⟨g, k * 6 + 4, none⟩ = some (.slice (some ⟨g4, 0, none⟩) y.f4.length d4) := hgb.cell x4 hne
      have q2 : wr.cell? ⟨g4, j * 5 + 4, none⟩ = some (.slice As t.f4.length cs) := Sep.seg_cell HS.own hcs (q := 4) rfl
      have HCs := zq (fun W (hB : Below w.heap.size w W) => clStp (c := cs) hCs hm hB)
      have hs2 : s1 ≤ wr.heap.size := by have := HD.out.s12; have := HD.out.s2W; have := hgb.size; omega
      have HJ := zq (And.intro HS (And.intro hgb (And.intro hbl (And.intro hget (And.intro hcs hs2)))))
      clear HS hgb hbl hget hcs hCs hm HT hne hs2
      go_upto_region 10 with (fail)
      refine Gate.begin (fun w_ => w_.cell? ⟨g, k * 6 + 4, none⟩ = some (.slice (some ⟨g4, 0, none⟩) y.f4.length d4) ∧ w_.cell? ⟨g4, j * 5 + 4, none⟩ = some (.slice As t.f4.length cs)) 14 (by kernel_rfl) ?_
      refine Gate.g0 0 51 (.pointer (some ⟨g, k * 6, none⟩)) ⟨q1, q2⟩ ?_
      refine Gate.g0 1 52 (.pointer (some ⟨g, k * 6, none⟩)) ⟨q1, q2⟩ ?_
      refine Gate.g0 2 53 (.pointer (some ⟨g, k * 6 + 4, none⟩)) ⟨q1, q2⟩ ?_
      refine Gate.gt 3 54 (.slice (some ⟨g4, 0, none⟩) y.f4.length d4) ⟨q1, q2⟩ ?_
      refine Gate.g0 4 55 (.int .i64 (j : Int)) ⟨q1, q2⟩ ?_
      refine Gate.g0 5 56 (.pointer (some ⟨g, k * 6, none⟩)) ⟨q1, q2⟩ ?_
      refine Gate.g0 6 57 (.pointer (some ⟨g, k * 6, none⟩)) ⟨q1, q2⟩ ?_
      refine Gate.g0 7 58 (.pointer (some ⟨g, k * 6 + 4, none⟩)) ⟨q1, q2⟩ ?_
      refine Gate.gt 8 59 (.slice (some ⟨g4, 0, none⟩) y.f4.length d4) ⟨q1, q2⟩ ?_
      refine Gate.g0 9 60 (.int .i64 (j : Int)) ⟨q1, q2⟩ ?_
      refine Gate.g0 10 61 (.pointer (some ⟨g4, j * 5, none⟩)) ⟨q1, q2⟩ ?_
      refine Gate.g0 11 62 (.pointer (some ⟨g4, j * 5 + 4, none⟩)) ⟨q1, q2⟩ ?_
      refine Gate.gt 12 63 (.slice As t.f4.length cs) ⟨q1, q2⟩ ?_
      refine Gate.gc 13 64 ?_
      refine (HCs.out _ (qDJ HJ.out.2.2.1)).mono ?_
      rintro e W5 ⟨a5, b5, i5, rfl, ho5, hr5, hb5⟩
      replace q1 := qA2 hb5 q1
      replace q2 := qA2 hb5 q2
      have f4 : W5.frozen? ⟨g4, j * 5 + 4, none⟩ = false := (qBJ HJ.out.1.own.drew hb5).frozenAt _
      have G5 := zq (And.intro ho5 (And.intro hr5 hb5))
      clear ho5 hr5 hb5
      refine ⟨_, rfl, ⟨q1, q2⟩, ?_⟩
      simp only [Act.put, List.setIfInBounds_toArray, List.set_cons_zero, List.set_cons_succ]
      refine Gate.gv 14 65 (.pointer (some ⟨g4, j * 5, none⟩)) ?_
      refine Gate.gv 15 66 (.pointer (some ⟨g4, j * 5 + 4, none⟩)) ?_
      refine Gate.gs 16 ?_
      refine Gate.done (by kernel_rfl) ?_ _
      go_wp2_with fail
      go_roundw
      case rel =>
       obtain ⟨HS, hgb, hbl, hget, hcs, hs2⟩ := HJ.out
       exact ⟨j + 1, by omega, by first | rfl | (simp; done) | rw [Int.natCast_add]; rfl, ⟨TL.next HS rfl (Nat.le_trans HX.out.2.1.size HD.out.s01) hs2 hgb hbl hget hcs G5.out.1 G5.out.2.1 G5.out.2.2⟩⟩
      case measure => show y.f4.length - ((j : Int) + 1).toNat < y.f4.length - (j : Int).toNat; omega
     ·obtain rfl : j = y.f4.length := by omega
      obtain ⟨⟨sj, ij, HS⟩, hgb, hbl⟩ := HT.out
      obtain ⟨B5, d5, rfl⟩ := own_slice HD.out.o5
      have z5 : wc.cell? ⟨g, k * 6 + 5, none⟩ = some (.slice B5 y.f5.length d5) := by
       have e_ : Sep.seg (((inner'.set (k * 6 + 3) v3).set (k * 6 + 4) (.slice B4 y.f4.length d4)).set (k * 6 + 5) (.slice B5 y.f5.length d5)) 6 k = [.string y.f0, .int .i64 y.f1, .int .i64 y.f2, v3, .slice B4 y.f4.length d4, .slice B5 y.f5.length d5] := by
        rw [Sep.qCD (by decide), if_pos rfl, Sep.qCD (by decide), if_pos rfl, Sep.qCD (by decide), if_pos rfl, show Sep.seg inner' 6 k = _ from HX.out.2.2.1]; rfl
       exact Sep.seg_cell HD.out.oo e_ (q := 5) rfl
      have hne4 : ∀ q, q < s1 → some q ≠ (Value.slice B4 y.f4.length d4).ownBlock := fun q hq e => by have := qBR HD.out.o4 q e.symm; omega
      have hne5 : ∀ q, s2 ≤ q → some q ≠ (Value.slice B4 y.f4.length d4).ownBlock := fun q hq e => by have := HD.out.b4 q e.symm; omega
      have hgs : g < s1 := by have h2 := qD6 HX.out.1.own g (by simp [Value.ownBlock]); have h3 := HD.out.s01; omega
      have x5 : wr.cell? ⟨g, k * 6 + 5, none⟩ = some (.slice B5 y.f5.length d5) := hgb.cell z5 (hne4 g hgs)
      have HA : qA0 (AL w wr wr (.slice B5 y.f5.length d5) y.f5 s2 0) := ⟨⟨⟨_, _, Sep.qE3.start (qCY HD.out.o5 (fun q hq => hgb.block q (qD6 HD.out.o5 q hq) (hne5 q (qBR HD.out.o5 q hq)))) HD.out.p5⟩, World.grownBy.refl _ _, hbl⟩⟩
      have HE := zq (And.intro (HS.done (Nat.le_refl _) rfl) (And.intro hgb (And.intro hgs (And.intro hne4 hne5))))
      have hwl : wc.heap.size ≤ wr.heap.size := hgb.size
      have hsl : s2 ≤ wr.heap.size := Nat.le_trans HD.out.s2W hwl
      clear HS hgb hbl HT z5 hne4 hne5 x4
      go_wp2_with fail
      obtain ⟨wd, hwd⟩ : ∃ v, v = wr := ⟨_, rfl⟩
      subst hwd
      go_loopw [73] (fun i wx => ∃ m : Nat, m ≤ y.f5.length ∧ i = .int .i64 m ∧ qA0 (AL w wd wx (.slice B5 y.f5.length d5) y.f5 s2 m)) (fun i _ => y.f5.length - (intOf i).toNat)
      case atStart => exact ⟨0, Nat.zero_le _, rfl, HA⟩
      case round =>
       clear HA
       obtain ⟨m, hj, rfl, HA⟩ := hrel
       by_cases hmlt : m < y.f5.length
       ·obtain ⟨⟨sm, im, HS⟩, hgb, hbl⟩ := HA.out
        have hget : y.f5[m]? = some (y.f5.getD m z55) := by rw [List.getD_eq_getElem?_getD, List.getElem?_eq_getElem hmlt]; rfl
        obtain ⟨D2, e2, D3, e3, D4, e4, hcs, hl2, hC2, hl3, hC3, hl4, hC4⟩ := k55_open (HS.old m _ (Nat.le_refl _) hget)
        obtain ⟨⟨n2, n2'⟩, ⟨n3, n3'⟩, n4⟩ := HM.out.2 _ (List.mem_of_getElem? hget)
        generalize y.f5.getD m z55 = t at *
        obtain ⟨g5, cap5, hv, -, -⟩ := HS.own.form (by omega)
        obtain ⟨rfl, rfl⟩ : B5 = some ⟨g5, 0, none⟩ ∧ d5 = cap5 := by simpa using hv
        have hg5 : (some g : Option Nat) ≠ (Value.slice (some ⟨g5, 0, none⟩) y.f5.length d5).ownBlock := fun e => by
         have h1 := qBR HS.own g e.symm
         have h3 := HD.out.s12
         omega
        have q1 : wr.cell? ⟨g, k * 6 + 5, none⟩ = some (.slice (some ⟨g5, 0, none⟩) y.f5.length d5) := hgb.cell x5 hg5
        have x3 : wr.cell? ⟨g5, m * 6 + 2, none⟩ = some (.slice D2 t.f2.length e2) := Sep.seg_cell HS.own hcs (q := 2) rfl
        have x4 : wr.cell? ⟨g5, m * 6 + 3, none⟩ = some (.slice D3 t.f3.length e3) := Sep.seg_cell HS.own hcs (q := 3) rfl
        have x6 : wr.cell? ⟨g5, m * 6 + 4, none⟩ = some (.slice D4 t.f4.length e4) := Sep.seg_cell HS.own hcs (q := 4) rfl
        have H3 := fun W (hB : Below w.heap.size w W) => rate_nodes.walk D2 e2 t.f2 W (Kd.qAB hC2 hB) n2 n2'
        have H4 := fun W (hB : Below w.heap.size w W) => rate_nodes.walk D3 e3 t.f3 W (Kd.qAB hC3 hB) n3 n3'
        have H5 := fun W (hB : Below w.heap.size w W) => clRefs (c := e4) hC4 n4 hB
        have HC := zq (And.intro H3 (And.intro H4 H5))
        have hs2 : s2 ≤ wr.heap.size := Nat.le_trans hsl hgb.size
        have HJ := zq (And.intro HS (And.intro hgb (And.intro hbl (And.intro hget (And.intro hcs hs2)))))
        clear HS hgb hbl hget hcs hC2 hC3 hC4 H3 H4 H5 n2 n2' n3 n3' n4 HA hg5 hs2
        go_upto_region 16 with (fail)
        refine Gate.begin (fun w_ => w_.cell? ⟨g5, m * 6 + 2, none⟩ = some (.slice D2 t.f2.length e2) ∧ w_.cell? ⟨g5, m * 6 + 3, none⟩ = some (.slice D3 t.f3.length e3) ∧ w_.cell? ⟨g5, m * 6 + 4, none⟩ = some (.slice D4 t.f4.length e4)) 18 (by kernel_rfl) ?_
        refine Gate.g0 0 82 (.pointer (some ⟨g5, m * 6, none⟩)) ⟨x3, x4, x6⟩ ?_
        refine Gate.g0 1 83 (.pointer (some ⟨g5, m * 6, none⟩)) ⟨x3, x4, x6⟩ ?_
        refine Gate.g0 2 84 (.pointer (some ⟨g5, m * 6, none⟩)) ⟨x3, x4, x6⟩ ?_
        refine Gate.g0 3 85 (.pointer (some ⟨g5, m * 6, none⟩)) ⟨x3, x4, x6⟩ ?_
        refine Gate.g0 4 86 (.pointer (some ⟨g5, m * 6, none⟩)) ⟨x3, x4, x6⟩ ?_
        refine Gate.g0 5 87 (.pointer (some ⟨g5, m * 6 + 2, none⟩)) ⟨x3, x4, x6⟩ ?_
        refine Gate.gt 6 88 (.slice D2 t.f2.length e2) ⟨x3, x4, x6⟩ ?_
        refine Gate.g0 8 90 (.pointer (some ⟨g5, m * 6, none⟩)) ⟨x3, x4, x6⟩ ?_
        refine Gate.g0 9 91 (.pointer (some ⟨g5, m * 6, none⟩)) ⟨x3, x4, x6⟩ ?_
        refine Gate.g0 10 92 (.pointer (some ⟨g5, m * 6 + 3, none⟩)) ⟨x3, x4, x6⟩ ?_
        refine Gate.gt 11 93 (.slice D3 t.f3.length e3) ⟨x3, x4, x6⟩ ?_
        refine Gate.g0 13 95 (.pointer (some ⟨g5, m * 6, none⟩)) ⟨x3, x4, x6⟩ ?_
        refine Gate.g0 14 96 (.pointer (some ⟨g5, m * 6, none⟩)) ⟨x3, x4, x6⟩ ?_
        refine Gate.g0 15 97 (.pointer (some ⟨g5, m * 6 + 4, none⟩)) ⟨x3, x4, x6⟩ ?_
        refine Gate.gt 16 98 (.slice D4 t.f4.length e4) ⟨x3, x4, x6⟩ ?_
        refine Gate.gc 7 89 ?_
        refine (HC.out.1 _ (qDJ HJ.out.2.2.1)).mono ?_
        rintro e W2 ⟨a3, b3, rfl, hr3, hb3⟩
        replace x3 := qA2 hb3 x3
        replace x4 := qA2 hb3 x4
        replace x6 := qA2 hb3 x6
        have G3 := zq (And.intro hr3 (And.intro hb3 (qA7 (qDJ HJ.out.2.2.1) hb3)))
        clear hr3 hb3
        refine ⟨_, rfl, ⟨x3, x4, x6⟩, ?_⟩
        simp only [Act.put, List.setIfInBounds_toArray, List.set_cons_zero, List.set_cons_succ]
        refine Gate.gc 12 94 ?_
        refine (HC.out.2.1 _ G3.out.2.2).mono ?_
        rintro e W3 ⟨a4, b4, rfl, hr4, hb4⟩
        replace x3 := qA2 hb4 x3
        replace x4 := qA2 hb4 x4
        replace x6 := qA2 hb4 x6
        have G4 := zq (And.intro hr4 (And.intro hb4 (qA7 G3.out.2.2 hb4)))
        clear hr4 hb4
        refine ⟨_, rfl, ⟨x3, x4, x6⟩, ?_⟩
        simp only [Act.put, List.setIfInBounds_toArray, List.set_cons_zero, List.set_cons_succ]
        refine Gate.gc 17 99 ?_
        refine (HC.out.2.2 _ G4.out.2.2).mono ?_
        rintro e W4 ⟨a5, b5, i5', rfl, ho5, hr5, hb5⟩
        replace x3 := qA2 hb5 x3
        replace x4 := qA2 hb5 x4
        replace x6 := qA2 hb5 x6
        have OO := zq (qBJ (qBJ (qBJ HJ.out.1.own.drew G3.out.2.1) G4.out.2.1) hb5)
        have f3 : W4.frozen? ⟨g5, m * 6 + 2, none⟩ = false := OO.out.frozenAt _
        have f4 : W4.frozen? ⟨g5, m * 6 + 3, none⟩ = false := OO.out.frozenAt _
        have f5 : W4.frozen? ⟨g5, m * 6 + 4, none⟩ = false := OO.out.frozenAt _
        have G5 := zq (And.intro ho5 (And.intro hr5 hb5))
        clear ho5 hr5 hb5
        refine ⟨_, rfl, ⟨x3, x4, x6⟩, ?_⟩
        simp only [Act.put, List.setIfInBounds_toArray, List.set_cons_zero, List.set_cons_succ]
        refine Gate.gv 18 100 (.pointer (some ⟨g5, m * 6, none⟩)) ?_
        refine Gate.gv 19 101 (.pointer (some ⟨g5, m * 6 + 2, none⟩)) ?_
        refine Gate.gs 20 ?_
        refine Gate.gv 21 102 (.pointer (some ⟨g5, m * 6, none⟩)) ?_
        refine Gate.gv 22 103 (.pointer (some ⟨g5, m * 6 + 3, none⟩)) ?_
        refine Gate.gs 23 ?_
        refine Gate.gv 24 104 (.pointer (some ⟨g5, m * 6, none⟩)) ?_
        refine Gate.gv 25 105 (.pointer (some ⟨g5, m * 6 + 4, none⟩)) ?_
        refine Gate.gs 26 ?_
        refine Gate.done (by kernel_rfl) ?_ _
        go_wp2_with fail
        go_roundw
        case rel =>
         obtain ⟨HS, hgb, hbl, hget, hcs, hs2⟩ := HJ.out
         exact ⟨m + 1, by omega, by first | rfl | (simp; done) | rw [Int.natCast_add]; rfl, ⟨AL.next HS rfl (Nat.le_trans HX.out.2.1.size (Nat.le_trans HD.out.s01 HD.out.s12)) hs2 hgb hbl hget hcs G3.out.1 G3.out.2.1 G4.out.1 G4.out.2.1 G5.out.1 G5.out.2.1 G5.out.2.2⟩⟩
        case measure => show y.f5.length - ((m : Int) + 1).toNat < y.f5.length - (m : Int).toNat; omega
       ·obtain rfl : m = y.f5.length := by omega
        obtain ⟨⟨sm, im, HS⟩, hgb, hbl⟩ := HA.out
        have HZ := zq (And.intro (Act.next HX.out.1 rfl HX.out.2.1 HX.out.2.2.2 HX.out.2.2.1 HD.out HE.out.1 HE.out.2.1 (HS.done (Nat.le_refl _) rfl) hgb) hbl)
        clear HS hgb hbl HA
        go_wp2_with fail
        go_roundw
        case rel => exact ⟨k + 1, by omega, by first | rfl | (simp; done) | rw [Int.natCast_add]; rfl, HZ⟩
        case measure => show l.length - ((k : Int) + 1).toNat < l.length - (k : Int).toNat; omega
  ·obtain rfl : k = l.length := by omega
   obtain ⟨⟨s, inner', HS⟩, HB⟩ := HP.out
   have HZ := zq (And.intro (HS.done (Nat.le_refl _) rfl) HB)
   clear HP HB HS
   go_wp2_with fail
   go_ret
   exact ⟨_, _, rfl, HZ.out.1, HZ.out.2⟩
def stepF (r2 n : Int) (s : S75) : S75 := if r2 = 2 then { s with f0 := n } else { s with f1 := n }
def tabF (r1 : ByteArray) (r2 r3 n : Int) (t : S73) : S73 := if 1 < r2 ∧ (t.f0.toList == r1.toList) = true then { t with f4 := t.f4.set r3.toNat (stepF r2 n (t.f4.getD r3.toNat z75)) } else t
def nodeF (n : Int) (s : S79) : S79 := { s with f3 := n }
def artF (r1 : ByteArray) (r2 r3 n : Int) (x : S55) : S55 := if r2 < 2 ∧ (x.f0.toList == r1.toList) = true then (if r2 = 1 then { x with f3 := x.f3.set r3.toNat (nodeF n (x.f3.getD r3.toNat z79)) } else { x with f2 := x.f2.set r3.toNat (nodeF n (x.f2.getD r3.toNat z79)) }) else x
def actF (r0 r1 : ByteArray) (r2 r3 n : Int) (a : S49) : S49 := if (a.f0.toList == r0.toList) = true then { a with f4 := a.f4.map (tabF r1 r2 r3 n), f5 := a.f5.map (artF r1 r2 r3 n) } else a
def FitsAt (l : List S49) (r0 r1 : ByteArray) (r2 r3 : Int) : Prop := 0 ≤ r3 ∧ ∀ a ∈ l, (a.f0.toList == r0.toList) = true → (1 < r2 → ∀ t ∈ a.f4, (t.f0.toList == r1.toList) = true → r3.toNat < t.f4.length) ∧ (r2 < 2 → ∀ x ∈ a.f5, (x.f0.toList == r1.toList) = true → r3.toNat < (if r2 = 1 then x.f3 else x.f2).length)
def kTabM (W0 : World) : Kd S73 := Kd.iso (Kd.pair Kd.string (Kd.pair (Kd.int .i64) (Kd.pair (Kd.int .i64) (Kd.pair Kd.bool (Kd.mix 75 k75 (Kd.fixed k75 W0) W0))))) (fun x : S73 => (x.f0, x.f1, x.f2, x.f3, x.f4))
theorem kTabM_mk {W0 w : World} {base : Nat} {ok : Nat → Prop} (x : S73) {v4 : Value} (h : (Kd.mix 75 k75 (Kd.fixed k75 W0) W0).M w base ok x.f4 [v4]) : (kTabM W0).M w base ok x [.string x.f0, .int .i64 x.f1, .int .i64 x.f2, .bool x.f3, v4] :=
 ⟨[.string x.f0], _, rfl, rfl, ⟨[.int .i64 x.f1], _, rfl, rfl, ⟨[.int .i64 x.f2], _, rfl, rfl, ⟨[.bool x.f3], _, rfl, rfl, h⟩⟩⟩⟩
theorem kTabM_came {W0 w : World} {base : Nat} {ok : Nat → Prop} {x : S73} {cs : List Value} (h : k73.K W0 x cs) : (kTabM W0).M w base ok x cs := by
 obtain ⟨A4, c4, rfl, hl, hC⟩ := k73_open h
 exact kTabM_mk x (Kd.qFY hl hC)
theorem kTabM_read {W0 w : World} (hb : Below W0.heap.size W0 w) (x : S73) (cs : List Value) (h : (kTabM W0).K w x cs) : k73.K w x cs := by
 obtain ⟨_, _, rfl, rfl, _, _, rfl, rfl, _, _, rfl, rfl, _, _, rfl, rfl, h⟩ := h
 obtain ⟨A, c, rfl, hl, hC⟩ := Kd.mix_read (d := k75) (dm := Kd.fixed k75 W0) (w0 := W0) (w := w) rfl (fun x cs h => k75.K_below hb h) hb h
 exact k73_mk w x hl hC
def kArtM (W0 : World) : Kd S55 := Kd.iso (Kd.pair Kd.string (Kd.pair Kd.string (Kd.pair (Kd.mix 79 k79 (Kd.fixed k79 W0) W0) (Kd.pair (Kd.mix 79 k79 (Kd.fixed k79 W0) W0) (Kd.pair (Kd.fixed (Kd.slice 59 k59) W0) (Kd.int .i64)))))) (fun x : S55 => (x.f0, x.f1, x.f2, x.f3, x.f4, x.f5))
theorem kArtM_mk {W0 w : World} {base : Nat} {ok : Nat → Prop} (x : S55) {v2 v3 : Value} {A4 : Option Addr} {c4 : Nat} (h2 : (Kd.mix 79 k79 (Kd.fixed k79 W0) W0).M w base ok x.f2 [v2]) (h3 : (Kd.mix 79 k79 (Kd.fixed k79 W0) W0).M w base ok x.f3 [v3]) (hl : x.f4.length ≤ c4) (h4 : k59.C W0 A4 x.f4.length x.f4) : (kArtM W0).M w base ok x [.string x.f0, .string x.f1, v2, v3, .slice A4 x.f4.length c4, .int .i64 x.f5] :=
 ⟨[.string x.f0], _, rfl, rfl, ⟨[.string x.f1], _, rfl, rfl, ⟨[v2], _, rfl, h2, ⟨[v3], _, rfl, h3, ⟨[.slice A4 x.f4.length c4], _, rfl, ⟨A4, c4, rfl, hl, h4⟩, rfl⟩⟩⟩⟩⟩
theorem kArtM_came {W0 w : World} {base : Nat} {ok : Nat → Prop} {x : S55} {cs : List Value} (h : k55.K W0 x cs) : (kArtM W0).M w base ok x cs := by
 obtain ⟨A2, c2, A3, c3, A4, c4, rfl, l2, h2, l3, h3, l4, h4⟩ := k55_open h
 exact kArtM_mk x (Kd.qFY l2 h2) (Kd.qFY l3 h3) l4 h4
theorem kArtM_read {W0 w : World} (hb : Below W0.heap.size W0 w) (x : S55) (cs : List Value) (h : (kArtM W0).K w x cs) : k55.K w x cs := by
 obtain ⟨_, _, rfl, rfl, _, _, rfl, rfl, _, _, rfl, h2, _, _, rfl, h3, _, _, rfl, ⟨A4, c4, rfl, l4, h4⟩, rfl⟩ := h
 obtain ⟨A2, c2, rfl, l2, h2⟩ := Kd.mix_read (d := k79) (dm := Kd.fixed k79 W0) (w0 := W0) (w := w) rfl (fun x cs h => k79.K_below hb h) hb h2
 obtain ⟨A3, c3, rfl, l3, h3⟩ := Kd.mix_read (d := k79) (dm := Kd.fixed k79 W0) (w0 := W0) (w := w) rfl (fun x cs h => k79.K_below hb h) hb h3
 exact k55_mk w x l2 h2 l3 h3 l4 (Kd.qAB h4 hb)
def kActM (W0 : World) : Kd S49 := Kd.iso (Kd.pair Kd.string (Kd.pair (Kd.int .i64) (Kd.pair (Kd.int .i64) (Kd.pair (Kd.fixed (Kd.slice 98 k98) W0) (Kd.pair (Kd.mix 73 k73 (kTabM W0) W0) (Kd.mix 55 k55 (kArtM W0) W0)))))) (fun x : S49 => (x.f0, x.f1, x.f2, x.f3, x.f4, x.f5))
theorem kActM_mk {W0 w : World} {base : Nat} {ok : Nat → Prop} (x : S49) {v4 v5 : Value} {A3 : Option Addr} {c3 : Nat} (hl : x.f3.length ≤ c3) (h3 : k98.C W0 A3 x.f3.length x.f3) (h4 : (Kd.mix 73 k73 (kTabM W0) W0).M w base ok x.f4 [v4]) (h5 : (Kd.mix 55 k55 (kArtM W0) W0).M w base ok x.f5 [v5]) : (kActM W0).M w base ok x [.string x.f0, .int .i64 x.f1, .int .i64 x.f2, .slice A3 x.f3.length c3, v4, v5] :=
 ⟨[.string x.f0], _, rfl, rfl, ⟨[.int .i64 x.f1], _, rfl, rfl, ⟨[.int .i64 x.f2], _, rfl, rfl, ⟨[.slice A3 x.f3.length c3], _, rfl, ⟨A3, c3, rfl, hl, h3⟩, ⟨[v4], [v5], rfl, h4, h5⟩⟩⟩⟩⟩
theorem kActM_came {W0 w : World} {base : Nat} {ok : Nat → Prop} {x : S49} {cs : List Value} (h : k49.K W0 x cs) : (kActM W0).M w base ok x cs := by
 obtain ⟨A3, c3, A4, c4, A5, c5, rfl, l3, h3, l4, h4, l5, h5⟩ := k49_open h
 exact kActM_mk x l3 h3 (Kd.qFY l4 h4) (Kd.qFY l5 h5)
theorem kActM_read {W0 w : World} (hb : Below W0.heap.size W0 w) (x : S49) (cs : List Value) (h : (kActM W0).K w x cs) : k49.K w x cs := by
 obtain ⟨_, _, rfl, rfl, _, _, rfl, rfl, _, _, rfl, rfl, _, _, rfl, ⟨A3, c3, rfl, l3, h3⟩, _, _, rfl, h4, h5⟩ := h
 obtain ⟨A4, c4, rfl, l4, h4⟩ := Kd.mix_read (d := k73) (dm := kTabM W0) rfl (kTabM_read hb) hb h4
 obtain ⟨A5, c5, rfl, l5, h5⟩ := Kd.mix_read (d := k55) (dm := kArtM W0) rfl (kArtM_read hb) hb h5
 exact k49_mk w x l3 (Kd.qAB h3 hb) l4 h4 l5 h5
theorem reps_set {α : Type} {R : α → List Value → Prop} {sz i q : Nat} {l : List α} {inner : List Value} {x x' : α} {u : Value} (hr : Reps R sz l inner) (hq : q < sz) (hi : l[i]? = some x) (h : ∀ cs, R x cs → R x' (cs.set q u)) : Reps R sz (l.set i x') (inner.set (i * sz + q) u) := by
 refine ⟨by rw [List.length_set, List.length_set]; exact hr.1, fun j p hp => ?_⟩
 have e_ := Sep.qCD (inner := inner) (i := i) hq u j
 unfold Sep.seg at e_
 rw [e_]
 by_cases hj : j = i
 ·subst hj
  rw [if_pos rfl]
  rw [List.getElem?_set_self (List.getElem?_eq_some_iff.1 hi).1] at hp
  obtain rfl := zy hp
  exact h _ (hr.2 j x hi)
 ·rw [if_neg hj]
  rw [List.getElem?_set_ne (fun e => hj e.symm)] at hp
  exact hr.2 j p hp
theorem row_set {α : Type} {d : Kd α} {e : Nat} {W W0 : World} {base g n cap i q : Nat} {l : List α} {inner : List Value} {x x' : α} {u : Value} (ho : W.ownsRow base e d.sz (.slice (some ⟨g, 0, none⟩) n cap) l.length inner) (hr : Reps (d.K W0) d.sz l inner) (hn : n = l.length) (hq : q < d.sz) (hi : l[i]? = some x) (h : ∀ cs, d.K W0 x cs → d.K W0 x' (cs.set q u)) :
  (Kd.fixed d W0).R e (W.setCell ⟨g, i * d.sz + q, none⟩ u) base (fun k => base ≤ k) (.slice (some ⟨g, 0, none⟩) n cap) (l.set i x') ∧ W.grownBy (W.setCell ⟨g, i * d.sz + q, none⟩ u) (some g) := by
 subst hn
 obtain ⟨h1, h2⟩ := ho.stored (i * d.sz + q) u
 exact ⟨⟨fun k hk => qBR h1 k hk, _, by rw [List.length_set]; exact h1, (reps_set hr hq hi h).imp_ (fun _ _ hp => hp)⟩, h2⟩
theorem getD_at {α : Type} {l : List α} {i : Nat} (z : α) (h : i < l.length) : l[i]? = some (l.getD i z) := by rw [List.getD_eq_getElem?_getD, List.getElem?_eq_getElem h]; rfl
structure CL {α : Type} (d dm : Kd α) (e : Nat) (W0 wd wx : World) (base : Nat) (v : Value) (xs ys : List α) (j : Nat) : Prop where
 sw : ∃ s inner, Sep.qE3 d dm e W0 base v xs ys j s wx inner
 gb : wd.grownBy wx v.ownBlock
 bl : Below W0.heap.size W0 wx
theorem CL.same {α : Type} {d dm : Kd α} {e : Nat} {W0 wd wx : World} {base : Nat} {v : Value} {xs ys : List α} {j n : Nat} {y : α} (h : CL d dm e W0 wd wx base v xs ys j) (hx : xs[j]? = some y) (hy : ys[j]? = some y) (hd : ∀ cs, d.K W0 y cs → dm.M (wx.drewN n) base (fun k => wx.heap.size ≤ k) y cs) (hs : dm.sz = d.sz) : CL d dm e W0 wd (wx.drewN n) base v xs ys (j + 1) := by
 obtain ⟨⟨s, inner, HS⟩, hgb, hbl⟩ := h
 have B : Below wx.heap.size wx (wx.drewN n) := qA8 (Below.refl _ _) n
 exact ⟨⟨_, _, HS.next hy (qBJ HS.own B) (fun _ _ => rfl) (hd _ (HS.old j y (Nat.le_refl _) hx)) (fun k hk _ => B.block k hk) B.size⟩, hgb.trans (qAN B _), qA8 hbl n⟩
theorem CL.put {α : Type} {d dm : Kd α} {e : Nat} {W0 wd wx W2 : World} {base g n cap q : Nat} {xs ys : List α} {j : Nat} {y : α} {s : Nat → Nat} {inner cs : List Value} {u : Value} (HS : Sep.qE3 d dm e W0 base (.slice (some ⟨g, 0, none⟩) n cap) xs ys j s wx inner) (hn : n = xs.length) (hgb : wd.grownBy wx (some g)) (hbl : Below W0.heap.size W0 wx) (hb : W0.heap.size ≤ base) (hq : q < dm.sz) (hy : ys[j]? = some y) (hcs : Sep.seg inner dm.sz j = cs)
  (ho : W2.ownsRow base e dm.sz (.slice (some ⟨g, 0, none⟩) n cap) n (inner.set (j * dm.sz + q) u)) (hG : wx.grownBy W2 (some g)) (hM : dm.M W2 base (fun k => wx.heap.size ≤ k) y (cs.set q u)) : CL d dm e W0 wd W2 base (.slice (some ⟨g, 0, none⟩) n cap) xs ys (j + 1) := by
 subst hn
 have hbg := qBR HS.own g (by simp [Value.ownBlock])
 refine ⟨⟨_, _, HS.next hy ho (fun i hi => (Sep.qCD hq u i).trans (if_neg hi)) ?_ (fun k hk hne => hG.block k hk (by intro e; exact hne (by simpa [Value.ownBlock] using e))) hG.size⟩, by simpa [Value.ownBlock] using hgb.trans hG, hbl.grown hG hbl.size (fun k hk => by injection hk with hk; omega)⟩
 rw [Sep.qCD hq u j, if_pos rfl, hcs]
 exact hM
theorem CL.drew {α : Type} {d dm : Kd α} {e : Nat} {W0 wd wx : World} {base : Nat} {v : Value} {xs ys : List α} {j : Nat} (h : CL d dm e W0 wd wx base v xs ys j) : CL d dm e W0 wd wx.drew base v xs ys j := by
 obtain ⟨⟨s, inner, HS⟩, hgb, hbl⟩ := h
 exact ⟨⟨s, inner, ⟨HS.own, HS.mono, HS.low, HS.top, fun j p h1 h2 => dm.M_move (w := wx) (w1 := wx.drew) (fun _ _ => rfl) (HS.new j p h1 h2), HS.old⟩⟩, ⟨hgb.os, hgb.tape, hgb.output, hgb.size, hgb.block⟩, hbl.drew⟩
theorem CL.made {α β : Type} {d dm : Kd α} {c : Kd β} {e e' : Nat} {W0 wd wr W5 : World} {base g g6 n b4 b6 j q p i : Nat} {xs ys : List α} {y : α} {s : Nat → Nat} {inner i6 cs : List Value} {l : List β} {z z' : β} {u : Value} (HS : Sep.qE3 d dm e W0 base (.slice (some ⟨g, 0, none⟩) n b4) xs ys j s wr inner) (hn : n = xs.length) (hgb : wd.grownBy wr (some g)) (hbl : Below W0.heap.size W0 wr) (hb : W0.heap.size ≤ base) (hw : base ≤ wr.heap.size) (hq : q < dm.sz) (hy : ys[j]? = some y) (hcs : Sep.seg inner dm.sz j = cs)
  (B5 : Below wr.heap.size wr W5) (o6 : W5.ownsRow wr.heap.size e' c.sz (.slice (some ⟨g6, 0, none⟩) l.length b6) l.length i6) (p6 : Reps (c.K W0) c.sz l i6) (hp : p < c.sz) (hi : l[i]? = some z) (hz : ∀ cs, c.K W0 z cs → c.K W0 z' (cs.set p u))
  (hM : ∀ W2 : World, (Kd.fixed c W0).R e' W2 base (fun k => wr.heap.size ≤ k) (.slice (some ⟨g6, 0, none⟩) l.length b6) (l.set i z') → dm.M W2 base (fun k => wr.heap.size ≤ k) y (cs.set q (.slice (some ⟨g6, 0, none⟩) l.length b6))) :
  CL d dm e W0 wd ((W5.setCell ⟨g, j * dm.sz + q, none⟩ (.slice (some ⟨g6, 0, none⟩) l.length b6)).setCell ⟨g6, i * c.sz + p, none⟩ u) base (.slice (some ⟨g, 0, none⟩) n b4) xs ys (j + 1) := by
 subst hn
 have hg : g < wr.heap.size := qD6 HS.own g (by simp [Value.ownBlock])
 have hg6 : wr.heap.size ≤ g6 := qBR o6 g6 (by simp [Value.ownBlock])
 obtain ⟨h1, h2⟩ := (qBJ HS.own B5).stored (j * dm.sz + q) (.slice (some ⟨g6, 0, none⟩) l.length b6)
 have h3 := o6.kept h2 (.inr (by simp [Value.ownBlock]; omega))
 obtain ⟨h4, h5⟩ := row_set h3 p6 rfl hp hi hz
 have hG : wr.grownBy _ (some g) := ((qAN B5 (some g)).trans h2).andThen h5 (fun k hk => by injection hk with hk; exact .inl (by omega))
 exact CL.put HS rfl hgb hbl hb hq hy hcs (own_setCell h1 (by simp [Value.ownBlock]; omega) u) hG (hM _ (Kd.qC3 h4 hw))
theorem Tab.put {W0 wd wr W5 : World} {base g g6 n b4 b6 j q : Nat} {xs : List S73} {t : S73} {s : Nat → Nat} {inner i6 : List Value} {As : Option Addr} {ca : Nat} {r1 : ByteArray} {r2 r3 nn : Int} (HS : Sep.qE3 k73 (kTabM W0) 73 W0 base (.slice (some ⟨g, 0, none⟩) n b4) xs (xs.map (tabF r1 r2 r3 nn)) j s wr inner) (hn : n = xs.length) (hgb : wd.grownBy wr (some g)) (hbl : Below W0.heap.size W0 wr) (hb : W0.heap.size ≤ base) (hw : base ≤ wr.heap.size) (hget : xs[j]? = some t) (hcs : Sep.seg inner 5 j = [.string t.f0, .int .i64 t.f1, .int .i64 t.f2, .bool t.f3, .slice As t.f4.length ca])
  (B5 : Below wr.heap.size wr W5) (o6 : W5.ownsRow wr.heap.size 75 2 (.slice (some ⟨g6, 0, none⟩) t.f4.length b6) t.f4.length i6) (p6 : Reps (k75.K W0) 2 t.f4 i6) (hlt : r3.toNat < t.f4.length) (h1 : 1 < r2) (hn1 : (t.f0.toList == r1.toList) = true) (hq : (q = 0 ∧ r2 = 2) ∨ (q = 1 ∧ ¬ r2 = 2)) :
  CL k73 (kTabM W0) 73 W0 wd ((W5.setCell ⟨g, j * 5 + 4, none⟩ (.slice (some ⟨g6, 0, none⟩) t.f4.length b6)).setCell ⟨g6, r3.toNat * 2 + q, none⟩ (.int .i64 nn)) base (.slice (some ⟨g, 0, none⟩) n b4) xs (xs.map (tabF r1 r2 r3 nn)) (j + 1) := by
 have ht : tabF r1 r2 r3 nn t = { t with f4 := t.f4.set r3.toNat (stepF r2 nn (t.f4.getD r3.toNat z75)) } := by rw [tabF, if_pos ⟨h1, hn1⟩]
 refine CL.made (c := k75) (dm := kTabM W0) (q := 4) (p := q) (i := r3.toNat) (y := { t with f4 := t.f4.set r3.toNat (stepF r2 nn (t.f4.getD r3.toNat z75)) }) (z := t.f4.getD r3.toNat z75) (z' := stepF r2 nn (t.f4.getD r3.toNat z75)) HS hn hgb hbl hb hw (by show 4 < 5; omega) (by rw [List.getElem?_map, hget, Option.map_some, ht]) hcs B5 o6 p6 (by show q < 2; omega) (getD_at _ hlt) (fun cs h => ?_) (fun W2 hR => ?_)
 ·obtain rfl := k75_open h
  rcases hq with ⟨rfl, h2⟩ | ⟨rfl, h2⟩
  ·rw [stepF, if_pos h2]; exact k75_mk _ _
  ·rw [stepF, if_neg h2]; exact k75_mk _ _
 ·exact kTabM_mk { t with f4 := _ } (by
   have := Kd.mix_made (d := k75) (w0 := W0) hR
   exact this)
theorem Art.put {W0 wd wr W5 : World} {base g g6 n b4 b6 j q : Nat} {xs : List S55} {t : S55} {s : Nat → Nat} {inner i6 : List Value} {A2 A3 A4 : Option Addr} {c2 c3 c4 : Nat} {r1 : ByteArray} {r2 r3 nn : Int} {L : List S79} (HS : Sep.qE3 k55 (kArtM W0) 55 W0 base (.slice (some ⟨g, 0, none⟩) n b4) xs (xs.map (artF r1 r2 r3 nn)) j s wr inner) (hn : n = xs.length) (hgb : wd.grownBy wr (some g)) (hbl : Below W0.heap.size W0 wr) (hb : W0.heap.size ≤ base) (hw : base ≤ wr.heap.size) (hget : xs[j]? = some t)
  (hcs : Sep.seg inner 6 j = [.string t.f0, .string t.f1, .slice A2 t.f2.length c2, .slice A3 t.f3.length c3, .slice A4 t.f4.length c4, .int .i64 t.f5]) (l2 : t.f2.length ≤ c2) (h2 : k79.C W0 A2 t.f2.length t.f2) (l3 : t.f3.length ≤ c3) (h3 : k79.C W0 A3 t.f3.length t.f3) (l4 : t.f4.length ≤ c4) (h4 : k59.C W0 A4 t.f4.length t.f4)
  (B5 : Below wr.heap.size wr W5) (o6 : W5.ownsRow wr.heap.size 79 5 (.slice (some ⟨g6, 0, none⟩) L.length b6) L.length i6) (p6 : Reps (k79.K W0) 5 L i6) (hlt : r3.toNat < L.length) (h1 : r2 < 2) (hn1 : (t.f0.toList == r1.toList) = true) (hq : (q = 2 ∧ ¬ r2 = 1 ∧ L = t.f2) ∨ (q = 3 ∧ r2 = 1 ∧ L = t.f3)) :
  CL k55 (kArtM W0) 55 W0 wd ((W5.setCell ⟨g, j * 6 + q, none⟩ (.slice (some ⟨g6, 0, none⟩) L.length b6)).setCell ⟨g6, r3.toNat * 5 + 3, none⟩ (.int .i64 nn)) base (.slice (some ⟨g, 0, none⟩) n b4) xs (xs.map (artF r1 r2 r3 nn)) (j + 1) := by
 refine CL.made (c := k79) (dm := kArtM W0) (q := q) (p := 3) (i := r3.toNat) (y := artF r1 r2 r3 nn t) (z := L.getD r3.toNat z79) (z' := nodeF nn (L.getD r3.toNat z79)) HS hn hgb hbl hb hw (by show q < 6; omega) (by rw [List.getElem?_map, hget, Option.map_some]) hcs B5 o6 p6 (by show 3 < 5; omega) (getD_at _ hlt) (fun cs h => ?_) (fun W2 hR => ?_)
 ·obtain ⟨A1, c1, rfl, hl1, hC1⟩ := k79_open h
  exact k79_mk _ (nodeF nn (L.getD r3.toNat z79)) hl1 hC1
 ·have hm := Kd.mix_made (d := k79) (w0 := W0) hR
  rcases hq with ⟨rfl, hr, rfl⟩ | ⟨rfl, hr, rfl⟩
  ·rw [artF, if_pos ⟨h1, hn1⟩, if_neg hr]
   exact kArtM_mk { t with f2 := t.f2.set r3.toNat (nodeF nn (t.f2.getD r3.toNat z79)) } hm (Kd.qFY l3 h3) l4 h4
  ·rw [artF, if_pos ⟨h1, hn1⟩, if_pos hr]
   exact kArtM_mk { t with f3 := t.f3.set r3.toNat (nodeF nn (t.f3.getD r3.toNat z79)) } (Kd.qFY l2 h2) hm l4 h4
theorem Act2.next {W0 wo W3 wd wr : World} {g n cap k s5 : Nat} {l : List S49} {y : S49} {s : Nat → Nat} {inner : List Value} {v4 v5 B4 B5 : Value} {A3 : Option Addr} {c3 : Nat} {r0 r1 : ByteArray} {r2 r3 nn : Int} (HS : Sep.qE3 k49 (kActM W0) 49 W0 W0.heap.size (.slice (some ⟨g, 0, none⟩) n cap) l (l.map (actF r0 r1 r2 r3 nn)) k s wo inner) (hn : n = l.length) (hB : Below W0.heap.size W0 wo) (hget : l[k]? = some y) (hnm : (y.f0.toList == r0.toList) = true)
  (hcs : Sep.seg inner 6 k = [.string y.f0, .int .i64 y.f1, .int .i64 y.f2, .slice A3 y.f3.length c3, B4, B5]) (hl3 : y.f3.length ≤ c3) (hC3 : k98.C W0 A3 y.f3.length y.f3) (B3 : Below wo.heap.size wo W3) (ws : wo.heap.size ≤ s5) (hty : ∀ q, v5.ownBlock = some q → s5 ≤ q ∧ ∃ cells, wd.heap[q]? = some (.cells cells 55 (0, 0)))
  (T : CL k73 (kTabM W0) 73 W0 W3 wd wo.heap.size v4 y.f4 (y.f4.map (tabF r1 r2 r3 nn)) y.f4.length) (A : CL k55 (kArtM W0) 55 W0 wd wr s5 v5 y.f5 (y.f5.map (artF r1 r2 r3 nn)) y.f5.length) :
  wr.frozen? ⟨g, k * 6 + 4, none⟩ = false ∧ wr.frozen? ⟨g, k * 6 + 5, none⟩ = false ∧ wr.cell? ⟨g, k * 6 + 4, none⟩ = some B4 ∧ wr.cell? ⟨g, k * 6 + 5, none⟩ = some B5 ∧
  (∃ s' inner', Sep.qE3 k49 (kActM W0) 49 W0 W0.heap.size (.slice (some ⟨g, 0, none⟩) n cap) l (l.map (actF r0 r1 r2 r3 nn)) (k + 1) s' ((wr.setCell ⟨g, k * 6 + 4, none⟩ v4).setCell ⟨g, k * 6 + 5, none⟩ v5) inner') ∧ Below W0.heap.size W0 ((wr.setCell ⟨g, k * 6 + 4, none⟩ v4).setCell ⟨g, k * 6 + 5, none⟩ v5) := by
 subst hn
 obtain ⟨⟨sT, iT, ST⟩, gT, bT⟩ := T
 obtain ⟨⟨sA, iA, SA⟩, gA, bA⟩ := A
 have hg : g < wo.heap.size := qD6 HS.own g (by simp [Value.ownBlock])
 have hgb := qBR HS.own g (by simp [Value.ownBlock])
 have zw := hB.size
 have z3 := B3.size
 have zT := gT.size
 have zA := gA.size
 have n4 : ∀ q, q < wo.heap.size → some q ≠ v4.ownBlock := fun q hq e => by have := qBR ST.own q e.symm; omega
 have n5 : ∀ q, q < wo.heap.size → some q ≠ v5.ownBlock := fun q hq e => by have := (hty q e.symm).1; omega
 have same : ∀ q, q < wo.heap.size → wr.heap[q]? = wo.heap[q]? := fun q hq => (gA.block q (by omega) (n5 q hq)).trans ((gT.block q (by omega) (n4 q hq)).trans (B3.block q hq))
 have ho : wr.ownsRow W0.heap.size 49 (kActM W0).sz (.slice (some ⟨g, 0, none⟩) l.length cap) l.length inner := qCY HS.own (fun q hq => by
  obtain rfl : g = q := by simpa [Value.ownBlock] using hq
  exact same g hg)
 obtain ⟨o1, g1⟩ := ho.stored (k * 6 + 4) v4
 obtain ⟨o2, g2⟩ := o1.stored (k * 6 + 5) v5
 have far : ∀ q, q ≠ g → ((wr.setCell ⟨g, k * 6 + 4, none⟩ v4).setCell ⟨g, k * 6 + 5, none⟩ v5).heap[q]? = wr.heap[q]? := fun q hq => by rw [Below.heap_setCell _ _ _ _ hq, Below.heap_setCell _ _ _ _ hq]
 have e_ : Sep.seg ((inner.set (k * 6 + 4) v4).set (k * 6 + 5) v5) 6 k = [.string y.f0, .int .i64 y.f1, .int .i64 y.f2, .slice A3 y.f3.length c3, v4, v5] := by
  rw [Sep.qCD (by decide), if_pos rfl, Sep.qCD (by decide), if_pos rfl, hcs]; rfl
 refine ⟨ho.frozenAt _, ho.frozenAt _, Sep.seg_cell ho hcs (q := 4) rfl, Sep.seg_cell ho hcs (q := 5) rfl, ⟨_, _, HS.next (by rw [List.getElem?_map, hget, Option.map_some]) o2 (fun i hi => ?_) ?_ (fun q hq hne => ?_) ?_⟩, bA.grown (g1.trans g2) bA.size (fun q hq => by injection hq with hq; omega)⟩
 ·have e1 := Sep.qCD (inner := inner.set (k * 6 + 4) v4) (sz := 6) (i := k) (q := 5) (by decide) v5 i
  have e2 := Sep.qCD (inner := inner) (sz := 6) (i := k) (q := 4) (by decide) v4 i
  rw [if_neg hi] at e1 e2
  exact e1.trans e2
 ·rw [show Sep.seg ((inner.set (k * 6 + 4) v4).set (k * 6 + 5) v5) (kActM W0).sz k = _ from e_, actF, if_pos hnm]
  have rT := (ST.done (by rw [List.length_map]; exact Nat.le_refl _) (List.length_map _)).row
  have rA := (SA.done (by rw [List.length_map]; exact Nat.le_refl _) (List.length_map _)).row
  refine kActM_mk { y with f4 := y.f4.map (tabF r1 r2 r3 nn), f5 := y.f5.map (artF r1 r2 r3 nn) } hl3 hC3 (Kd.mix_made (Kd.qC3 (Kd.qEU (Kd.R_over' rT (fun q hq => (hty q hq).2) (fun q hq => (by decide : ∀ q, q ∈ ([73, 75] : List Nat) → q ≠ 55) q hq) gA) (fun q hq => far q (by omega))) zw)) (Kd.mix_made (Kd.qC3 (Kd.qB3 (Kd.qEU rA (fun q hq => far q (by omega))) (fun q hq => by omega)) (by omega)))
 ·have hqg : q ≠ g := fun e => hne (by rw [e]; simp [Value.ownBlock])
  exact (far q hqg).trans (same q hq)
 ·simpa using (Nat.le_trans z3 (Nat.le_trans zT zA))
theorem Act2.fin {w W0 W : World} {Av : Option Addr} {cv : Nat} {s : Nat → Nat} {inner : List Value} {xs ys : List S49} (hl : ys.length = xs.length) (hw : Below w.heap.size w W0) (HS : Sep.qE3 k49 (kActM W0) 49 W0 W0.heap.size (.slice Av xs.length cv) xs ys xs.length s W inner) (HB : Below W0.heap.size W0 W) : k49.C W Av xs.length ys ∧ xs.length ≤ cv ∧ Below w.heap.size w W := by
 obtain ⟨A9, c9, hv, hlc, hC9⟩ := Kd.qE5 (HS.done (Nat.le_of_eq hl) hl).row
 injection hv with h1 h2 h3
 subst h1
 subst h3
 have hC8 : k49.C W Av ys.length ys := Kd.C_read (d := k49) (dm := kActM W0) rfl (kActM_read HB) hC9
 rw [hl] at hC8 hlc
 exact ⟨hC8, hlc, below_then hw hw.size HB⟩
set_option maxHeartbeats 8000000 in
set_option maxRecDepth 100000 in
theorem mootref5_Changed.walk (A0 : Option Addr) (c0 : Nat) (l : List S49) (r0 r1 : ByteArray) (r2 r3 n : Int) (w : World) (hC : Kd.C k49 w A0 l.length l) (hs : Sm l) (hF : FitsAt l r0 r1 r2 r3) :
  Calls Tryz.prog 8 #[.slice A0 l.length c0, .agg #[.string r0, .string r1, .int .i64 r2, .int .i64 r3], .int .i64 n] w fun e W' => Below w.heap.size w W' ∧ ∃ A c, e = .returned (.slice A l.length c) ∧ l.length ≤ c ∧ Kd.C k49 W' A l.length (l.map (actF r0 r1 r2 r3 n)) := by
 have hB : Below w.heap.size w (w.alloc (.cells #[.string r0, .string r1, .int .i64 r2, .int .i64 r3] 25)) := qAA (Below.refl _ _) _
 have hblk : (w.alloc (.cells #[.string r0, .string r1, .int .i64 r2, .int .i64 r3] 25)).heap[w.heap.size]? = some (.cells #[.string r0, .string r1, .int .i64 r2, .int .i64 r3] 25) := heap_alloc_new w _
 have H1 := zq (clActs (c := c0) (Kd.qAB hC hB) hs.1 (Below.refl _ _))
 have hln := hs.1
 have HL := zq (And.intro hs.2 hF)
 have HW := zq (And.intro hB hblk)
 clear hC hs hF hB hblk
 go_enter Tryz.func8, Tryz.ntmps8
 go_wp2_with fail
 refine H1.out.mono ?_
 rintro e W1 ⟨Av, cv, inner, rfl, ho, hr, hB⟩
 clear H1
 generalize hW0 : w.alloc (.cells #[.string r0, .string r1, .int .i64 r2, .int .i64 r3] 25) = W0 at *
 have HA : qA0 ((∃ s inner', Sep.qE3 k49 (kActM W0) 49 W0 W0.heap.size (.slice Av l.length cv) l (l.map (actF r0 r1 r2 r3 n)) 0 s W1 inner') ∧ Below W0.heap.size W0 W1) := ⟨⟨_, _, Sep.qE3.start ho hr⟩, hB⟩
 clear ho hr hB hW0
 go_wp2_with fail
 go_loopw [18] (fun i wr => ∃ k : Nat, k ≤ l.length ∧ i = .int .i64 k ∧ qA0 ((∃ s inner', Sep.qE3 k49 (kActM W0) 49 W0 W0.heap.size (.slice Av l.length cv) l (l.map (actF r0 r1 r2 r3 n)) k s wr inner') ∧ Below W0.heap.size W0 wr)) (fun i _ => l.length - (intOf i).toNat)
 case atStart => exact ⟨0, Nat.zero_le _, rfl, HA⟩
 case round =>
  obtain ⟨k, hk', rfl, HP⟩ := hrel
  clear HA
  by_cases hlt : k < l.length
  ·obtain ⟨⟨s, inner', HS⟩, HB⟩ := HP.out
   have hget := getD_at z49 hlt
   obtain ⟨A3, c3, A4, c4, A5, c5, hcs, hl3, hC3, hl4, hC4, hl5, hC5⟩ := k49_open (HS.old k _ (Nat.le_refl _) hget)
   have hmem := List.mem_of_getElem? hget
   obtain ⟨m3, m4, m5, mt, ma⟩ := HL.out.1 _ hmem
   have hfit := HL.out.2.2 _ hmem
   generalize l.getD k z49 = y at *
   obtain ⟨g, cap, hv, -, -⟩ := HS.own.form (by omega)
   obtain ⟨rfl, rfl⟩ : Av = some ⟨g, 0, none⟩ ∧ cv = cap := by simpa using hv
   have x0 : wr.cell? ⟨g, k * 6, none⟩ = some (.string y.f0) := Sep.seg_cell HS.own hcs (q := 0) rfl
   have x4 : wr.cell? ⟨g, k * 6 + 4, none⟩ = some (.slice A4 y.f4.length c4) := Sep.seg_cell HS.own hcs (q := 4) rfl
   have x5 : wr.cell? ⟨g, k * 6 + 5, none⟩ = some (.slice A5 y.f5.length c5) := Sep.seg_cell HS.own hcs (q := 5) rfl
   have hblk := (HB.block _ (Gen.qAT HW.out.2)).trans HW.out.2
   have p0 : wr.cell? ⟨w.heap.size, 0, none⟩ = some (.string r0) := (qA1 hblk 0).trans rfl
   have H4 := fun W (hB : Below W0.heap.size W0 W) => clTables (c := c4) hC4 m4 hB
   have H5 := fun W (hB : Below W0.heap.size W0 W) => clArts (c := c5) hC5 m5 hB
   have HC := zq (And.intro H4 H5)
   have HX := zq (And.intro HS (And.intro HB (And.intro hcs (And.intro hget (And.intro hblk (And.intro hl3 hC3))))))
   have HM := zq (And.intro mt (And.intro ma hfit))
   clear HS HB hcs hget HP H4 H5 hC3 hC4 hC5 mt ma hfit hblk hmem
   go_wp2_with fail
   go_quiet (fail)
   cases hn : (y.f0.toList == r0.toList)
   ·have hd : (!y.f0.toList == r0.toList) = true := by rw [hn]; rfl
    go_wp2_with fail
    go_roundw
    case rel =>
     obtain ⟨HS, HB, -, hget, -⟩ := HX.out
     have hc := fun m => CL.same (dm := kActM W0) (n := m) (⟨⟨_, _, HS⟩, World.grownBy.refl _ _, HB⟩ : CL k49 (kActM W0) 49 W0 wr wr W0.heap.size (.slice (some ⟨g, 0, none⟩) l.length cv) l (l.map (actF r0 r1 r2 r3 n)) k) hget (by rw [List.getElem?_map, hget, Option.map_some, actF, if_neg (by rw [hn]; decide)]) (fun cs h => kActM_came h) rfl
     exact ⟨k + 1, by omega, by first | rfl | (simp; done) | rw [Int.natCast_add]; rfl, ⟨(hc _).sw, (hc _).bl⟩⟩
    case measure => show l.length - ((k : Int) + 1).toNat < l.length - (k : Int).toNat; omega
   ·have hd : (!y.f0.toList == r0.toList) = false := by rw [hn]; rfl
    go_upto_region 6 with (fail)
    obtain ⟨wo, hwo⟩ : ∃ v, v = wr := ⟨_, rfl⟩
    subst hwo
    refine Gate.begin (fun w_ => w_.cell? ⟨g, k * 6 + 4, none⟩ = some (.slice A4 y.f4.length c4) ∧ w_.cell? ⟨g, k * 6 + 5, none⟩ = some (.slice A5 y.f5.length c5)) 13 (by kernel_rfl) ?_
    refine Gate.g0 0 29 (.slice (some ⟨g, 0, none⟩) l.length cv) ⟨x4, x5⟩ ?_
    refine Gate.g0 1 30 (.int .i64 (k : Int)) ⟨x4, x5⟩ ?_
    refine Gate.g0 2 31 (.pointer (some ⟨g, k * 6, none⟩)) ⟨x4, x5⟩ ?_
    refine Gate.g0 3 32 (.pointer (some ⟨g, k * 6 + 4, none⟩)) ⟨x4, x5⟩ ?_
    refine Gate.gt 4 33 (.slice A4 y.f4.length c4) ⟨x4, x5⟩ ?_
    refine Gate.g0 6 35 (.slice (some ⟨g, 0, none⟩) l.length cv) ⟨x4, x5⟩ ?_
    refine Gate.g0 7 36 (.int .i64 (k : Int)) ⟨x4, x5⟩ ?_
    refine Gate.g0 8 37 (.pointer (some ⟨g, k * 6, none⟩)) ⟨x4, x5⟩ ?_
    refine Gate.g0 9 38 (.pointer (some ⟨g, k * 6 + 5, none⟩)) ⟨x4, x5⟩ ?_
    refine Gate.gt 10 39 (.slice A5 y.f5.length c5) ⟨x4, x5⟩ ?_
    refine Gate.gc 5 34 ?_
    refine (HC.out.1 _ (qDJ (qA8 HX.out.2.1 _))).mono ?_
    rintro e W2 ⟨a4, b4, i4, rfl, ho4, hr4, hb4⟩
    have G4 := zq (And.intro ho4 (And.intro hr4 (And.intro hb4 (qA7 (qDJ (qA8 HX.out.2.1 _)) hb4))))
    replace x4 := qA2 hb4 x4
    replace x5 := qA2 hb4 x5
    clear ho4 hr4 hb4
    refine ⟨_, rfl, ⟨x4, x5⟩, ?_⟩
    simp only [Act.put, List.setIfInBounds_toArray, List.set_cons_zero, List.set_cons_succ]
    refine Gate.gc 11 40 ?_
    refine (HC.out.2 _ G4.out.2.2.2).mono ?_
    rintro e W3 ⟨a5, b5, i5, rfl, ho5, hr5, hb5⟩
    have G5 := zq (And.intro ho5 (And.intro hr5 (And.intro hb5 (qA7 G4.out.2.2.2 hb5))))
    replace x4 := qA2 hb5 x4
    replace x5 := qA2 hb5 x5
    clear ho5 hr5 hb5
    refine ⟨_, rfl, ⟨x4, x5⟩, ?_⟩
    simp only [Act.put, List.setIfInBounds_toArray, List.set_cons_zero, List.set_cons_succ]
    refine Gate.g0 12 9 (.slice a4 y.f4.length b4) ⟨x4, x5⟩ ?_
    refine Gate.gv 13 10 (.slice a5 y.f5.length b5) ?_
    refine Gate.done (by kernel_rfl) ?_ _
    have HT : qA0 (CL k73 (kTabM W0) 73 W0 W3 W3 wo.heap.size (.slice a4 y.f4.length b4) y.f4 (y.f4.map (tabF r1 r2 r3 n)) 0) := ⟨⟨⟨_, _, Sep.qE3.start (qBJ G4.out.1 G5.out.2.2.1) G4.out.2.1⟩, World.grownBy.refl _ _, G5.out.2.2.2⟩⟩
    clear x0 x4 x5 p0 HC
    go_wp2_with fail
    have hwe : wo.heap.size ≤ W3.heap.size := Nat.le_trans G4.out.2.2.1.size G5.out.2.2.1.size
    have hlo : W0.heap.size ≤ wo.heap.size := HX.out.2.1.size
    go_loopw [43] (fun i wx => ∃ j : Nat, j ≤ y.f4.length ∧ i = .int .i64 j ∧ qA0 (CL k73 (kTabM W0) 73 W0 W3 wx wo.heap.size (.slice a4 y.f4.length b4) y.f4 (y.f4.map (tabF r1 r2 r3 n)) j)) (fun i _ => y.f4.length - (intOf i).toNat)
    case atStart => exact ⟨0, Nat.zero_le _, by simp, HT⟩
    case round =>
     clear HT
     obtain ⟨j, hj, rfl, HT⟩ := hrel
     by_cases hjlt : j < y.f4.length
     ·obtain ⟨⟨sj, ij, HS⟩, hgb, hbl⟩ := HT.out
      have hget := getD_at z73 hjlt
      obtain ⟨As, cs, hcs, hls, hCs⟩ := k73_open (HS.old j _ (Nat.le_refl _) hget)
      have hmem := List.mem_of_getElem? hget
      have hm := HM.out.1 _ hmem
      have hft := fun h1 => (HM.out.2.2 hn).1 h1 _ hmem
      generalize y.f4.getD j z73 = t at *
      obtain ⟨g4, cap4, hv, -, -⟩ := HS.own.form (by omega)
      obtain ⟨rfl, rfl⟩ : a4 = some ⟨g4, 0, none⟩ ∧ b4 = cap4 := by simpa using hv
      have hwl : w.heap.size < W0.heap.size := Gen.qAT HW.out.2
      have hb4 := qBR HS.own g4 (by simp [Value.ownBlock])
      have hne : ¬ w.heap.size = g4 := by omega
      have hne' : ¬ g4 = w.heap.size := by omega
      have q0 : wr.cell? ⟨g4, j * 5, none⟩ = some (.string t.f0) := Sep.seg_cell HS.own hcs (q := 0) rfl
      have q4 : wr.cell? ⟨g4, j * 5 + 4, none⟩ = some (.slice As t.f4.length cs) := Sep.seg_cell HS.own hcs (q := 4) rfl
      have hblk := (hbl.block _ hwl).trans HW.out.2
      have p1 : wr.cell? ⟨w.heap.size, 1, none⟩ = some (.string r1) := (qA1 hblk 1).trans rfl
      have p2 : wr.cell? ⟨w.heap.size, 2, none⟩ = some (.int .i64 r2) := (qA1 hblk 2).trans rfl
      have p3 : wr.cell? ⟨w.heap.size, 3, none⟩ = some (.int .i64 r3) := (qA1 hblk 3).trans rfl
      have HCs := zq (fun W (hB : Below W0.heap.size W0 W) => clStp (c := cs) hCs hm hB)
      have HJ := zq (And.intro HS (And.intro hgb (And.intro hbl (And.intro hget (And.intro hcs (And.intro hft hblk))))))
      have HSame := zq (fun m (he : tabF r1 r2 r3 n t = t) => CL.same (n := m) HT.out hget (by rw [List.getElem?_map, hget, Option.map_some, he]) (fun cs h => kTabM_came h) rfl)
      clear HS hgb hbl hget hcs hCs hm HT hft hblk hmem hv hwl hb4
      by_cases h1 : 1 < r2
      ·have hd1 : decide (1 < r2) = true := by simpa using h1
       cases hn1 : (t.f0.toList == r1.toList)
       ·go_wp2_with fail
        go_quiet (fail)
        go_wp2_with fail
        go_roundw
        case rel => exact ⟨j + 1, by omega, by first | rfl | (simp; done) | rw [Int.natCast_add]; rfl, ⟨HSame.out _ (by rw [tabF, if_neg (by rw [hn1]; simp)])⟩⟩
        case measure => show y.f4.length - ((j : Int) + 1).toNat < y.f4.length - (j : Int).toNat; omega
       ·go_wp2_with fail
        go_quiet (fail)
        have hlt3 := HJ.out.2.2.2.2.2.1 h1 hn1
        have h03 := HL.out.2.1
        go_upto_region 12 with (first | (go_at_call 28; refine (HCs.out _ (qA8 HJ.out.2.2.1 _)).mono ?_; rintro e W5 ⟨a6, b6, i6, rfl, ho6, hr6, hb6⟩; have z4 := qA2 hb6 q4; have f4 : W5.frozen? ⟨g4, j * 5 + 4, none⟩ = false := (qBJ (qEB HJ.out.1.own _) hb6).frozenAt _; have G6 := zq (And.intro ho6 (And.intro hr6 hb6)); replace p2 := qA2 hb6 p2; replace p3 := qA2 hb6 p3; clear ho6 hr6 hb6))
        have S1 := (qBJ (qEB HJ.out.1.own _) G6.out.2.2).stored (j * 5 + 4) (.slice a6 t.f4.length b6)
        obtain ⟨g6, rfl⟩ : ∃ g6, a6 = some ⟨g6, 0, none⟩ := by
         obtain ⟨g6, cap6, hv, -, -⟩ := G6.out.1.form (by omega)
         injection hv with hv
         exact ⟨g6, hv⟩
        have hg4 : g4 < wr.heap.size := qD6 HJ.out.1.own g4 (by simp [Value.ownBlock])
        have hg6 : wr.heap.size ≤ g6 := qBR G6.out.1 g6 (by simp [Value.ownBlock])
        replace p2 := S1.2.cell p2 (by simpa using hne)
        replace p3 := S1.2.cell p3 (by simpa using hne)
        have S2 := G6.out.1.kept S1.2 (.inr (by simp [Value.ownBlock]; omega))
        have z6 : (W5.setCell ⟨g4, j * 5 + 4, none⟩ (.slice (some ⟨g6, 0, none⟩) t.f4.length b6)).cell? ⟨g4, j * 5 + 4, none⟩ = some (.slice (some ⟨g6, 0, none⟩) t.f4.length b6) := by
         have e_ := Sep.qCD (inner := ij) (sz := 5) (i := j) (q := 4) (by decide) (.slice (some ⟨g6, 0, none⟩) t.f4.length b6) j
         rw [if_pos rfl, show Sep.seg ij 5 j = _ from HJ.out.2.2.2.2.1] at e_
         exact Sep.seg_cell S1.1 e_ (q := 4) rfl
        have e6 := k75_open (G6.out.2.1.2 r3.toNat _ (getD_at z75 hlt3))
        have y0 := Sep.seg_cell S2 (i := r3.toNat) (q := 0) e6 rfl
        have y1 := Sep.seg_cell S2 (i := r3.toNat) (q := 1) e6 rfl
        have fz := fun j => S2.frozenAt j
        have B5 : Below wr.heap.size wr W5 := ⟨G6.out.2.2.os, G6.out.2.2.tape, G6.out.2.2.output, G6.out.2.2.size, G6.out.2.2.block⟩
        have HPut := zq (fun q hq => Tab.put (q := q) HJ.out.1 rfl HJ.out.2.1 HJ.out.2.2.1 hlo (Nat.le_trans hwe HJ.out.2.1.size) HJ.out.2.2.2.1 HJ.out.2.2.2.2.1 B5 G6.out.1 G6.out.2.1 hlt3 h1 hn1 hq)
        clear z4 f4 S1 S2 q0 q4 p1 hne hne' hg4 e6 B5
        have r3i : r3 < (t.f4.length : Int) := by omega
        by_cases h2 : r2 = 2
        ·have hd2 : (r2 == 2) = true := by simpa using h2
         have HPq := zq (HPut.out 0 (.inl ⟨rfl, h2⟩))
         clear HPut
         replace y0 : (W5.setCell ⟨g4, j * 5 + 4, none⟩ (.slice (some ⟨g6, 0, none⟩) t.f4.length b6)).cell? ⟨g6, r3.toNat * 2, none⟩ = some _ := y0
         replace fz := fz (r3.toNat * 2)
         generalize W5.setCell ⟨g4, j * 5 + 4, none⟩ (.slice (some ⟨g6, 0, none⟩) t.f4.length b6) = W6 at *
         go_upto_region 13 with (fail)
         refine Gate.begin (fun w_ => w_.cell? ⟨g4, j * 5 + 4, none⟩ = some (.slice (some ⟨g6, 0, none⟩) t.f4.length b6) ∧ w_.cell? ⟨w.heap.size, 3, none⟩ = some (.int .i64 r3)) 8 (by kernel_rfl) ?_
         refine Gate.g0 0 72 (.slice (some ⟨g4, 0, none⟩) y.f4.length b4) ⟨z6, p3⟩ ?_
         refine Gate.g0 1 73 (.int .i64 (j : Int)) ⟨z6, p3⟩ ?_
         refine Gate.g0 2 74 (.pointer (some ⟨g4, j * 5, none⟩)) ⟨z6, p3⟩ ?_
         refine Gate.g0 3 75 (.pointer (some ⟨g4, j * 5 + 4, none⟩)) ⟨z6, p3⟩ ?_
         refine Gate.gt 4 76 (.slice (some ⟨g6, 0, none⟩) t.f4.length b6) ⟨z6, p3⟩ ?_
         refine Gate.g0 5 77 (.pointer (some ⟨w.heap.size, 3, none⟩)) ⟨z6, p3⟩ ?_
         refine Gate.gt 6 78 (.int .i64 r3) ⟨z6, p3⟩ ?_
         refine Gate.g0 7 79 (.int .i64 n) ⟨z6, p3⟩ ?_
         refine Gate.gv 8 80 (.pointer (some ⟨g6, r3.toNat * 2, none⟩)) ?_
         refine Gate.gv 9 81 (.pointer (some ⟨g6, r3.toNat * 2, none⟩)) ?_
         refine Gate.gs 10 ?_
         refine Gate.done (by kernel_rfl) ?_ _
         go_wp2_with fail
         first | (refine ⟨?_, ?measure⟩; (iterate 160 (try apply Exists.intro)); refine ⟨?rel, rfl⟩) | go_roundw
         case rel => exact ⟨j + 1, by omega, by first | rfl | (simp; done) | rw [Int.natCast_add]; rfl, ⟨HPq.out.drew⟩⟩
         case measure => show y.f4.length - ((j : Int) + 1).toNat < y.f4.length - (j : Int).toNat; omega
        ·have hd2 : (r2 == 2) = false := by simpa using h2
         have HPq := zq (HPut.out 1 (.inr ⟨rfl, h2⟩))
         clear HPut
         replace y1 : (W5.setCell ⟨g4, j * 5 + 4, none⟩ (.slice (some ⟨g6, 0, none⟩) t.f4.length b6)).cell? ⟨g6, r3.toNat * 2 + 1, none⟩ = some _ := y1
         replace fz := fz (r3.toNat * 2 + 1)
         generalize W5.setCell ⟨g4, j * 5 + 4, none⟩ (.slice (some ⟨g6, 0, none⟩) t.f4.length b6) = W6 at *
         go_upto_region 14 with (fail)
         refine Gate.begin (fun w_ => w_.cell? ⟨g4, j * 5 + 4, none⟩ = some (.slice (some ⟨g6, 0, none⟩) t.f4.length b6) ∧ w_.cell? ⟨w.heap.size, 3, none⟩ = some (.int .i64 r3)) 8 (by kernel_rfl) ?_
         refine Gate.g0 0 82 (.slice (some ⟨g4, 0, none⟩) y.f4.length b4) ⟨z6, p3⟩ ?_
         refine Gate.g0 1 83 (.int .i64 (j : Int)) ⟨z6, p3⟩ ?_
         refine Gate.g0 2 84 (.pointer (some ⟨g4, j * 5, none⟩)) ⟨z6, p3⟩ ?_
         refine Gate.g0 3 85 (.pointer (some ⟨g4, j * 5 + 4, none⟩)) ⟨z6, p3⟩ ?_
         refine Gate.gt 4 86 (.slice (some ⟨g6, 0, none⟩) t.f4.length b6) ⟨z6, p3⟩ ?_
         refine Gate.g0 5 87 (.pointer (some ⟨w.heap.size, 3, none⟩)) ⟨z6, p3⟩ ?_
         refine Gate.gt 6 88 (.int .i64 r3) ⟨z6, p3⟩ ?_
         refine Gate.g0 7 89 (.int .i64 n) ⟨z6, p3⟩ ?_
         refine Gate.gv 8 90 (.pointer (some ⟨g6, r3.toNat * 2, none⟩)) ?_
         refine Gate.gv 9 91 (.pointer (some ⟨g6, r3.toNat * 2 + 1, none⟩)) ?_
         refine Gate.gs 10 ?_
         refine Gate.done (by kernel_rfl) ?_ _
         go_wp2_with fail
         first | (refine ⟨?_, ?measure⟩; (iterate 160 (try apply Exists.intro)); refine ⟨?rel, rfl⟩) | go_roundw
         case rel => exact ⟨j + 1, by omega, by first | rfl | (simp; done) | rw [Int.natCast_add]; rfl, ⟨HPq.out.drew⟩⟩
         case measure => show y.f4.length - ((j : Int) + 1).toNat < y.f4.length - (j : Int).toNat; omega
      ·have hd1 : decide (1 < r2) = false := by simpa using h1
       have H1 := zq h1
       clear h1
       go_wp2_with fail
       go_quiet (fail)
       go_wp2_with fail
       first | (refine ⟨?_, ?measure⟩; (iterate 160 (try apply Exists.intro)); refine ⟨?rel, rfl⟩) | go_roundw
       case rel => exact ⟨j + 1, by omega, by first | rfl | (simp; done) | rw [Int.natCast_add]; rfl, ⟨HSame.out _ (by rw [tabF, if_neg (fun e => absurd e.1 (by have := H1.out; omega))])⟩⟩
       case measure => show y.f4.length - ((j : Int) + 1).toNat < y.f4.length - (j : Int).toNat; omega
     ·obtain rfl : j = y.f4.length := by omega
      have hab : ∀ q, (Value.slice a5 y.f5.length b5).ownBlock = some q → W2.heap.size ≤ q ∧ ∃ cells, wr.heap[q]? = some (.cells cells 55 (0, 0)) := fun q hq => by
       have h1 := qBR G5.out.1 q hq
       obtain ⟨cells, hc⟩ := qF6 G5.out.1 q hq
       exact ⟨h1, cells, (HT.out.gb.block q (qD6 G5.out.1 q hq) (fun e => by have := qD6 G4.out.1 q e.symm; omega)).trans hc⟩
      have HA : qA0 (CL k55 (kArtM W0) 55 W0 wr wr W2.heap.size (.slice a5 y.f5.length b5) y.f5 (y.f5.map (artF r1 r2 r3 n)) 0) := ⟨⟨⟨_, _, Sep.qE3.start (qCY G5.out.1 (fun q hq => HT.out.gb.block q (qD6 G5.out.1 q hq) (fun e => by have := qD6 G4.out.1 q e.symm; have := qBR G5.out.1 q hq; omega))) G5.out.2.1⟩, World.grownBy.refl _ _, HT.out.bl⟩⟩
      have hwe5 : W2.heap.size ≤ wr.heap.size := Nat.le_trans G5.out.2.2.1.size HT.out.gb.size
      have hlo5 : W0.heap.size ≤ W2.heap.size := Nat.le_trans hlo G4.out.2.2.1.size
      have HAB := zq hab
      clear hab
      go_wp2_with fail
      obtain ⟨wd, hwd⟩ : ∃ v, v = wr := ⟨_, rfl⟩
      subst hwd
      go_loopw [95] (fun i wx => ∃ m : Nat, m ≤ y.f5.length ∧ i = .int .i64 m ∧ qA0 (CL k55 (kArtM W0) 55 W0 wd wx W2.heap.size (.slice a5 y.f5.length b5) y.f5 (y.f5.map (artF r1 r2 r3 n)) m)) (fun i _ => y.f5.length - (intOf i).toNat)
      case atStart => exact ⟨0, Nat.zero_le _, by simp, HA⟩
      case round =>
       clear HA
       obtain ⟨m, hm_, rfl, HA⟩ := hrel
       by_cases hmlt : m < y.f5.length
       ·obtain ⟨⟨sm, im, HS⟩, hgb, hbl⟩ := HA.out
        have hget := getD_at z55 hmlt
        obtain ⟨D2, e2, D3, e3, D4, e4, hcs, l2, h2, l3, h3, l4, h4⟩ := k55_open (HS.old m _ (Nat.le_refl _) hget)
        have hmem := List.mem_of_getElem? hget
        obtain ⟨⟨n2, -⟩, ⟨n3, -⟩, -⟩ := HM.out.2.1 _ hmem
        have hft := fun h1 => (HM.out.2.2 hn).2 h1 _ hmem
        generalize y.f5.getD m z55 = x at *
        obtain ⟨g5, cap5, hv, -, -⟩ := HS.own.form (by omega)
        obtain ⟨rfl, rfl⟩ : a5 = some ⟨g5, 0, none⟩ ∧ b5 = cap5 := by simpa using hv
        have hwl : w.heap.size < W0.heap.size := Gen.qAT HW.out.2
        have hb4 := qBR HS.own g5 (by simp [Value.ownBlock])
        have hne : ¬ w.heap.size = g5 := by omega
        have hne' : ¬ g5 = w.heap.size := by omega
        have q0 : wr.cell? ⟨g5, m * 6, none⟩ = some (.string x.f0) := Sep.seg_cell HS.own hcs (q := 0) rfl
        have q2 : wr.cell? ⟨g5, m * 6 + 2, none⟩ = some (.slice D2 x.f2.length e2) := Sep.seg_cell HS.own hcs (q := 2) rfl
        have q3 : wr.cell? ⟨g5, m * 6 + 3, none⟩ = some (.slice D3 x.f3.length e3) := Sep.seg_cell HS.own hcs (q := 3) rfl
        have hblk := (hbl.block _ hwl).trans HW.out.2
        have p1 : wr.cell? ⟨w.heap.size, 1, none⟩ = some (.string r1) := (qA1 hblk 1).trans rfl
        have p2 : wr.cell? ⟨w.heap.size, 2, none⟩ = some (.int .i64 r2) := (qA1 hblk 2).trans rfl
        have p3 : wr.cell? ⟨w.heap.size, 3, none⟩ = some (.int .i64 r3) := (qA1 hblk 3).trans rfl
        have K2 := fun W (hB : Below W0.heap.size W0 W) => clNodes (c := e2) h2 n2 hB
        have K3 := fun W (hB : Below W0.heap.size W0 W) => clNodes (c := e3) h3 n3 hB
        have HCs := zq (And.intro K2 K3)
        have HCl := zq (And.intro l2 (And.intro h2 (And.intro l3 (And.intro h3 (And.intro l4 h4)))))
        have HJ := zq (And.intro HS (And.intro hgb (And.intro hbl (And.intro hget (And.intro hcs (And.intro hft hblk))))))
        have HSame := zq (fun k (he : artF r1 r2 r3 n x = x) => CL.same (n := k) HA.out hget (by rw [List.getElem?_map, hget, Option.map_some, he]) (fun cs h => kArtM_came h) rfl)
        clear HS hgb hbl hget hcs HA hft hblk hmem hv hwl hb4 K2 K3 h2 h3 h4 n2 n3 HT
        by_cases h1 : r2 < 2
        ·have hd1 : decide (r2 < 2) = true := by simpa using h1
         cases hn1 : (x.f0.toList == r1.toList)
         ·go_wp2_with fail
          go_quiet (fail)
          go_wp2_with fail
          first | (refine ⟨?_, ?measure⟩; (iterate 160 (try apply Exists.intro)); refine ⟨?rel, rfl⟩) | go_roundw
          case rel => exact ⟨m + 1, by omega, by first | rfl | (simp; done) | rw [Int.natCast_add]; rfl, ⟨HSame.out _ (by rw [artF, if_neg (by rw [hn1]; simp)])⟩⟩
          case measure => show y.f5.length - ((m : Int) + 1).toNat < y.f5.length - (m : Int).toNat; omega
         go_wp2_with fail
         go_quiet (fail)
         have hlt3' := HJ.out.2.2.2.2.2.1 h1 hn1
         have h03 := HL.out.2.1
         by_cases h2 : r2 = 1
         ·have hd2 : (r2 == 1) = true := by simpa using h2
          have hlt3 : r3.toNat < x.f3.length := by have h_ := HJ.out.2.2.2.2.2.1 h1 hn1; rw [if_pos h2] at h_; exact h_
          have H2 := zq h2
          clear h2
          go_upto_region 24 with (first | (go_at_call 29; refine (HCs.out.2 _ (qA8 HJ.out.2.2.1 _)).mono ?_; rintro e W5 ⟨a6, b6, i6, rfl, ho6, hr6, hb6⟩; have z4 := qA2 hb6 q3; have f4 : W5.frozen? ⟨g5, m * 6 + 3, none⟩ = false := (qBJ (qEB HJ.out.1.own _) hb6).frozenAt _; have G6 := zq (And.intro ho6 (And.intro hr6 hb6)); replace p3 := qA2 hb6 p3; clear ho6 hr6 hb6))
          have S1 := (qBJ (qEB HJ.out.1.own _) G6.out.2.2).stored (m * 6 + 3) (.slice a6 x.f3.length b6)
          obtain ⟨g6, rfl⟩ : ∃ g6, a6 = some ⟨g6, 0, none⟩ := by
           obtain ⟨g6, cap6, hv, -, -⟩ := G6.out.1.form (by omega)
           injection hv with hv
           exact ⟨g6, hv⟩
          have hg4 : g5 < wr.heap.size := qD6 HJ.out.1.own g5 (by simp [Value.ownBlock])
          have hg6 : wr.heap.size ≤ g6 := qBR G6.out.1 g6 (by simp [Value.ownBlock])
          replace p3 := S1.2.cell p3 (by simpa using hne)
          have S2 := G6.out.1.kept S1.2 (.inr (by simp [Value.ownBlock]; omega))
          have z6 : (W5.setCell ⟨g5, m * 6 + 3, none⟩ (.slice (some ⟨g6, 0, none⟩) x.f3.length b6)).cell? ⟨g5, m * 6 + 3, none⟩ = some (.slice (some ⟨g6, 0, none⟩) x.f3.length b6) := by
           have e_ := Sep.qCD (inner := im) (sz := 6) (i := m) (q := 3) (by decide) (.slice (some ⟨g6, 0, none⟩) x.f3.length b6) m
           rw [if_pos rfl, show Sep.seg im 6 m = _ from HJ.out.2.2.2.2.1] at e_
           exact Sep.seg_cell S1.1 e_ (q := 3) rfl
          obtain ⟨A7, c7, e6, -⟩ := k79_open (G6.out.2.1.2 r3.toNat _ (getD_at z79 hlt3))
          have y0 : (W5.setCell ⟨g5, m * 6 + 3, none⟩ (.slice (some ⟨g6, 0, none⟩) x.f3.length b6)).cell? ⟨g6, r3.toNat * 5 + 3, none⟩ = some _ := Sep.seg_cell S2 (i := r3.toNat) (q := 3) e6 rfl
          have fz := S2.frozenAt (r3.toNat * 5 + 3)
          have B5 : Below wr.heap.size wr W5 := ⟨G6.out.2.2.os, G6.out.2.2.tape, G6.out.2.2.output, G6.out.2.2.size, G6.out.2.2.block⟩
          have HPq := zq (Art.put (q := 3) (nn := n) HJ.out.1 rfl HJ.out.2.1 HJ.out.2.2.1 hlo5 (Nat.le_trans hwe5 HJ.out.2.1.size) HJ.out.2.2.2.1 HJ.out.2.2.2.2.1 HCl.out.1 HCl.out.2.1 HCl.out.2.2.1 HCl.out.2.2.2.1 HCl.out.2.2.2.2.1 HCl.out.2.2.2.2.2 B5 G6.out.1 G6.out.2.1 hlt3 h1 hn1 (.inr ⟨rfl, H2.out, rfl⟩))
          clear z4 f4 S1 S2 q0 q2 q3 p1 p2 hne hne' hg4 e6 B5 hlt3'
          have r3i : r3 < (x.f3.length : Int) := by omega
          generalize W5.setCell ⟨g5, m * 6 + 3, none⟩ (.slice (some ⟨g6, 0, none⟩) x.f3.length b6) = W6 at *
          refine Gate.begin (fun w_ => w_.cell? ⟨g5, m * 6 + 3, none⟩ = some (.slice (some ⟨g6, 0, none⟩) x.f3.length b6) ∧ w_.cell? ⟨w.heap.size, 3, none⟩ = some (.int .i64 r3)) 6 (by kernel_rfl) ?_
          refine Gate.g0 0 128 (.pointer (some ⟨g5, m * 6 + 3, none⟩)) ⟨z6, p3⟩ ?_
          refine Gate.g0 1 129 (.pointer (some ⟨g5, m * 6 + 3, none⟩)) ⟨z6, p3⟩ ?_
          refine Gate.gt 2 130 (.slice (some ⟨g6, 0, none⟩) x.f3.length b6) ⟨z6, p3⟩ ?_
          refine Gate.g0 3 131 (.pointer (some ⟨w.heap.size, 3, none⟩)) ⟨z6, p3⟩ ?_
          refine Gate.gt 4 132 (.int .i64 r3) ⟨z6, p3⟩ ?_
          refine Gate.g0 5 133 (.int .i64 n) ⟨z6, p3⟩ ?_
          refine Gate.gv 6 134 (.pointer (some ⟨g6, r3.toNat * 5, none⟩)) ?_
          refine Gate.gv 7 135 (.pointer (some ⟨g6, r3.toNat * 5 + 3, none⟩)) ?_
          refine Gate.gs 8 ?_
          refine Gate.done (by kernel_rfl) ?_ _
          go_wp2_with fail
          first | (refine ⟨?_, ?measure⟩; (iterate 160 (try apply Exists.intro)); refine ⟨?rel, rfl⟩) | go_roundw
          case rel => exact ⟨m + 1, by omega, by first | rfl | (simp; done) | rw [Int.natCast_add]; rfl, ⟨HPq.out.drew⟩⟩
          case measure => show y.f5.length - ((m : Int) + 1).toNat < y.f5.length - (m : Int).toNat; omega
         ·have hd2 : (r2 == 1) = false := by simpa using h2
          have hlt3 : r3.toNat < x.f2.length := by have h_ := HJ.out.2.2.2.2.2.1 h1 hn1; rw [if_neg h2] at h_; exact h_
          have H2 := zq h2
          clear h2
          go_upto_region 24 with (first | (go_at_call 29; refine (HCs.out.1 _ (qA8 HJ.out.2.2.1 _)).mono ?_; rintro e W5 ⟨a6, b6, i6, rfl, ho6, hr6, hb6⟩; have z4 := qA2 hb6 q2; have f4 : W5.frozen? ⟨g5, m * 6 + 2, none⟩ = false := (qBJ (qEB HJ.out.1.own _) hb6).frozenAt _; have G6 := zq (And.intro ho6 (And.intro hr6 hb6)); replace p3 := qA2 hb6 p3; clear ho6 hr6 hb6))
          have S1 := (qBJ (qEB HJ.out.1.own _) G6.out.2.2).stored (m * 6 + 2) (.slice a6 x.f2.length b6)
          obtain ⟨g6, rfl⟩ : ∃ g6, a6 = some ⟨g6, 0, none⟩ := by
           obtain ⟨g6, cap6, hv, -, -⟩ := G6.out.1.form (by omega)
           injection hv with hv
           exact ⟨g6, hv⟩
          have hg4 : g5 < wr.heap.size := qD6 HJ.out.1.own g5 (by simp [Value.ownBlock])
          have hg6 : wr.heap.size ≤ g6 := qBR G6.out.1 g6 (by simp [Value.ownBlock])
          replace p3 := S1.2.cell p3 (by simpa using hne)
          have S2 := G6.out.1.kept S1.2 (.inr (by simp [Value.ownBlock]; omega))
          have z6 : (W5.setCell ⟨g5, m * 6 + 2, none⟩ (.slice (some ⟨g6, 0, none⟩) x.f2.length b6)).cell? ⟨g5, m * 6 + 2, none⟩ = some (.slice (some ⟨g6, 0, none⟩) x.f2.length b6) := by
           have e_ := Sep.qCD (inner := im) (sz := 6) (i := m) (q := 2) (by decide) (.slice (some ⟨g6, 0, none⟩) x.f2.length b6) m
           rw [if_pos rfl, show Sep.seg im 6 m = _ from HJ.out.2.2.2.2.1] at e_
           exact Sep.seg_cell S1.1 e_ (q := 2) rfl
          obtain ⟨A7, c7, e6, -⟩ := k79_open (G6.out.2.1.2 r3.toNat _ (getD_at z79 hlt3))
          have y0 : (W5.setCell ⟨g5, m * 6 + 2, none⟩ (.slice (some ⟨g6, 0, none⟩) x.f2.length b6)).cell? ⟨g6, r3.toNat * 5 + 3, none⟩ = some _ := Sep.seg_cell S2 (i := r3.toNat) (q := 3) e6 rfl
          have fz := S2.frozenAt (r3.toNat * 5 + 3)
          have B5 : Below wr.heap.size wr W5 := ⟨G6.out.2.2.os, G6.out.2.2.tape, G6.out.2.2.output, G6.out.2.2.size, G6.out.2.2.block⟩
          have HPq := zq (Art.put (q := 2) (nn := n) HJ.out.1 rfl HJ.out.2.1 HJ.out.2.2.1 hlo5 (Nat.le_trans hwe5 HJ.out.2.1.size) HJ.out.2.2.2.1 HJ.out.2.2.2.2.1 HCl.out.1 HCl.out.2.1 HCl.out.2.2.1 HCl.out.2.2.2.1 HCl.out.2.2.2.2.1 HCl.out.2.2.2.2.2 B5 G6.out.1 G6.out.2.1 hlt3 h1 hn1 (.inl ⟨rfl, H2.out, rfl⟩))
          clear z4 f4 S1 S2 q0 q2 q3 p1 p2 hne hne' hg4 e6 B5 hlt3'
          have r3i : r3 < (x.f2.length : Int) := by omega
          generalize W5.setCell ⟨g5, m * 6 + 2, none⟩ (.slice (some ⟨g6, 0, none⟩) x.f2.length b6) = W6 at *
          refine Gate.begin (fun w_ => w_.cell? ⟨g5, m * 6 + 2, none⟩ = some (.slice (some ⟨g6, 0, none⟩) x.f2.length b6) ∧ w_.cell? ⟨w.heap.size, 3, none⟩ = some (.int .i64 r3)) 6 (by kernel_rfl) ?_
          refine Gate.g0 0 128 (.pointer (some ⟨g5, m * 6 + 2, none⟩)) ⟨z6, p3⟩ ?_
          refine Gate.g0 1 129 (.pointer (some ⟨g5, m * 6 + 2, none⟩)) ⟨z6, p3⟩ ?_
          refine Gate.gt 2 130 (.slice (some ⟨g6, 0, none⟩) x.f2.length b6) ⟨z6, p3⟩ ?_
          refine Gate.g0 3 131 (.pointer (some ⟨w.heap.size, 3, none⟩)) ⟨z6, p3⟩ ?_
          refine Gate.gt 4 132 (.int .i64 r3) ⟨z6, p3⟩ ?_
          refine Gate.g0 5 133 (.int .i64 n) ⟨z6, p3⟩ ?_
          refine Gate.gv 6 134 (.pointer (some ⟨g6, r3.toNat * 5, none⟩)) ?_
          refine Gate.gv 7 135 (.pointer (some ⟨g6, r3.toNat * 5 + 3, none⟩)) ?_
          refine Gate.gs 8 ?_
          refine Gate.done (by kernel_rfl) ?_ _
          go_wp2_with fail
          first | (refine ⟨?_, ?measure⟩; (iterate 160 (try apply Exists.intro)); refine ⟨?rel, rfl⟩) | go_roundw
          case rel => exact ⟨m + 1, by omega, by first | rfl | (simp; done) | rw [Int.natCast_add]; rfl, ⟨HPq.out.drew⟩⟩
          case measure => show y.f5.length - ((m : Int) + 1).toNat < y.f5.length - (m : Int).toNat; omega
        ·have hd1 : decide (r2 < 2) = false := by simpa using h1
         have H1 := zq h1
         clear h1
         go_wp2_with fail
         go_quiet (fail)
         go_wp2_with fail
         first | (refine ⟨?_, ?measure⟩; (iterate 160 (try apply Exists.intro)); refine ⟨?rel, rfl⟩) | go_roundw
         case rel => exact ⟨m + 1, by omega, by first | rfl | (simp; done) | rw [Int.natCast_add]; rfl, ⟨HSame.out _ (by rw [artF, if_neg (fun e => absurd e.1 (by have := H1.out; omega))])⟩⟩
         case measure => show y.f5.length - ((m : Int) + 1).toNat < y.f5.length - (m : Int).toNat; omega
       ·obtain rfl : m = y.f5.length := by omega
        obtain ⟨HS, HB, hcs, hget, hblk, hl3, hC3⟩ := HX.out
        obtain ⟨f4, f5, u4, u5, HN, hbf⟩ := Act2.next (v4 := .slice a4 y.f4.length b4) (v5 := .slice a5 y.f5.length b5) HS rfl HB hget hn hcs hl3 hC3 (qA7 (⟨G4.out.2.2.1.os, G4.out.2.2.1.tape, G4.out.2.2.1.output, G4.out.2.2.1.size, G4.out.2.2.1.block⟩ : Below wo.heap.size wo W2) G5.out.2.2.1) G4.out.2.2.1.size HAB.out HT.out HA.out
        have HZ := zq (And.intro HN hbf)
        clear HN hbf HS HB hcs hget hblk hl3 hC3 HA HT
        go_wp2_with fail
        go_roundw
        case rel => exact ⟨k + 1, by omega, by first | rfl | (simp; done) | rw [Int.natCast_add]; rfl, HZ⟩
        case measure => show l.length - ((k : Int) + 1).toNat < l.length - (k : Int).toNat; omega
  ·obtain rfl : k = l.length := by omega
   obtain ⟨⟨s, inner', HS⟩, HB⟩ := HP.out
   have HZ := zq (Act2.fin (List.length_map _) HW.out.1 HS HB)
   clear HP HB HS
   go_wp2_with fail
   go_ret
   exact ⟨HZ.out.2.2, _, _, rfl, HZ.out.2.1, HZ.out.1⟩
end
end Go.Proofs.YtfnejdbjekkadaaGreat.PRatePuts
end
