/- A part of the proof of RatePuts: texts that were printed, words, walks. No condition. -/
import Derived.Test.YtfnejdbjekkadaaGreatC1
import Derived.Test.YtfnejdbjekkadaaGreatC2
import Derived.Test.YtfnejdbjekkadaaGreatC5
import Derived.Test.YtfnejdbjekkadaaGreatC6
import Derived.Laws.EntriesVeiled
import Derived.DeepKeys4
import Derived.MapViews
import Derived.Deep.RegionHeld3
import Derived.Maps.AppendAt
set_option linter.unusedVariables false
set_option linter.unusedSimpArgs false
section
namespace Go.Proofs.YtfnejdbjekkadaaGreat.PRatePuts
noncomputable section
open Go.RowKit Go.Proofs.YtfnejdbjekkadaaGreatW.PrintWords Go.Proofs.YtfnejdbjekkadaaGreatW.PrintLast Go.Proofs.YtfnejdbjekkadaaGreatW.PrintMore
set_option maxHeartbeats 8000000
set_option maxRecDepth 100000
theorem refs_app (W : World) (base : Nat) (v : Value) (R : List S59) (HO : W.ownsRow base 59 2 v R.length (R.flatMap qBU.enc)) (g0 : Nat) (x : S59) (hblk : W.heap[g0]? = some (.cells #[.string x.f0, .string x.f1] 59 (0, 0))) (hbase : base ≤ W.heap.size) (hl : (R.length + 1) * 32 ≤ 140737488355328) :
  ∃ v1 w1, (Builtin.append_ #[44, 44] 44 #[v, .slice (some ⟨g0, 0, none⟩) 1 1]).run Tryz.prog W = .ok v1 w1 ∧ w1.ownsRow base 59 2 v1 (R ++ [x]).length ((R ++ [x]).flatMap qBU.enc) ∧ W.grownBy w1 v.ownBlock ∧ (v1.ownBlock = v.ownBlock ∨ v1.ownBlock = some W.heap.size) := by
 obtain ⟨i0, hi, hz0, hz1, hz2⟩ := info_parts qBU.info
 obtain ⟨v1, w1, hr, h2, h3, _, h5⟩ := run_append_own_at (P := Tryz.prog) W base 44 44 59 i0 (.agg #[.string ⟨#[]⟩, .string ⟨#[]⟩]) 2 32 Tryz.underlying44 hi hz0 hz1 hz2 rfl (by decide) v R.length (R.flatMap qBU.enc) HO ⟨g0, 0, none⟩ 1 1 (qBU.enc x) rfl (World.news_of_block hblk)
  (fun q hq => by simp [qBU.enc] at hq; rcases hq with rfl | rfl <;> rfl) (by simp only [maxLen]; omega) hl hbase
 exact ⟨v1, w1, hr, by rw [List.flatMap_append, List.length_append]; simpa using h2, h3, h5⟩
def sliA : Value → Option (DataW Unit × List MemPlace)
 | .slice none n c => some (.agg [.lit (.int .i64 n), .lit (.int .i64 c)], [])
 | .slice (some ⟨p, o, none⟩) n c => some (.agg [.lit (.int .i64 n), .lit (.int .i64 c), .lit (.int .i64 p), .lit (.int .i64 o)], [])
 | .slice (some ⟨p, o, some q⟩) n c => some (.agg [.lit (.int .i64 n), .lit (.int .i64 c), .lit (.int .i64 p), .lit (.int .i64 o), .lit (.int .i64 q)], [])
 | _ => none
def encA (v : Value) : DataW Unit := ((sliA v).map (·.1)).getD .nil
theorem sliA_slice (A : Option Addr) (n c : Nat) : sliA (.slice A n c) = some (encA (.slice A n c), []) := by
 cases A with
 | none => rfl
 | some a => obtain ⟨p, o, q⟩ := a; cases q <;> rfl
theorem sliA_inj {A A' : Option Addr} {n n' c c' : Nat} (h : encA (.slice A n c) = encA (.slice A' n' c')) : Value.slice A n c = Value.slice A' n' c' := by
 cases A with
 | none =>
  cases A' with
  | none => simp [encA, sliA] at h; obtain ⟨h1, h2⟩ := h; rw [show n = n' from by omega, show c = c' from by omega]
  | some a => obtain ⟨p, o, q⟩ := a; cases q <;> simp [encA, sliA] at h
 | some a =>
  obtain ⟨p, o, q⟩ := a
  cases A' with
  | none => cases q <;> simp [encA, sliA] at h
  | some a' =>
   obtain ⟨p', o', q'⟩ := a'
   cases q <;> cases q' <;> simp [encA, sliA] at h
   ·obtain ⟨h1, h2, h3, h4⟩ := h; rw [show n = n' from by omega, show c = c' from by omega, show p = p' from by omega, show o = o' from by omega]
   ·rename_i q1 q2; obtain ⟨h1, h2, h3, h4, h5⟩ := h; rw [show n = n' from by omega, show c = c' from by omega, show p = p' from by omega, show o = o' from by omega, show q1 = q2 from by omega]
def lookO (O : List (S59 × List S59)) (r : S59) : List S59 := ((O.find? fun p => decide (p.1 = r)).map (·.2)).getD []
structure OM (w W : World) (b : Nat) (O : List (S59 × List S59)) : Prop where
 hb : w.heap.size ≤ b
 own : ∃ (V : S59 → Value) (n : Nat) (D : DataW Unit), n ≤ O.length ∧ W.ownsMap Tryz.prog 59 sliA b n D ∧ (∀ (r : S59) (zd : DataW Unit), (r.f0.size ≤ maxLen ∧ r.f1.size ≤ maxLen) → D.atKey (keyL r) zd = if r ∈ O.map (·.1) then encA (V r) else zd) ∧
  ∀ r, r ∈ O.map (·.1) → ∃ A c, V r = .slice A (lookO O r).length c ∧ (lookO O r).length ≤ c ∧ Kd.C k59 w A (lookO O r).length (lookO O r)
theorem OM.blk {w W : World} {b : Nat} {O : List (S59 × List S59)} (h : OM w W b O) : ∃ es c, W.heap[b]? = some (.map es c) := by
 obtain ⟨_, _, _, _, ⟨es, c, hb, _⟩, _⟩ := h.own
 exact ⟨es, c, hb⟩
theorem OM.at_ {w W W' : World} {b : Nat} {O : List (S59 × List S59)} (h : OM w W b O) (he : W'.heap[b]? = W.heap[b]?) : OM w W' b O := by
 obtain ⟨V, n, D, hn, ⟨es, cl, hb, F⟩, h2⟩ := h.own
 exact ⟨h.hb, V, n, D, hn, ⟨es, cl, he.trans hb, F⟩, h2⟩
theorem OM.made (w W : World) (h : w.heap.size ≤ W.heap.size) : OM w (W.alloc (.map #[] 0)) W.heap.size [] :=
 ⟨h, fun _ => .slice none 0 0, 0, _, Nat.le_refl _, World.ownsMap_made W _ _ _, fun r zd _ => rfl, fun r hr => by cases hr⟩
theorem OM.look {w W : World} {b : Nat} {O : List (S59 × List S59)} (h : OM w W b O) {r : S59} (hr : r.f0.size ≤ maxLen ∧ r.f1.size ≤ maxLen) :
  ∃ A c, (Instr.lookup 43 (.map (some b)) (.agg #[.string r.f0, .string r.f1]) false).run Tryz.prog W = .ok (.slice A (lookO O r).length c) W ∧ (lookO O r).length ≤ c ∧ Kd.C k59 w A (lookO O r).length (lookO O r) := by
 obtain ⟨V, n, D, hn, own, at_, rows⟩ := h.own
 obtain ⟨v, ps, hrun, hR⟩ := own.lookup keyed58 Tryz.underlying43 (z := .slice none 0 0) (Tryz.zeroValue44 W) (zd := encA (.slice none 0 0)) (zp := []) rfl (key58 r hr)
 rw [at_ r _ hr] at hR
 have inv : ∀ {u : Value} {A : Option Addr} {n c : Nat} {qs : List MemPlace}, sliA u = some (encA (.slice A n c), qs) → u = .slice A n c := fun {u A n c qs} hu => by
  cases u with
  | slice A' n' c' =>
   rw [sliA_slice] at hu
   exact sliA_inj (Prod.mk.inj (zy hu)).1
  | _ => simp [sliA] at hu
 by_cases e : r ∈ O.map (·.1)
 ·rw [if_pos e] at hR
  obtain ⟨A, c, hV, hc, hC⟩ := rows r e
  rw [hV] at hR
  exact ⟨A, c, by rw [hrun, inv hR], hc, hC⟩
 ·rw [if_neg e] at hR
  have hl : lookO O r = [] := by
   unfold lookO
   rw [List.find?_eq_none.2 (fun p hp => by simp only [decide_eq_true_eq]; exact fun e' => e (List.mem_map.2 ⟨p, hp, e'⟩))]
   rfl
  rw [hl]
  exact ⟨none, 0, by rw [hrun, inv hR]; rfl, Nat.le_refl _, ⟨rfl, by simp, fun hp => absurd hp (by simp)⟩⟩
theorem OM.put {w W : World} {b : Nat} {O : List (S59 × List S59)} (h : OM w W b O) (hl : O.length < maxLen) {r : S59} (hr : r.f0.size ≤ maxLen ∧ r.f1.size ≤ maxLen) {l : List S59} {A : Option Addr} {c : Nat} (hc : l.length ≤ c) (hC : Kd.C k59 w A l.length l) :
  ∃ W2, (Instr.mapUpdate 43 (.map (some b)) (.agg #[.string r.f0, .string r.f1]) (.slice A l.length c)).run Tryz.prog W = .ok () W2 ∧ OM w W2 b ((r, l) :: O) ∧ W.grownBy W2 (some b) := by
 obtain ⟨V, n, D, hn, own, at_, rows⟩ := h.own
 obtain ⟨W2, hrun, ho, hg⟩ := own.update keyed58 Tryz.underlying43 (Nat.lt_of_le_of_lt hn hl) (key58 r hr) (val := .slice A l.length c) (d := encA (.slice A l.length c)) (ps := []) (sliA_slice A l.length c)
 have hlk : ∀ x, lookO ((r, l) :: O) x = if r = x then l else lookO O x := fun x => by
  unfold lookO
  rw [List.find?_cons]
  by_cases e : r = x <;> simp [e]
 refine ⟨W2, hrun, ⟨h.hb, fun x => if x = r then .slice A l.length c else V x, n + 1, _, by simp; omega, ho, fun x zd hx => ?_, fun x hx => ?_⟩, hg⟩
 ·by_cases e : x = r
  ·subst e
   rw [Maps.atKey_put_same own.isMap (keyed58.key (key58 x hx))]
   simp
  ·have hm : x ∈ ((r, l) :: O).map (·.1) ↔ x ∈ O.map (·.1) := by rw [List.map_cons, List.mem_cons]; simp [e]
   rw [Maps.atKey_put_other (fun e' => e (key58_inj hx hr e')), at_ x zd hx]
   simp only [hm, if_neg e]
 ·rw [hlk]
  by_cases e : x = r
  ·subst e
   rw [if_pos rfl]
   exact ⟨A, c, if_pos rfl, hc, hC⟩
  ·rw [if_neg (fun e' => e e'.symm)]
   obtain ⟨A1, c1, h1, h2, h3⟩ := rows x (by rw [List.map_cons, List.mem_cons] at hx; exact hx.resolve_left e)
   exact ⟨A1, c1, (if_neg e).trans h1, h2, h3⟩
theorem next1 {w W : World} {b bO : Nat} {O : List (S59 × List S59)} (h : OM w W b O) (hbox : W.cell? ⟨bO, 0, none⟩ = some (.map (some b))) (hw : Below w.heap.size w W) {r : S59} (hr : r.f0.size ≤ maxLen ∧ r.f1.size ≤ maxLen) :
  Calls Tryz.prog 19 #[.agg #[.string r.f0, .string r.f1], .pointer (some ⟨bO, 0, none⟩)] W fun e W' => ∃ A c, e = .returned (.slice A (lookO O r).length c) ∧ (lookO O r).length ≤ c ∧ Kd.C k59 W' A (lookO O r).length (lookO O r) ∧ Below W.heap.size W W' := by
 have hB : Below W.heap.size W (W.alloc (.cells #[.string r.f0, .string r.f1] 59)) := qAA (Below.refl _ _) _
 obtain ⟨es, cl, hblk⟩ := h.blk
 obtain ⟨A, c, hrun, hc, hC⟩ := (h.at_ (W' := W.alloc (.cells #[.string r.f0, .string r.f1] 59)) (hB.block b (Gen.qAT hblk))).look hr
 have hbox' := qA2 hB hbox
 have HC := zq (And.intro hc (Kd.qAB hC (qA7 hw hB)))
 have HB := zq hB
 clear hC hc hB hw hblk h
 go_enter Tryz.func19, Tryz.ntmps19
 go_wp2_with fail
 go_ret
 exact ⟨A, c, rfl, HC.out.1, HC.out.2, HB.out⟩
theorem next2 {w0 W : World} {b bL : Nat} {P : List (ByteArray × List ByteArray)} {g : ByteArray → Value} (h : LM w0 W b P g) (hbox : W.cell? ⟨bL, 0, none⟩ = some (.map (some b))) {s : ByteArray} (hs : s.size ≤ maxLen) :
  Calls Tryz.prog 22 #[.string s, .pointer (some ⟨bL, 0, none⟩)] W fun e W' => ∃ A c, e = .returned (.slice A (qEQ P s).length c) ∧ (qEQ P s).length ≤ c ∧ Kd.C Kd.string W' A (qEQ P s).length (qEQ P s) ∧ Below W.heap.size W W' := by
 have hl := h.look hs
 obtain ⟨A, c, e, hc, hC⟩ := Kd.qE5 (Kd.R_of_own (h1 := fun _ => rfl) (h.rows s) (ok := fun _ => True) (fun _ _ => trivial))
 rw [e] at hl
 have HC := zq (And.intro hc hC)
 clear e hC hc h
 go_enter Tryz.func22, Tryz.ntmps22
 go_wp2_with fail
 go_ret
 exact ⟨A, c, rfl, HC.out.1, HC.out.2, Below.refl _ _⟩
def articleF (b : List S49) (x : S55) : Option Int := Gen.lim fun k => qB5.f k b x.f0 x.f1 x.f2 x.f3 x.f4 x.f5
def overF (b : List S49) (an : ByteArray) (x : S55) : Option Int := Gen.lim fun k => qB6.f k b an x.f0 x.f0 x.f1 x.f2 x.f3 x.f4 x.f5
def limitsF (b : List S49) : Option Int := Gen.lim fun k => qB9.f k b
abbrev Refs := List S59
abbrev qG0 := List (S59 × List S59)
def chk_in (b : List S49) (an : ByteArray) : List S55 → List ByteArray → Refs → qG0 → Option (Int × Refs × qG0)
 | [], _, R, O => some (0, R, O)
 | x :: r, L, R, O => if L.length < 1000000 ∧ R.length < 1000000 ∧ O.length < 1000000 ∧ an.size ≤ maxLen ∧ x.f0.size ≤ maxLen then (if addR L x.f0 ≠ 0 then some (addR L x.f0, R, O) else (articleF b x).bind fun e => if e ≠ 0 then some (e, R, O) else chk_in b an r (x.f0 :: L) (R ++ [⟨an, x.f0⟩]) ((⟨an, x.f0⟩, x.f4) :: O)) else none
def qEJ (b : List S49) : List S49 → Refs → qG0 → Option (Int × Refs × qG0)
 | [], R, O => some (0, R, O)
 | a :: r, R, O => (chk_in b a.f0 a.f5 [] R O).bind fun p => if p.1 ≠ 0 then some p else qEJ b r p.2.1 p.2.2
def qEW (b : List S49) (an : ByteArray) : List S55 → Option Int
 | [] => some 0
 | x :: r => (overF b an x).bind fun e => if e ≠ 0 then some e else qEW b an r
def qDI (b : List S49) : List S49 → Option Int
 | [] => some 0
 | a :: r => (qEW b a.f0 a.f5).bind fun e => if e ≠ 0 then some e else qDI b r
def allRefs (R : Refs) (O : qG0) : List S59 := R ++ O.flatMap fun p => p.2
def qF0 (P : List (ByteArray × List ByteArray)) : List ByteArray := P.flatMap fun p => p.1 :: p.2
open Classical in
def chk_last (P : List (ByteArray × List ByteArray)) : Option Int := if (∀ s, s ∈ qF0 P → s.size ≤ maxLen) ∧ 2 * (qF0 P).length < maxLen ∧ P.length < 1000000 then (if ∃ s, s ∈ P.map (·.1) ∧ Dfs.Cyc (qEQ P) s then some 10 else some 0) else none
open Classical in
def chk_end (b : List S49) (R : Refs) (O : qG0) : Option Int := if (∀ x, x ∈ allRefs R O → x.f0.size ≤ maxLen ∧ x.f1.size ≤ maxLen) ∧ 2 * (allRefs R O).length < maxLen then (if ∃ x, x ∈ R ∧ Dfs.Cyc (lookO O) x then some 10 else (qCG.f b).bind chk_last) else none
def chk_k2 (b : List S49) (R : Refs) (O : qG0) (e : Int) : Option Int := if e ≠ 0 then some e else chk_end b R O
def chk_k1 (b : List S49) (p : Int × Refs × qG0) : Option Int := if p.1 ≠ 0 then some p.1 else (qDI b b).bind (chk_k2 b p.2.1 p.2.2)
def qBZ.f (l0 : List S49) : Option Int := (limitsF l0).bind fun e => if e ≠ 0 then some e else (qBF.f l0).bind fun e => if e ≠ 0 then some e else (qEJ l0 l0 [] []).bind (chk_k1 l0)
theorem lookO_mem {O : qG0} {x y : S59} (h : y ∈ lookO O x) : y ∈ O.flatMap fun p => p.2 := by
 unfold lookO at h
 cases hf : O.find? (fun p => decide (p.1 = x)) with
 | none => rw [hf] at h; simp at h
 | some p => rw [hf] at h; exact List.mem_flatMap.2 ⟨p, List.mem_of_find?_eq_some hf, by simpa using h⟩
theorem lookN_mem {P : List (ByteArray × List ByteArray)} {x y : ByteArray} (h : y ∈ qEQ P x) : y ∈ qF0 P := by
 obtain ⟨p, hp, hy⟩ := List.mem_flatMap.1 h
 exact List.mem_flatMap.2 ⟨p, (List.mem_filter.1 hp).1, zz _ hy⟩
structure CI (w W : World) (bm bO : Nat) (v : Value) (R : Refs) (O : qG0) : Prop where
 hB : Below w.heap.size w W
 om : OM w W bm O
 box : W.heap[bO]? = some (.cells #[.map (some bm)] 43 (0, 0))
 row : W.ownsRow w.heap.size 59 2 v R.length (R.flatMap qBU.enc)
theorem qF5 {W : World} {base n : Nat} {v : Value} {xs : List Value} (h : W.ownsRow base 59 2 v n xs) {k : Nat} (hk : v.ownBlock = some k) : base ≤ k ∧ ∃ cells, W.heap[k]? = some (.cells cells 59 (0, 0)) := by
 rcases h.2 with ⟨rfl, _⟩ | ⟨g, cap, cur, rfl, hg, hb, _⟩
 ·simp [Value.ownBlock] at hk
 ·have : g = k := by simpa [Value.ownBlock] using hk
  subst this
  exact ⟨hg, cur, hb⟩
theorem CI.keep {w W W' : World} {bm bO : Nat} {v : Value} {R : Refs} {O : qG0} (h : CI w W bm bO v R O) (hB : Below W.heap.size W W') : CI w W' bm bO v R O := by
 obtain ⟨es, cl, hb⟩ := h.om.blk
 exact ⟨qA7 h.hB hB, h.om.at_ (hB.block bm (Gen.qAT hb)), qAF h.box (qAN hB none) (by simp), qCY h.row (fun k hk => by obtain ⟨_, cells, hc⟩ := qF5 h.row hk; exact hB.block k (Gen.qAT hc))⟩
theorem CI.grown {w W W' : World} {bm bO bl : Nat} {v : Value} {R : Refs} {O : qG0} {L : List ByteArray} (h : CI w W bm bO v R O) (hn : Names W bl L) (hne : bl ≠ bm) (hl : w.heap.size ≤ bl) (hg : W.grownBy W' (some bl)) : CI w W' bm bO v R O := by
 obtain ⟨es, cl, hb⟩ := h.om.blk
 obtain ⟨n, D, _, ⟨es2, cl2, hb2, _⟩, _⟩ := hn.own
 refine ⟨qBI h.hB (some bl) h.hB.size hg (fun k e => by obtain rfl := zy e; exact hl), h.om.at_ (hg.block bm (Gen.qAT hb) (fun e => hne (zy e).symm)), qAF h.box hg (fun e => ?_), qCY h.row (fun k hk => ?_)⟩
 ·have := zy e; subst this; have := hb2.symm.trans h.box; cases this
 ·obtain ⟨_, cells, hc⟩ := qF5 h.row hk
  exact hg.block k (Gen.qAT hc) (fun e => by have := zy e; subst this; have := hb2.symm.trans hc; cases this)
theorem wp_app {ops : Array Oper} {rest : List Oper} {o : Oper} {a : Act} {Q : Exit → Act → World → Prop} {W w1 : World} {v1 : Value} (hgd : o.guard = none) (s x : Operand) (t : TypeId) (ho : o.op = .call { callee := .builtin .append, args := #[s, x], argTypes := #[t, t] }) (hty : o.type = t)
  (v u : Value) (hs : a.eval s = v) (hx : a.eval x = u) (hr : (Builtin.append_ #[t, t] t #[v, u]).run Tryz.prog W = .ok v1 w1) (h : wpList Tryz.prog ops Q rest (a.put o.dst v1) w1) : wpList Tryz.prog ops Q (o :: rest) a W := by
 refine wpList_plain hgd fun K hK => ?_
 unfold Oper.wp execOp
 simp only [ho, resolve, invoke, builtin, Sem.run_bind, Sem.run_pure, Result.andThen_ok, List.map_toArray, List.map_cons, List.map_nil, hs, hx, hty, hr]
 exact hK _ _ h
theorem key9_inv {key : Value} {kl : Lit} (h : keyOf Tryz.prog 9 key = some kl) : ∃ s : ByteArray, key = .string s ∧ kl = .string s.data.toList ∧ s.size ≤ maxLen := by
 cases key <;> simp [keyOf, Tryz.underlying9, mapKey] at h
 exact ⟨_, rfl, h.2.symm, h.1⟩
theorem qBZ.calls (A0 : Option Addr) (c0 : Nat) (l0 : List (S49)) (r : Int) (w : World) (hr0 : Kd.C k49 w A0 l0.length l0) (hc0 : l0.length ≤ c0) (h : qBZ.f l0 = some r) :
  Calls Tryz.prog 5 #[.slice A0 l0.length c0] w fun e w' => e = .returned (.int .i64 r) ∧ Below w.heap.size w w' := by
 have HR := zq hr0
 have HC := zq hc0
 have hm : l0.length ≤ 9223372036854775807 := Kd.qE9 hr0
 obtain ⟨e1, h1, h⟩ := Option.bind_eq_some_iff.mp h
 obtain ⟨k1, h1⟩ := Gen.lim_some h1
 have H1 := zq h1
 have H2 := zq h
 clear hr0 hc0 h1 h
 have hmm := @run_makeMap Tryz.prog
 go_enter Tryz.func5, Tryz.ntmps5
 go_wp2_with fail
 refine (qB9.calls k1 A0 c0 l0 e1 w HR.out HC.out H1.out).mono ?_
 rintro e W1 ⟨rfl, hb1⟩
 by_cases c1 : e1 = 0
 case neg =>
  have hr : r = e1 := by have := H2.out; rw [if_pos c1] at this; exact (zy this).symm
  subst hr
  have HB := zq hb1
  have c1b : (r != 0) = true := bne_iff_ne.mpr c1
  clear c1 hb1
  go_wp2_with fail
  go_ret
  exact ⟨rfl, HB.out⟩
 subst c1
 obtain ⟨e2, h3, h4⟩ := Option.bind_eq_some_iff.mp (by have := H2.out; rwa [if_neg (by simp)] at this)
 have H3 := zq h3
 have H4 := zq h4
 have HB1 := zq hb1
 clear h3 h4 hb1 H2
 go_wp2_with fail
 refine (qBF.calls A0 c0 l0 e2 W1 (Kd.qAB HR.out HB1.out) HC.out H3.out).mono ?_
 rintro e W2 ⟨rfl, hb2⟩
 have HB2 := zq (qA7 HB1.out hb2)
 clear hb2
 by_cases c2 : e2 = 0
 case neg =>
  have hr : r = e2 := by have := H4.out; rw [if_pos c2] at this; exact (zy this).symm
  subst hr
  have c2b : (r != 0) = true := bne_iff_ne.mpr c2
  clear c2
  go_wp2_with fail
  go_ret
  exact ⟨rfl, HB2.out⟩
 subst c2
 have H5 := zq (by have := H4.out; rwa [if_neg (by simp)] at this)
 clear H4 HB1
 generalize hW3 : (W2.alloc (.map #[] 0)).alloc (.cells #[.map (some W2.heap.size)] 43) = W3
 have hc3 : CI w W3 W2.heap.size (W2.heap.size + 1) (.slice none 0 0) [] [] := by
  rw [← hW3]
  have o1 := (OM.made w W2 HB2.out.size)
  have bb := qAA (Below.refl (W2.alloc (.map #[] 0)).heap.size (W2.alloc (.map #[] 0))) (.cells #[.map (some W2.heap.size)] 43)
  refine ⟨qAA (qAA HB2.out _) _, o1.at_ (bb.block _ (by simp)), ?_, own_nil _ _ _ _⟩
  have h := heap_alloc_new (W2.alloc (.map #[] 0)) (.cells #[.map (some W2.heap.size)] 43)
  rwa [show (W2.alloc (.map #[] 0)).heap.size = W2.heap.size + 1 from by simp] at h
 have HW3 := zq hW3
 have HCI := zq hc3
 have hw2 : w.heap.size ≤ W2.heap.size := HB2.out.size
 clear hW3 hc3
 go_wp2_with fail
 rw [HW3.out]
 clear HW3
 go_loopw [6, 36] (fun v6 v36 wr => ∃ (i : Nat) (R : Refs) (O : qG0), i ≤ l0.length ∧ v36 = .int .i64 (i : Int) ∧ qA0 ((qEJ l0 (l0.drop i) R O).bind (chk_k1 l0) = some r) ∧ qA0 (CI w wr W2.heap.size (W2.heap.size + 1) v6 R O)) (fun _ v36 _ => l0.length - (RowKit.intOf v36).toNat)
 case atStart => exact ⟨0, [], [], by omega, rfl, ⟨by simpa using H5.out⟩, HCI⟩
 clear H5 HCI
 obtain ⟨i, R, O, hi, rfl, HG, HCI⟩ := hrel
 by_cases hlt : i < l0.length
 ·obtain ⟨ad, A3, c3, A4, c4, A5, c5, e0, hx0, hx1, hx2, hx3, hx4, hx5, hl3, hi3, hl4, hi4, hl5, hi5⟩ := qEY HR.out (i : Int) (by omega) (by omega)
  cases e0
  simp only [Int.toNat_natCast] at hx0 hx1 hx2 hx3 hx4 hx5
  have hB := HCI.out.hB
  replace hx0 := (hB.cell (World.block_lt_of_cell? w _ hx0)).trans hx0
  replace hx1 := (hB.cell (World.block_lt_of_cell? w _ hx1)).trans hx1
  replace hx2 := (hB.cell (World.block_lt_of_cell? w _ hx2)).trans hx2
  replace hx3 := (hB.cell (World.block_lt_of_cell? w _ hx3)).trans hx3
  replace hx4 := (hB.cell (World.block_lt_of_cell? w _ hx4)).trans hx4
  replace hx5 := (hB.cell (World.block_lt_of_cell? w _ hx5)).trans hx5
  have hd : l0.drop i = qA4 l0 (i : Int) :: l0.drop (i + 1) := by rw [List.drop_eq_getElem_cons hlt]; simp [qA4, hlt]
  have hG := HG.out
  rw [hd] at hG
  generalize qA4 l0 (i : Int) = a at *
  simp only [qEJ] at hG
  have HG1 := zq hG
  have HI5 := zq (And.intro hl5 hi5)
  have hm5 := Kd.qE9 hi5
  have HS := zq (Gen.qEC hlt hm)
  clear hG HG hd hl3 hi3 hl4 hi4 hl5 hi5 hB
  obtain ⟨wo, rfl⟩ : ∃ wo : World, wo = wr := ⟨_, rfl⟩
  generalize hWa : (wo.alloc (.cells #[.string a.f0, .int .i64 a.f1, .int .i64 a.f2, .slice A3 a.f3.length c3, .slice A4 a.f4.length c4, .slice A5 a.f5.length c5] 49)).alloc (.map #[] 0) = Wa
  have hb' : Below wo.heap.size wo (wo.alloc (.cells #[.string a.f0, .int .i64 a.f1, .int .i64 a.f2, .slice A3 a.f3.length c3, .slice A4 a.f4.length c4, .slice A5 a.f5.length c5] 49)) := qAA (Below.refl _ _) _
  have hb'' := qAA (Below.refl (wo.alloc (.cells #[.string a.f0, .int .i64 a.f1, .int .i64 a.f2, .slice A3 a.f3.length c3, .slice A4 a.f4.length c4, .slice A5 a.f5.length c5] 49)).heap.size (wo.alloc (.cells #[.string a.f0, .int .i64 a.f1, .int .i64 a.f2, .slice A3 a.f3.length c3, .slice A4 a.f4.length c4, .slice A5 a.f5.length c5] 49))) (.map #[] 0)
  have hBa : Below wo.heap.size wo Wa := by rw [← hWa]; exact qA7 hb' hb''
  have hKa : Wa.heap[wo.heap.size]? = some (.cells #[.string a.f0, .int .i64 a.f1, .int .i64 a.f2, .slice A3 a.f3.length c3, .slice A4 a.f4.length c4, .slice A5 a.f5.length c5] 49 (0, 0)) := by rw [← hWa]; exact qAF (heap_alloc_new _ _) (qAN hb'' none) (by simp)
  have hNa : Names Wa (wo.heap.size + 1) [] := by
   have h := Names.made (wo.alloc (.cells #[.string a.f0, .int .i64 a.f1, .int .i64 a.f2, .slice A3 a.f3.length c3, .slice A4 a.f4.length c4, .slice A5 a.f5.length c5] 49))
   rw [← hWa]
   rwa [show (wo.alloc (.cells #[.string a.f0, .int .i64 a.f1, .int .i64 a.f2, .slice A3 a.f3.length c3, .slice A4 a.f4.length c4, .slice A5 a.f5.length c5] 49)).heap.size = wo.heap.size + 1 from by simp] at h
  have hza : wo.heap.size + 1 < Wa.heap.size := hNa.lt
  have hwo : W2.heap.size + 1 < wo.heap.size := Gen.qAT HCI.out.box
  have HWa := zq hWa
  have HCa := zq (HCI.out.keep hBa)
  have HKa := zq hKa
  have HNa := zq hNa
  have hk5 : Wa.cell? ⟨wo.heap.size, 5, none⟩ = some (.slice A5 a.f5.length c5) := (qA1 hKa 5).trans rfl
  clear hWa hb' hb'' hBa hKa hNa HCI
  go_wp2_with fail
  rw [HWa.out]
  clear HWa hx0 hx1 hx2 hx3 hx4 hx5 hk5
  go_loopw [6, 44] (fun v6 v44 wx => ∃ (j : Nat) (L : List ByteArray) (R' : Refs) (O' : qG0), j ≤ a.f5.length ∧ v44 = .int .i64 (j : Int) ∧ qA0 (∃ p, chk_in l0 a.f0 (a.f5.drop j) L R' O' = some p ∧ (if p.1 ≠ 0 then some p else qEJ l0 (l0.drop (i + 1)) p.2.1 p.2.2).bind (chk_k1 l0) = some r) ∧ qA0 (CI w wx W2.heap.size (W2.heap.size + 1) v6 R' O') ∧ qA0 (Names wx (wo.heap.size + 1) L) ∧ qA0 (wx.heap[wo.heap.size]? = some (.cells #[.string a.f0, .int .i64 a.f1, .int .i64 a.f2, .slice A3 a.f3.length c3, .slice A4 a.f4.length c4, .slice A5 a.f5.length c5] 49 (0, 0)))) (fun _ v44 _ => a.f5.length - (RowKit.intOf v44).toNat)
  case atStart =>
   obtain ⟨q, hq, hK⟩ := zi HG1.out
   obtain ⟨p, hp, hF⟩ := Option.bind_eq_some_iff.mp hq
   exact ⟨0, [], R, O, by omega, rfl, ⟨⟨p, by simpa using hp, Option.bind_eq_some_iff.mpr ⟨q, hF, hK⟩⟩⟩, HCa, HNa, HKa⟩
  clear HG1 HCa HNa HKa
  obtain ⟨j, L, R', O', hj, rfl, HG2, HC2, HN2, HK2⟩ := hrel
  by_cases hjl : j < a.f5.length
  rotate_left
  ·obtain rfl : j = a.f5.length := by omega
   obtain ⟨p, hp, hK⟩ := HG2.out
   rw [List.drop_length] at hp
   simp only [chk_in] at hp
   obtain rfl := zy hp
   have HG3 := zq (by simpa using hK : (qEJ l0 (l0.drop (i + 1)) R' O').bind (chk_k1 l0) = some r)
   have hs := HS.out
   clear HG2 hp hK hj
   go_wp2_with fail
   go_roundw
   case rel => exact ⟨i + 1, R', O', by omega, by first | rfl | (simp; done) | rw [Int.natCast_add]; rfl, HG3, HC2⟩
   case measure => simp [RowKit.intOf]; omega
  obtain ⟨ad5, B2, d2, B3, d3, B4, d4, e5, y0, y1, y2, y3, y4, y5, hl2, hi2, hl3, hi3, hl4, hi4⟩ := at_T55 HI5.out.2 (j : Int) (by omega) (by omega)
  cases e5
  simp only [Int.toNat_natCast] at y0 y1 y2 y3 y4 y5
  have hB := HC2.out.hB
  replace y0 := (hB.cell (World.block_lt_of_cell? w _ y0)).trans y0
  replace y1 := (hB.cell (World.block_lt_of_cell? w _ y1)).trans y1
  replace y2 := (hB.cell (World.block_lt_of_cell? w _ y2)).trans y2
  replace y3 := (hB.cell (World.block_lt_of_cell? w _ y3)).trans y3
  replace y4 := (hB.cell (World.block_lt_of_cell? w _ y4)).trans y4
  replace y5 := (hB.cell (World.block_lt_of_cell? w _ y5)).trans y5
  have hd : a.f5.drop j = qAY a.f5 (j : Int) :: a.f5.drop (j + 1) := by rw [List.drop_eq_getElem_cons hjl]; simp [qAY, hjl]
  obtain ⟨p, hp, hK⟩ := HG2.out
  rw [hd] at hp
  generalize qAY a.f5 (j : Int) = x at hp y0 y1 y2 y3 y4 y5 hl2 hi2 hl3 hi3 hl4 hi4
  simp only [chk_in] at hp
  by_cases hg : L.length < 1000000 ∧ R'.length < 1000000 ∧ O'.length < 1000000 ∧ a.f0.size ≤ maxLen ∧ x.f0.size ≤ maxLen
  case neg => rw [if_neg hg] at hp; cases hp
  rw [if_pos hg] at hp
  obtain ⟨g1, g2, g3, g4, g5⟩ := hg
  have HP := zq hp
  have HK := zq hK
  have HI2 := zq (And.intro hl2 hi2)
  have HI3 := zq (And.intro hl3 hi3)
  have HI4 := zq (And.intro hl4 hi4)
  have HS2 := zq (Gen.qEC hjl hm5)
  clear hp hK HG2 hd hB hl2 hi2 hl3 hi3 hl4 hi4
  obtain ⟨wi, rfl⟩ : ∃ wi : World, wi = wr := ⟨_, rfl⟩
  obtain ⟨v6, rfl⟩ : ∃ v6 : Value, v6 = u6 := ⟨_, rfl⟩
  generalize hW5 : wi.alloc (.cells #[.string x.f0, .string x.f1, .slice B2 x.f2.length d2, .slice B3 x.f3.length d3, .slice B4 x.f4.length d4, .int .i64 x.f5] 55) = W5
  have hB5 : Below wi.heap.size wi W5 := by rw [← hW5]; exact qAA (Below.refl _ _) _
  have hK5 : W5.heap[wi.heap.size]? = some (.cells #[.string x.f0, .string x.f1, .slice B2 x.f2.length d2, .slice B3 x.f3.length d3, .slice B4 x.f4.length d4, .int .i64 x.f5] 55 (0, 0)) := by rw [← hW5]; exact heap_alloc_new _ _
  have hwi : wo.heap.size + 1 < wi.heap.size := HN2.out.lt
  have hz5 : W5.heap.size = wi.heap.size + 1 := by rw [← hW5]; simp
  have HW5 := zq hW5
  have HC5 := zq (HC2.out.keep hB5)
  have HN5 := zq (HN2.out.below hB5)
  have HKa5 := zq (qAF HK2.out (qAN hB5 none) (by simp))
  have HK5 := zq hK5
  clear hW5 hB5 hK5 HC2 HN2 HK2
  go_wp2_with fail
  rw [HW5.out]
  refine (names_add.walk (wo.heap.size + 1) L x.f0 W5 HN5.out (by simp only [maxLen]; omega)).mono ?_
  rintro e W6 ⟨rfl, hn, hg6⟩
  have HK6 := zq (qAF HK5.out hg6 (by simp; omega))
  have HKa6 := zq (qAF HKa5.out hg6 (by simp))
  have HC6 := zq (HC5.out.grown HN5.out (by omega) (by omega) hg6)
  have hz6 := hg6.size
  have HN6 := zq hn
  clear hn hg6 HK5 HKa5 HC5 HN5 HW5 y0 y1 y2 y3 y4 y5
  generalize addR L x.f0 = e3 at *
  by_cases c3 : e3 = 0
  case neg =>
   have hr : r = e3 := by
    have h := HP.out
    rw [if_pos c3] at h
    obtain rfl := zy h
    have h := HK.out
    rw [if_pos (by simpa using c3), Option.bind_some] at h
    simp only [chk_k1] at h
    rw [if_pos (by simpa using c3)] at h
    exact (zy h).symm
   subst hr
   have c3b : (r != 0) = true := bne_iff_ne.mpr c3
   clear c3
   go_wp2_with fail
   go_ret
   exact ⟨rfl, HC6.out.hB⟩
  subst c3
  rw [if_pos rfl] at HN6
  obtain ⟨e4, h6, h7⟩ := Option.bind_eq_some_iff.mp (by have := HP.out; rwa [if_neg (by simp)] at this)
  obtain ⟨k4, h6⟩ := Gen.lim_some h6
  have H6 := zq h6
  have H7 := zq h7
  clear h6 h7 HP
  have z0 := (qA1 HK6.out 0).trans rfl
  have z1 := (qA1 HK6.out 1).trans rfl
  have z2 := (qA1 HK6.out 2).trans rfl
  have z3 := (qA1 HK6.out 3).trans rfl
  have z4 := (qA1 HK6.out 4).trans rfl
  have z5 := (qA1 HK6.out 5).trans rfl
  go_wp2_with fail
  refine (qB5.calls k4 (some ad) c0 l0 x.f0 x.f1 B2 d2 x.f2 B3 d3 x.f3 B4 d4 x.f4 x.f5 e4 W6 (Kd.qAB HR.out HC6.out.hB) HC.out (Kd.qAB HI2.out.2 HC6.out.hB) HI2.out.1 (Kd.qAB HI3.out.2 HC6.out.hB) HI3.out.1 (Kd.qAB HI4.out.2 HC6.out.hB) HI4.out.1 H6.out).mono ?_
  rintro e W7 ⟨rfl, hb7⟩
  have HC7 := zq (HC6.out.keep hb7)
  have HN7 := zq (HN6.out.below hb7)
  have HK7 := zq (qAF HK6.out (qAN hb7 none) (by simp))
  have HKa7 := zq (qAF HKa6.out (qAN hb7 none) (by simp))
  have hz7 := hb7.size
  clear hb7 HC6 HN6 HK6 HKa6 z0 z1 z2 z3 z4 z5
  by_cases c4 : e4 = 0
  case neg =>
   have hr : r = e4 := by
    have h := H7.out
    rw [if_pos c4] at h
    obtain rfl := zy h
    have h := HK.out
    rw [if_pos (by simpa using c4), Option.bind_some] at h
    simp only [chk_k1] at h
    rw [if_pos (by simpa using c4)] at h
    exact (zy h).symm
   subst hr
   have c4b : (r != 0) = true := bne_iff_ne.mpr c4
   clear c4
   go_wp2_with fail
   go_ret
   exact ⟨rfl, HC7.out.hB⟩
  subst c4
  have HGn := zq (show ∃ p, chk_in l0 a.f0 (a.f5.drop (j + 1)) (x.f0 :: L) (R' ++ [⟨a.f0, x.f0⟩]) ((⟨a.f0, x.f0⟩, x.f4) :: O') = some p ∧ (if p.1 ≠ 0 then some p else qEJ l0 (l0.drop (i + 1)) p.2.1 p.2.2).bind (chk_k1 l0) = some r from ⟨p, by have := H7.out; rwa [if_neg (by simp)] at this, HK.out⟩)
  clear H7 HK
  generalize hW8 : W7.alloc (.cells #[.string a.f0, .string x.f0] 59) = W8
  have hB8 : Below W7.heap.size W7 W8 := by rw [← hW8]; exact qAA (Below.refl _ _) _
  have hz8 : W8.heap.size = W7.heap.size + 1 := by rw [← hW8]; simp
  have kr8 : W8.heap[W7.heap.size]? = some (.cells #[.string a.f0, .string x.f0] 59 (0, 0)) := by rw [← hW8]; exact heap_alloc_new _ _
  have HC8 := (HC7.out.keep hB8)
  have HN8 := zq (HN7.out.below hB8)
  have kx8 := qAF HK7.out (qAN hB8 none) (by simp)
  have ka8 := qAF HKa7.out (qAN hB8 none) (by simp)
  have kb8 := HC8.box
  have HW8 := zq hW8
  have za := (qA1 HKa7.out 0).trans rfl
  have zx := (qA1 HK7.out 0).trans rfl
  have hv6 : ∀ k, v6.ownBlock = some k → k < W7.heap.size ∧ ∃ cells, W8.heap[k]? = some (.cells cells 59 (0, 0)) := fun k hk => by
   obtain ⟨_, cells, hc⟩ := qF5 HC7.out.row hk
   exact ⟨Gen.qAT hc, cells, (hB8.block k (Gen.qAT hc)).trans hc⟩
  clear hW8 HC7 HN7
  obtain ⟨WD, hWD⟩ : ∃ WD, WD = W8.drew := ⟨_, rfl⟩
  have hDh : WD.heap = W8.heap := by rw [hWD]; rfl
  obtain ⟨WA, hWA⟩ : ∃ WA, WA = (W8.alloc (.cells #[.string a.f0, .string x.f0] 59)).drew := ⟨_, rfl⟩
  have hgA : W8.grownBy WA none := by rw [hWA]; exact (World.grownBy_alloc W8 _ none).trans (⟨rfl, rfl, rfl, Nat.le_refl _, fun _ _ _ => rfl⟩)
  have hzA : WA.heap.size = W8.heap.size + 1 := by rw [hWA]; simp
  have hAn : WA.heap[W8.heap.size]? = some (.cells #[.string a.f0, .string x.f0] 59 (0, 0)) := by rw [hWA]; exact heap_alloc_new W8 _
  have rowA : WA.ownsRow w.heap.size 59 2 v6 R'.length (R'.flatMap qBU.enc) := qCY HC8.row (fun k hk => hgA.block k (by have := (hv6 k hk).1; omega) (by simp))
  obtain ⟨v1, W9, hr1, o1, gr1, bl1⟩ := refs_app WA w.heap.size v6 R' rowA W8.heap.size ⟨a.f0, x.f0⟩ hAn (by have := HC8.hB.size; omega) (by omega)
  have hz9 := gr1.size
  have far9 : ∀ k, k < W8.heap.size → some k ≠ v6.ownBlock → W9.heap[k]? = W8.heap[k]? := fun k hk h0 => (gr1.block k (by omega) h0).trans (hgA.block k hk (by simp))
  have neT : ∀ {k : Nat} {cs : Array Value} {t : TypeId}, W8.heap[k]? = some (.cells cs t (0, 0)) → t ≠ 59 → some k ≠ v6.ownBlock := fun hk ht e => by
   obtain ⟨_, cells, hc⟩ := hv6 _ e.symm
   have := hk.symm.trans hc
   simp only [Option.some.injEq, Obj.cells.injEq] at this
   exact ht this.2.1
  obtain ⟨es, cl, hbm⟩ := HC8.om.blk
  have hbmlt : W2.heap.size < W8.heap.size := Gen.qAT hbm
  have neM : some W2.heap.size ≠ v6.ownBlock := fun e => by
   obtain ⟨_, cells, hc⟩ := hv6 _ e.symm
   rw [hbm] at hc; cases hc
  have neR : some W7.heap.size ≠ v6.ownBlock := fun e => by have := (hv6 _ e.symm).1; omega
  obtain ⟨W10, hup, hom10, gr2⟩ := (HC8.om.at_ (far9 _ hbmlt neM)).put (by simp only [maxLen]; omega) (r := ⟨a.f0, x.f0⟩) ⟨g4, g5⟩ HI4.out.1 HI4.out.2
  replace hup : (Instr.mapUpdate 43 (.map (some W2.heap.size)) (.agg #[.string a.f0, .string x.f0]) (.slice B4 x.f4.length d4)).run Tryz.prog W9 = .ok () W10 := hup
  have far10 : ∀ k, k < W8.heap.size → some k ≠ v6.ownBlock → k ≠ W2.heap.size → W10.heap[k]? = W8.heap[k]? := fun k hk h0 h1 => (gr2.block k (by omega) (fun e => h1 (zy e))).trans (far9 k hk h0)
  have b10 : W10.heap[W2.heap.size + 1]? = some (.cells #[.map (some W2.heap.size)] 43 (0, 0)) := (far10 _ (Gen.qAT kb8) (neT kb8 (by decide)) (by omega)).trans kb8
  have b9 := (far9 _ (Gen.qAT kb8) (neT kb8 (by decide))).trans kb8
  have bA := qAF kb8 hgA (by simp)
  have x10 := (far10 _ (Gen.qAT kx8) (neT kx8 (by decide)) (by omega)).trans kx8
  have x9 := (far9 _ (Gen.qAT kx8) (neT kx8 (by decide))).trans kx8
  have xA := qAF kx8 hgA (by simp)
  have r10 := (far10 _ (Gen.qAT kr8) neR (by omega)).trans kr8
  have r9 := (far9 _ (Gen.qAT kr8) neR).trans kr8
  have rA := qAF kr8 hgA (by simp)
  have a10 := (far10 _ (Gen.qAT ka8) (neT ka8 (by decide)) (by omega)).trans ka8
  have HKa10 := zq a10
  have HN10 : qA0 (Names W10 (wo.heap.size + 1) (x.f0 :: L)) := ⟨by
   obtain ⟨n, D, hn, ⟨es, cl, hb, F, hs, hD⟩, at_⟩ := HN8.out.own
   have h0 : some (wo.heap.size + 1) ≠ v6.ownBlock := fun e => by
    obtain ⟨_, cells, hc⟩ := hv6 _ e.symm
    rw [hb] at hc; cases hc
   exact ⟨n, D, hn, ⟨es, cl, (far10 _ (Gen.qAT hb) h0 (by omega)).trans hb, F, hs, hD⟩, at_⟩⟩
  have HCI10 : qA0 (CI w W10 W2.heap.size (W2.heap.size + 1) v1 (R' ++ [⟨a.f0, x.f0⟩]) ((⟨a.f0, x.f0⟩, x.f4) :: O')) := ⟨by
   have s1 := qBI HC8.hB none HC8.hB.size hgA (fun k e => by cases e)
   have s2 := qBI s1 v6.ownBlock s1.size gr1 (fun k e => (qF5 HC8.row e).1)
   have s3 := qBI s2 (some W2.heap.size) s2.size gr2 (fun k e => by obtain rfl := zy e; exact hw2)
   refine ⟨s3, hom10, b10, qCY o1 (fun k hk => ?_)⟩
   obtain ⟨_, cells, hc⟩ := qF5 o1 hk
   refine gr2.block k (Gen.qAT hc) (fun e => ?_)
   obtain rfl := zy e
   rw [(far9 _ hbmlt neM).trans hbm] at hc
   cases hc⟩
  rw [hz8] at hr1
  have HR1 := zq hr1
  have sD : W8.drew.cell? ⟨W2.heap.size + 1, 0, none⟩ = some (.map (some W2.heap.size)) ∧ W8.drew.cell? ⟨W7.heap.size, 0, none⟩ = some (.string a.f0) ∧ W8.drew.cell? ⟨W7.heap.size, 1, none⟩ = some (.string x.f0) ∧ W8.drew.cell? ⟨wi.heap.size, 4, none⟩ = some (.slice B4 x.f4.length d4) := ⟨(qA1 (w := W8.drew) kb8 0).trans rfl, (qA1 (w := W8.drew) kr8 0).trans rfl, (qA1 (w := W8.drew) kr8 1).trans rfl, (qA1 (w := W8.drew) kx8 4).trans rfl⟩
  have sA : WA.cell? ⟨W2.heap.size + 1, 0, none⟩ = some (.map (some W2.heap.size)) ∧ WA.cell? ⟨W7.heap.size, 0, none⟩ = some (.string a.f0) ∧ WA.cell? ⟨W7.heap.size, 1, none⟩ = some (.string x.f0) ∧ WA.cell? ⟨wi.heap.size, 4, none⟩ = some (.slice B4 x.f4.length d4) := ⟨(qA1 bA 0).trans rfl, (qA1 rA 0).trans rfl, (qA1 rA 1).trans rfl, (qA1 xA 4).trans rfl⟩
  have s9 : W9.cell? ⟨W2.heap.size + 1, 0, none⟩ = some (.map (some W2.heap.size)) ∧ W9.cell? ⟨W7.heap.size, 0, none⟩ = some (.string a.f0) ∧ W9.cell? ⟨W7.heap.size, 1, none⟩ = some (.string x.f0) ∧ W9.cell? ⟨wi.heap.size, 4, none⟩ = some (.slice B4 x.f4.length d4) := ⟨(qA1 b9 0).trans rfl, (qA1 r9 0).trans rfl, (qA1 r9 1).trans rfl, (qA1 x9 4).trans rfl⟩
  have s10 : W10.cell? ⟨W2.heap.size + 1, 0, none⟩ = some (.map (some W2.heap.size)) ∧ W10.cell? ⟨W7.heap.size, 0, none⟩ = some (.string a.f0) ∧ W10.cell? ⟨W7.heap.size, 1, none⟩ = some (.string x.f0) ∧ W10.cell? ⟨wi.heap.size, 4, none⟩ = some (.slice B4 x.f4.length d4) := ⟨(qA1 b10 0).trans rfl, (qA1 r10 0).trans rfl, (qA1 r10 1).trans rfl, (qA1 x10 4).trans rfl⟩
  rw [hWA] at HR1 sA
  clear hr1 hWD hDh hgA hzA hAn rowA o1 gr1 bl1 hz9 far9 neT hbm neM neR hom10 gr2 far10 b10 b9 bA x10 x9 xA r10 r9 rA a10 hv6 kr8 kx8 ka8 kb8 HC8 hB8 HN8 hWA WD
  go_wp2_with fail
  rw [HW8.out]
  go_region_held3 (fun w' => w'.cell? ⟨W2.heap.size + 1, 0, none⟩ = some (.map (some W2.heap.size)) ∧ w'.cell? ⟨W7.heap.size, 0, none⟩ = some (.string a.f0) ∧ w'.cell? ⟨W7.heap.size, 1, none⟩ = some (.string x.f0) ∧ w'.cell? ⟨wi.heap.size, 4, none⟩ = some (.slice B4 x.f4.length d4))
   (first | (with_reducible exact sD) | (with_reducible exact sA) | (with_reducible exact s9) | (with_reducible exact s10) | go_keep)
   (first | (refine step_app rfl _ _ 44 rfl rfl v6 (.slice (some ⟨W7.heap.size + 1, 0, none⟩) 1 1) rfl rfl HR1.out ?_))
  have hs := HS2.out
  clear sD sA s9 s10 hup za zx
  go_wp2_with fail
  go_roundw
  case rel => exact ⟨j + 1, x.f0 :: L, R' ++ [⟨a.f0, x.f0⟩], (⟨a.f0, x.f0⟩, x.f4) :: O', by omega, by first | rfl | (simp; done) | rw [Int.natCast_add]; rfl, HGn, HCI10, HN10, HKa10⟩
  case measure => simp [RowKit.intOf]; omega
 obtain rfl : i = l0.length := by omega
 have HG1 := zq (by have := HG.out; rw [List.drop_length] at this; simpa [qEJ, chk_k1] using this : (qDI l0 l0).bind (chk_k2 l0 R O) = some r)
 clear HG hi
 obtain ⟨v6, rfl⟩ : ∃ v6 : Value, v6 = u6 := ⟨_, rfl⟩
 go_wp2_with fail
 go_loopw [78] (fun v78 wx => ∃ (i : Nat), i ≤ l0.length ∧ v78 = .int .i64 (i : Int) ∧ qA0 ((qDI l0 (l0.drop i)).bind (chk_k2 l0 R O) = some r) ∧ qA0 (CI w wx W2.heap.size (W2.heap.size + 1) v6 R O)) (fun v78 _ => l0.length - (RowKit.intOf v78).toNat)
 case atStart => exact ⟨0, by omega, rfl, ⟨by simpa using HG1.out⟩, HCI⟩
 clear HG1 HCI
 obtain ⟨i, hi, rfl, HG, HCI⟩ := hrel
 by_cases hlt2 : i < l0.length
 ·obtain ⟨ad, A3, c3, A4, c4, A5, c5, e0, hx0, hx1, hx2, hx3, hx4, hx5, hl3, hi3, hl4, hi4, hl5, hi5⟩ := qEY HR.out (i : Int) (by omega) (by omega)
  cases e0
  simp only [Int.toNat_natCast] at hx0 hx1 hx2 hx3 hx4 hx5
  have hB := HCI.out.hB
  replace hx0 := (hB.cell (World.block_lt_of_cell? w _ hx0)).trans hx0
  replace hx1 := (hB.cell (World.block_lt_of_cell? w _ hx1)).trans hx1
  replace hx2 := (hB.cell (World.block_lt_of_cell? w _ hx2)).trans hx2
  replace hx3 := (hB.cell (World.block_lt_of_cell? w _ hx3)).trans hx3
  replace hx4 := (hB.cell (World.block_lt_of_cell? w _ hx4)).trans hx4
  replace hx5 := (hB.cell (World.block_lt_of_cell? w _ hx5)).trans hx5
  have hd : l0.drop i = qA4 l0 (i : Int) :: l0.drop (i + 1) := by rw [List.drop_eq_getElem_cons hlt2]; simp [qA4, hlt2]
  have hG := HG.out
  rw [hd] at hG
  generalize qA4 l0 (i : Int) = a at *
  simp only [qDI] at hG
  obtain ⟨q, hq, hK⟩ := Option.bind_eq_some_iff.mp hG
  obtain ⟨p, hp, hF⟩ := Option.bind_eq_some_iff.mp hq
  have HG1 := zq (show ∃ e, qEW l0 a.f0 (a.f5.drop 0) = some e ∧ (if e ≠ 0 then some e else qDI l0 (l0.drop (i + 1))).bind (chk_k2 l0 R O) = some r from ⟨p, by simpa using hp, Option.bind_eq_some_iff.mpr ⟨q, hF, hK⟩⟩)
  have HI5 := zq (And.intro hl5 hi5)
  have hm5 := Kd.qE9 hi5
  have HS := zq (Gen.qEC hlt2 hm)
  clear hG HG hd hl3 hi3 hl4 hi4 hl5 hi5 hB hq hp hF hK
  obtain ⟨wo, rfl⟩ : ∃ wo : World, wo = wr := ⟨_, rfl⟩
  generalize hWa : wo.alloc (.cells #[.string a.f0, .int .i64 a.f1, .int .i64 a.f2, .slice A3 a.f3.length c3, .slice A4 a.f4.length c4, .slice A5 a.f5.length c5] 49) = Wa
  have hBa : Below wo.heap.size wo Wa := by rw [← hWa]; exact qAA (Below.refl _ _) _
  have hKa : Wa.heap[wo.heap.size]? = some (.cells #[.string a.f0, .int .i64 a.f1, .int .i64 a.f2, .slice A3 a.f3.length c3, .slice A4 a.f4.length c4, .slice A5 a.f5.length c5] 49 (0, 0)) := by rw [← hWa]; exact heap_alloc_new _ _
  have HWa := zq hWa
  have HCa := zq (HCI.out.keep hBa)
  have HKa := zq hKa
  have hk5 : Wa.cell? ⟨wo.heap.size, 5, none⟩ = some (.slice A5 a.f5.length c5) := (qA1 hKa 5).trans rfl
  clear hWa hBa hKa HCI
  go_wp2_with fail
  rw [HWa.out]
  clear HWa hx0 hx1 hx2 hx3 hx4 hx5 hk5
  go_loopw [85] (fun v85 wx => ∃ (j : Nat), j ≤ a.f5.length ∧ v85 = .int .i64 (j : Int) ∧ qA0 (∃ e, qEW l0 a.f0 (a.f5.drop j) = some e ∧ (if e ≠ 0 then some e else qDI l0 (l0.drop (i + 1))).bind (chk_k2 l0 R O) = some r) ∧ qA0 (CI w wx W2.heap.size (W2.heap.size + 1) v6 R O) ∧ qA0 (wx.heap[wo.heap.size]? = some (.cells #[.string a.f0, .int .i64 a.f1, .int .i64 a.f2, .slice A3 a.f3.length c3, .slice A4 a.f4.length c4, .slice A5 a.f5.length c5] 49 (0, 0)))) (fun v85 _ => a.f5.length - (RowKit.intOf v85).toNat)
  case atStart => exact ⟨0, by omega, rfl, HG1, HCa, HKa⟩
  clear HG1 HCa HKa
  obtain ⟨j, hj, rfl, HG2, HC2, HK2⟩ := hrel
  by_cases hjl : j < a.f5.length
  rotate_left
  ·obtain rfl : j = a.f5.length := by omega
   obtain ⟨p, hp, hK⟩ := HG2.out
   rw [List.drop_length] at hp
   simp only [qEW] at hp
   obtain rfl := zy hp
   have HG3 := zq (by simpa using hK : (qDI l0 (l0.drop (i + 1))).bind (chk_k2 l0 R O) = some r)
   have hs := HS.out
   clear HG2 hp hK hj
   go_wp2_with fail
   go_roundw
   case rel => exact ⟨i + 1, by omega, by first | rfl | (simp; done) | rw [Int.natCast_add]; rfl, HG3, HC2⟩
   case measure => simp [RowKit.intOf]; omega
  obtain ⟨ad5, B2, d2, B3, d3, B4, d4, e5, y0, y1, y2, y3, y4, y5, hl2, hi2, hl3, hi3, hl4, hi4⟩ := at_T55 HI5.out.2 (j : Int) (by omega) (by omega)
  cases e5
  simp only [Int.toNat_natCast] at y0 y1 y2 y3 y4 y5
  have hB := HC2.out.hB
  replace y0 := (hB.cell (World.block_lt_of_cell? w _ y0)).trans y0
  replace y1 := (hB.cell (World.block_lt_of_cell? w _ y1)).trans y1
  replace y2 := (hB.cell (World.block_lt_of_cell? w _ y2)).trans y2
  replace y3 := (hB.cell (World.block_lt_of_cell? w _ y3)).trans y3
  replace y4 := (hB.cell (World.block_lt_of_cell? w _ y4)).trans y4
  replace y5 := (hB.cell (World.block_lt_of_cell? w _ y5)).trans y5
  have hd : a.f5.drop j = qAY a.f5 (j : Int) :: a.f5.drop (j + 1) := by rw [List.drop_eq_getElem_cons hjl]; simp [qAY, hjl]
  obtain ⟨p, hp, hK⟩ := HG2.out
  rw [hd] at hp
  generalize qAY a.f5 (j : Int) = x at hp y0 y1 y2 y3 y4 y5 hl2 hi2 hl3 hi3 hl4 hi4
  simp only [qEW] at hp
  obtain ⟨e6, h6, h7⟩ := Option.bind_eq_some_iff.mp hp
  obtain ⟨k6, h6⟩ := Gen.lim_some h6
  have H6 := zq h6
  have H7 := zq h7
  have HK := zq hK
  have HI2 := zq (And.intro hl2 hi2)
  have HI3 := zq (And.intro hl3 hi3)
  have HI4 := zq (And.intro hl4 hi4)
  have HS2 := zq (Gen.qEC hjl hm5)
  clear hp hK HG2 hd hB hl2 hi2 hl3 hi3 hl4 hi4 h6 h7
  obtain ⟨wi, rfl⟩ : ∃ wi : World, wi = wr := ⟨_, rfl⟩
  generalize hW5 : wi.alloc (.cells #[.string x.f0, .string x.f1, .slice B2 x.f2.length d2, .slice B3 x.f3.length d3, .slice B4 x.f4.length d4, .int .i64 x.f5] 55) = W5
  have hB5 : Below wi.heap.size wi W5 := by rw [← hW5]; exact qAA (Below.refl _ _) _
  have hK5 : W5.heap[wi.heap.size]? = some (.cells #[.string x.f0, .string x.f1, .slice B2 x.f2.length d2, .slice B3 x.f3.length d3, .slice B4 x.f4.length d4, .int .i64 x.f5] 55 (0, 0)) := by rw [← hW5]; exact heap_alloc_new _ _
  have HW5 := zq hW5
  have HC5 := zq (HC2.out.keep hB5)
  have hKa5 := qAF HK2.out (qAN hB5 none) (by simp)
  have z0 := (qA1 hK5 0).trans rfl
  have z1 := (qA1 hK5 1).trans rfl
  have z2 := (qA1 hK5 2).trans rfl
  have z3 := (qA1 hK5 3).trans rfl
  have z4 := (qA1 hK5 4).trans rfl
  have z5 := (qA1 hK5 5).trans rfl
  have za : (wi.alloc (.cells #[.string x.f0, .string x.f1, .slice B2 x.f2.length d2, .slice B3 x.f3.length d3, .slice B4 x.f4.length d4, .int .i64 x.f5] 55)).cell? ⟨wo.heap.size, 0, none⟩ = some (.string a.f0) := by rw [hW5]; exact (qA1 hKa5 0).trans rfl
  have HKa5 := zq hKa5
  clear hW5 hB5 hK5 HC2 HK2 hKa5
  go_wp2_with fail
  rw [HW5.out]
  clear y0 y1 y2 y3 y4 y5
  refine (qB6.calls k6 (some ad) c0 l0 a.f0 x.f0 x.f0 x.f1 B2 d2 x.f2 B3 d3 x.f3 B4 d4 x.f4 x.f5 e6 W5 (Kd.qAB HR.out HC5.out.hB) HC.out (Kd.qAB HI2.out.2 HC5.out.hB) HI2.out.1 (Kd.qAB HI3.out.2 HC5.out.hB) HI3.out.1 (Kd.qAB HI4.out.2 HC5.out.hB) HI4.out.1 H6.out).mono ?_
  rintro e W7 ⟨rfl, hb7⟩
  have HC7 := zq (HC5.out.keep hb7)
  have HKa7 := zq (qAF HKa5.out (qAN hb7 none) (by simp))
  clear hb7 HC5 HKa5 z0 z1 z2 z3 z4 z5 za HW5
  by_cases c4 : e6 = 0
  case neg =>
   have hr : r = e6 := by
    have h := H7.out
    rw [if_pos c4] at h
    obtain rfl := zy h
    have h := HK.out
    rw [if_pos c4, Option.bind_some] at h
    simp only [chk_k2] at h
    rw [if_pos c4] at h
    exact (zy h).symm
   subst hr
   have c4b : (r != 0) = true := bne_iff_ne.mpr c4
   clear c4
   go_wp2_with fail
   go_ret
   exact ⟨rfl, HC7.out.hB⟩
  subst c4
  have HGn := zq (show ∃ e, qEW l0 a.f0 (a.f5.drop (j + 1)) = some e ∧ (if e ≠ 0 then some e else qDI l0 (l0.drop (i + 1))).bind (chk_k2 l0 R O) = some r from ⟨p, by have := H7.out; rwa [if_neg (by simp)] at this, HK.out⟩)
  clear H7 HK
  have hs := HS2.out
  go_wp2_with fail
  go_roundw
  case rel => exact ⟨j + 1, by omega, by first | rfl | (simp; done) | rw [Int.natCast_add]; rfl, HGn, HC7, HKa7⟩
  case measure => simp [RowKit.intOf]; omega
 obtain rfl : i = l0.length := by omega
 have HE := zq (by have := HG.out; rw [List.drop_length] at this; simpa [qDI, chk_k2] using this : chk_end l0 R O = some r)
 clear HG hi
 obtain ⟨wq, rfl⟩ : ∃ wq : World, wq = wr := ⟨_, rfl⟩
 have hE := HE.out
 unfold chk_end at hE
 by_cases g1 : (∀ x, x ∈ allRefs R O → x.f0.size ≤ maxLen ∧ x.f1.size ≤ maxLen) ∧ 2 * (allRefs R O).length < maxLen
 case neg => rw [if_neg g1] at hE; cases hE
 rw [if_pos g1] at hE
 have HE2 := zq hE
 obtain ⟨Ar, cr, hv6, hcr, hCr⟩ := Kd.qE5 (d := k59) (e := 59) (w := wq) (base := w.heap.size) (ok := fun _ => True) (v := v6) (xs := R) ⟨fun _ _ => trivial, _, HCI.out.row, Gen.flat_reps _ qBU.enc 2 (fun _ => rfl) R (fun p => k59_mkM _ _ _ p)⟩
 subst hv6
 have X : qCZ.Ctx wq (lookO O) (allRefs R O) ⟨W2.heap.size + 1, 0, none⟩ := ⟨fun x y hy => List.mem_append.2 (.inr (lookO_mem hy)), g1.1, fun W hW x hx => by
  have k := HCI.out.keep hW
  exact next1 k.om ((qA1 k.box 0).trans rfl) k.hB (g1.1 x hx)⟩
 have hS0 := qCZ.search Ar cr R wq (lookO O) (allRefs R O) ⟨W2.heap.size + 1, 0, none⟩ hCr hcr X (fun x hx => List.mem_append.2 (.inl hx)) g1.2
 obtain ⟨bb, hbb, hS1⟩ : ∃ bb : Bool, (bb = true ↔ ∃ x, x ∈ R ∧ Dfs.Cyc (lookO O) x) ∧ Calls Tryz.prog 18 #[.slice Ar (List.length R) cr, .func (.func 19) #[] #[.pointer (some ⟨W2.heap.size + 1, 0, none⟩)]] wq fun e w' => e = .returned (.bool bb) ∧ Below wq.heap.size wq w' := by
  refine ⟨_, ?_, hS0⟩
  open Classical in exact decide_eq_true_iff
 clear hS0
 have HS1 := zq hS1
 have HBB := zq hbb
 clear hE HE X hCr g1 hS1 hbb
 go_wp2_with fail
 refine HS1.out.mono ?_
 rintro e Wc ⟨rfl, hbc⟩
 have HCc := zq (HCI.out.keep hbc)
 clear hbc HCI HS1
 cases bb
 case true =>
  have q1 := HBB.out.1 rfl
  have hr : r = 10 := by have := HE2.out; rw [if_pos q1] at this; exact (zy this).symm
  subst hr
  clear q1
  go_wp2_with fail
  go_ret
  exact ⟨rfl, HCc.out.hB⟩
 have q1 : ¬ ∃ x, x ∈ R ∧ Dfs.Cyc (lookO O) x := fun h => by have := HBB.out.2 h; cases this
 obtain ⟨P, hP, hL⟩ := Option.bind_eq_some_iff.mp (by have := HE2.out; rwa [if_neg q1] at this)
 have HPl := zq hP
 unfold chk_last at hL
 by_cases g2 : (∀ s, s ∈ qF0 P → s.size ≤ maxLen) ∧ 2 * (qF0 P).length < maxLen ∧ P.length < 1000000
 case neg => rw [if_neg g2] at hL; cases hL
 rw [if_pos g2] at hL
 have HL := zq hL
 have HG2 := zq g2
 clear q1 hP hL g2 HE2
 go_wp2_with fail
 refine (qCG.walk A0 c0 l0 P Wc (Kd.qAB HR.out HCc.out.hB) HC.out HPl.out).mono ?_
 rintro e Wl ⟨g, rfl, hlm⟩
 have HBw := zq (qA7 HCc.out.hB hlm.below)
 generalize hWq : Wl.alloc (.cells #[.map (some Wc.heap.size)] 63) = Wq
 have hBq : Below Wl.heap.size Wl Wq := by rw [← hWq]; exact qAA (Below.refl _ _) _
 have hxq : Wq.heap[Wl.heap.size]? = some (.cells #[.map (some Wc.heap.size)] 63 (0, 0)) := by rw [← hWq]; exact heap_alloc_new _ _
 have HLM := zq (hlm.keep hBq)
 have HWq := zq hWq
 have HXq := zq hxq
 have hzq : Wl.heap.size < Wq.heap.size := by rw [← hWq]; simp
 have hzc : Wc.heap.size < Wl.heap.size := by obtain ⟨_, _, hb⟩ := hlm.blk; exact Gen.qAT hb
 have HBw2 := zq (qA7 HBw.out hBq)
 obtain ⟨nn, D, hnn, own, at_⟩ := HLM.out.own
 obtain ⟨W3, hrg3, hra, hgr3, hsz3⟩ := own.range keyed9 Tryz.underlying63
 have hB3 : Below Wq.heap.size Wq W3 := ⟨hgr3.os, hgr3.tape, hgr3.output, hgr3.size, fun k hk => hgr3.block k hk (by simp)⟩
 have hcnt : Maps.size D ≤ nn := own.size_le
 have hkx : Wq.cell? ⟨Wl.heap.size, 0, none⟩ = some (.map (some Wc.heap.size)) := (qA1 hxq 0).trans rfl
 have hzq' : Wq.heap.size = Wl.heap.size + 1 := by rw [← hWq]; simp
 replace hrg3 : (Instr.range 63 (.map (some Wc.heap.size))).run Tryz.prog (Wl.alloc (.cells #[.map (some Wc.heap.size)] 63)) = .ok (.pointer (some ⟨Wl.heap.size + 1, 0, none⟩)) W3 := by rw [hWq, ← hzq']; exact hrg3
 rw [hzq'] at hra
 have HT := zq (And.intro hra (And.intro hB3 (show Wl.heap.size + 1 + 1 ≤ W3.heap.size by omega)))
 have HAt := zq at_
 have HZQ := zq hzq'
 have HN1 := zq (show Maps.size D ≤ P.length from Nat.le_trans hcnt hnn)
 clear hWq hBq hlm hra hgr3 hxq own at_ hB3 HCc HPl hzq' hsz3 hcnt hnn hkx
 go_wp2_with fail
 clear hrg3 HWq
 go_loopw [21] (fun v21 wx => ∃ (left : Lit → Bool) (cnt : Nat) (done : List ByteArray), qA0 (wx.ranges Tryz.prog 9 sliR Wc.heap.size (Wl.heap.size + 1) nn D left cnt ∧ (∀ s : ByteArray, s.size ≤ maxLen → (left (.string s.data.toList) = true ↔ (s ∈ P.map (·.1) ∧ s ∉ done))) ∧ (∀ s ∈ done, s ∈ P.map (·.1)) ∧
  wx.ownsRow (Wl.heap.size + 1 + 1) 9 1 v21 done.length (encs Value.string done) ∧ Below Wq.heap.size Wq wx ∧ Wl.heap.size + 1 + 1 ≤ wx.heap.size ∧ done.length + cnt ≤ P.length)) (fun _ wx => wx.rangeLeft Wc.heap.size (Wl.heap.size + 1))
 case atStart =>
  obtain ⟨hra, hB3, hz⟩ := HT.out
  refine ⟨_, _, [], ⟨hra, fun s hs => ?_, (fun s h => by cases h), World.ownsRow_nil _ _ _ _, hB3, hz, by simpa using HN1.out⟩⟩
  have h1 := fun zd => HAt.out s zd hs
  by_cases e : s ∈ P.map (·.1)
  rotate_left
  ·have : Maps.has D (.string s.data.toList) = false := Maps.has_false_of_atKey (fun z => by rw [h1, if_neg e])
   simp [this, e]
  have : Maps.has D (.string s.data.toList) = true := Maps.has_true_of_atKey (y := encV (g s)) (fun z => by rw [h1, if_pos e])
  simp [this, e]
 clear HT
 obtain ⟨wx, rfl⟩ : ∃ wx : World, wx = wr := ⟨_, rfl⟩
 obtain ⟨left, cnt, done, HRg⟩ := hrel
 obtain ⟨hra, hleft, hin, hown, hB, hz, hcnt⟩ := HRg.out
 rcases hra.next keyed9 0 with ⟨hc0, hl0, hrun⟩ | ⟨key, v, kl, y, W5, cnt5, hkey, hlk, hR5, hat5, hrun, hra5, hlt5, hgr5, hsz5, hen⟩
 ·have hall : ∀ s, s ∈ P.map (·.1) → s ∈ done := fun s hs => Decidable.byContradiction fun hn => by
   have hsz : s.size ≤ maxLen := by
    obtain ⟨p, hp, rfl⟩ := List.mem_map.1 hs
    exact HG2.out.1 _ (List.mem_flatMap.2 ⟨p, hp, List.mem_cons_self ..⟩)
   have := (hleft s hsz).2 ⟨hs, hn⟩
   rw [hl0] at this
   cases this
  have hiff : (∃ x, x ∈ done ∧ Dfs.Cyc (qEQ P) x) ↔ ∃ s, s ∈ P.map (·.1) ∧ Dfs.Cyc (qEQ P) s := ⟨fun ⟨x, hx, hc⟩ => ⟨x, hin x hx, hc⟩, fun ⟨x, hx, hc⟩ => ⟨x, hall x hx, hc⟩⟩
  have hxw : wx.heap[Wl.heap.size]? = some (.cells #[.map (some Wc.heap.size)] 63 (0, 0)) := (hB.block _ (by have := HZQ.out; omega)).trans HXq.out
  obtain ⟨Ar2, cr2, hv21, hcr2, hCr2⟩ := Kd.qE5 (Kd.R_of_own (h1 := fun _ => rfl) hown (ok := fun _ => True) (fun _ _ => trivial))
  have hkey : ∀ x, x ∈ done → x ∈ qF0 P := fun x hx => by
   obtain ⟨p, hp, rfl⟩ := List.mem_map.1 (hin x hx)
   exact List.mem_flatMap.2 ⟨p, hp, List.mem_cons_self ..⟩
  have X2 : qD1.Ctx wx (qEQ P) (qF0 P) ⟨Wl.heap.size, 0, none⟩ := ⟨fun x y hy => lookN_mem hy, HG2.out.1, fun W hW x hx => next2 ((HLM.out.keep hB).keep hW) ((qA1 (qAF hxw (qAN hW none) (by simp)) 0).trans rfl) (HG2.out.1 x hx)⟩
  have hS0 := qD1.search Ar2 cr2 done wx (qEQ P) (qF0 P) ⟨Wl.heap.size, 0, none⟩ hCr2 hcr2 X2 hkey HG2.out.2.1
  obtain ⟨bb, hbb, hS1⟩ : ∃ bb : Bool, (bb = true ↔ ∃ x, x ∈ done ∧ Dfs.Cyc (qEQ P) x) ∧ Calls Tryz.prog 21 #[.slice Ar2 done.length cr2, .func (.func 22) #[] #[.pointer (some ⟨Wl.heap.size, 0, none⟩)]] wx fun e w' => e = .returned (.bool bb) ∧ Below wx.heap.size wx w' := by
   refine ⟨_, ?_, hS0⟩
   open Classical in exact decide_eq_true_iff
  have HS2 := zq hS1
  have HBB2 := zq (hbb.trans hiff)
  have HBx := zq (qA7 HBw2.out hB)
  clear hS0 hS1 hbb X2 hCr2 hkey hxw hiff hall hl0 hc0 hown hB hra hleft hin
  subst hv21
  go_wp2_with fail
  refine HS2.out.mono ?_
  rintro e Wz ⟨rfl, hbz⟩
  have HBz := zq (qA7 HBx.out hbz)
  clear hbz
  cases bb
  case true =>
   have q2 := HBB2.out.1 rfl
   have hr : r = 10 := by have := HL.out; rw [if_pos q2] at this; exact (zy this).symm
   subst hr
   clear q2
   go_wp2_with fail
   go_ret
   exact ⟨rfl, HBz.out⟩
  case false =>
   have q2 : ¬ ∃ s, s ∈ P.map (·.1) ∧ Dfs.Cyc (qEQ P) s := fun h => by have := HBB2.out.2 h; cases this
   have hr : r = 0 := by have := HL.out; rw [if_neg q2] at this; exact (zy this).symm
   subst hr
   clear q2
   go_wp2_with fail
   go_ret
   exact ⟨rfl, HBz.out⟩
 ·obtain ⟨s, rfl, rfl, hss⟩ := key9_inv hkey
  obtain ⟨hs1, hs2⟩ := (hleft s hss).1 hlk
  generalize hW6 : W5.alloc (.cells #[.string s] 9) = W6
  have hz6 : W6.heap.size = W5.heap.size + 1 := by rw [← hW6]; simp
  have hB56 : Below W5.heap.size W5 W6 := by rw [← hW6]; exact qAA (Below.refl _ _) _
  have hu : W6.ownsRow W5.heap.size 9 1 (.slice (some ⟨W5.heap.size, 0, none⟩) 1 1) 1 (encs Value.string [s]) := by
   rw [← hW6]
   exact own_lit_of (enc := Value.string) W5 W5.heap.size 9 [s] (Nat.le_refl _) (by simp)
  have hge : ∀ k, u21.ownBlock = some k → Wl.heap.size + 1 + 1 ≤ k ∧ k < wx.heap.size := fun k hk => by
   obtain ⟨h1, cells, hc⟩ := qD5 hown hk
   exact ⟨h1, Gen.qAT hc⟩
  have hown6 : W6.ownsRow (Wl.heap.size + 1 + 1) 9 1 u21 done.length (encs Value.string done) := qCY hown (fun k hk => by
   obtain ⟨h1, h2⟩ := hge k hk
   rw [hB56.block k (by omega), hgr5.block k h2 (by simp; omega)])
  obtain ⟨v1, W7, hr7, o7, gr7, bl7⟩ := looks_app W6 (Wl.heap.size + 1 + 1) W5.heap.size u21 (.slice (some ⟨W5.heap.size, 0, none⟩) 1 1) done [s] hown6 hu (by omega) (by have := HG2.out.2.2; simp; omega)
  have hz7 := gr7.size
  have hbW : Wc.heap.size < wx.heap.size := hra.owns.lt
  have hrng := (hra5.alloc (.cells #[.string s] 9))
  rw [hW6] at hrng
  have hrng7 := hrng.kept gr7 (fun e => by have := (hge _ e.symm).1; omega) (fun e => by have := (hge _ e.symm).1; omega)
  have hB7 : Below Wq.heap.size Wq W7 := by
   have hzq := HZQ.out
   have s1 := qBI hB (some (Wl.heap.size + 1)) hB.size hgr5 (fun k e => by obtain rfl := zy e; omega)
   have s2 := qBI s1 none s1.size (qAN hB56 none) (fun k e => by cases e)
   exact qBI s2 u21.ownBlock s2.size gr7 (fun k e => by have := (hge k e).1; omega)
  rw [← hW6] at hr7
  have HR7 := zq hr7
  have HF := zq (And.intro hrng7 (And.intro o7 (And.intro hB7 (show Wl.heap.size + 1 + 1 ≤ W7.heap.size by omega))))
  have HM := zq (show W7.rangeLeft Wc.heap.size (Wl.heap.size + 1) < wx.rangeLeft Wc.heap.size (Wl.heap.size + 1) from by rw [hrng7.left_eq, hra.left_eq]; exact hlt5)
  have HLf := zq (And.intro hleft (And.intro hin (And.intro hs1 (And.intro hs2 (show done.length + 1 + cnt5 ≤ P.length by omega)))))
  clear hr7 hrng hrng7 o7 gr7 bl7 hu hown6 hge hown hB hra hra5 hleft hin hlt5 hgr5 hB56 hz6 hz7 hW6 hB7 hs1 hs2 hat5 hR5 hkey hlk hsz5
  go_wp2_with (at_builtin; (refine wp_app rfl _ _ 65 rfl rfl u21 (.slice (some ⟨W5.heap.size, 0, none⟩) 1 1) rfl rfl HR7.out ?_))
  obtain ⟨f1, f2, f3, f4⟩ := HF.out
  obtain ⟨m1, m2, m3, m4, m5⟩ := HLf.out
  refine ⟨⟨_, cnt5, done ++ [s], ⟨f1, fun x hx => ?_, fun x hx => ?_, f2, f3, f4, by simp; omega⟩⟩, HM.out⟩
  ·by_cases e : x = s
   rotate_left
   ·rw [Maps.sameKey_ne (show (Lit.string x.data.toList) ≠ Lit.string s.data.toList from fun e2 => e (str_inj (by injection e2)))]
    simp [m1 x hx, e]
   subst e
   simp [WideAt.sameKey_self (show WideAt.IsKeyLit (.string x.data.toList) from trivial)]
  ·rcases List.mem_append.1 hx with h | h
   ·exact m2 x h
   ·rw [show x = s from by simpa using h]; exact m3
attribute [local go_sem high] eqA25
def qC6.l0 : Nat → List (S25) → Int → Int → ByteArray → ByteArray → Int → Int → Option (Int)
 | 0, _, _, _, _, _, _, _ => none
 | k + 1, x0, x7, x8, x397000, x397001, x397002, x397003 => if x8 < x7 then (if 0 ≤ x8 then (if x8 < (x0.length : Int) then (if (x397000.toList == (((qBS x0 x8).f0).toList) && (x397001.toList == (((qBS x0 x8).f1).toList) && (x397002 == ((qBS x0 x8).f2) && (x397003 == ((qBS x0 x8).f3))))) = true then (some x8) else (qC6.l0 k x0 x7 (wrap64 (x8 + 1)) x397000 x397001 x397002 x397003)) else (none)) else (none)) else (some (-1))
def qC6.f (k : Nat) (l0 : List (S25)) (a1_0 : ByteArray) (a1_1 : ByteArray) (a1_2 : Int) (a1_3 : Int) : Option (Int) := qC6.l0 k l0 (l0.length : Int) 0 a1_0 a1_1 a1_2 a1_3
theorem qC6.calls (k : Nat) (A0 : Option Addr) (c0 : Nat) (l0 : List (S25)) (a1_0 : ByteArray) (a1_1 : ByteArray) (a1_2 : Int) (a1_3 : Int) (r : Int) (w : World) (hr0 : Kd.C k25 w A0 l0.length l0) (hc0 : l0.length ≤ c0) (h : qC6.f k l0 a1_0 a1_1 a1_2 a1_3 = some r) :
  Calls Tryz.prog 24 #[.slice A0 l0.length c0, .agg #[.string a1_0, .string a1_1, .int .i64 a1_2, .int .i64 a1_3]] w fun e w' => e = .returned (.int .i64 r) ∧ Below w.heap.size w w' := by
 have hu25 := Tryz.underlying25
 have HR0 := zq hr0
 have HC0 := zq hc0
 clear hr0 hc0
 have HB := zq (Below.refl w.heap.size w)
 have H := h
 unfold qC6.f at H
 clear h
 have H' := zq H
 clear H
 go_enter Tryz.func24, Tryz.ntmps24
 go_wp2_with ((refine boxY 3 #[.string a1_0, .string a1_1, .int .i64 a1_2, .int .i64 a1_3] 25 ?_; intro gb396 hg w3 BK396 hb; have GW396 := zg w gb396; replace HB := zB hb; clear hb hg))
 go_loopg [8] k (fun kq v8 w' => ∃ (x8_1 : Int), v8 = .int .i64 x8_1 ∧ qA0 (qC6.l0 kq l0 (l0.length : Int) x8_1 a1_0 a1_1 a1_2 a1_3 = some r) ∧ qA0 (kq ≤ k) ∧ qA0 (w'.heap[gb396]? = some (.cells #[.string a1_0, .string a1_1, .int .i64 a1_2, .int .i64 a1_3] 25 (0, 0))) ∧ qA0 (Below w.heap.size w w'))
 case atStart => exact ⟨(0), zs, H', ⟨Nat.le_refl _⟩, ⟨zk BK396⟩, ⟨zb⟩⟩
 clear H'
 obtain ⟨x8_1, rfl, HA, HK1, BK396, HB⟩ := hrel
 obtain _ | k1 := gk
 ·exact absurd HA.out (by simp [qC6.l0])
 have H := HA.out
 clear HA
 simp only [qC6.l0] at H
 obtain ⟨-, c4b0, H⟩ | ⟨-, c4b0, H⟩ := y3 H
 rotate_left
 ·obtain rfl := zy H
  go_wp2
  go_ret
  exact ⟨zf, zb⟩
 obtain ⟨-, c5b0, H⟩ := y1 H
 obtain ⟨-, c6b0, H⟩ := y1 H
 obtain ⟨c7, -, H⟩ | ⟨c7, -, H⟩ := y3 H
 ·have c7b0 : (a1_0.toList == (((qBS l0 x8_1).f0).toList) && (a1_1.toList == (((qBS l0 x8_1).f1).toList) && (a1_2 == ((qBS l0 x8_1).f2) && (a1_3 == ((qBS l0 x8_1).f3))))) = true := c7
  (try (have c7b1 : decide (a1_0.toList = (((qBS l0 x8_1).f0).toList) && (a1_1.toList == (((qBS l0 x8_1).f1).toList) && (a1_2 == ((qBS l0 x8_1).f2) && (a1_3 == ((qBS l0 x8_1).f3))))) = true := by simpa using c7))
  (try (have c7b2 : (a1_0.toList == (((qBS l0 x8_1).f0).toList) && (a1_1.toList == (((qBS l0 x8_1).f1).toList) && (a1_2 == ((qBS l0 x8_1).f2) && (a1_3 == ((qBS l0 x8_1).f3))))) = true := by simpa using c7))
  clear c7
  obtain rfl := zy H
  have hcz8 := bc4 BK396.out
  obtain ⟨p397, q397, ad397, e397, hx397_0, hx397_1, hx397_2, hx397_3⟩ := yp (at_T25 HR0.out x8_1)
  cases e397
  (try replace hx397_0 := zh hx397_0)
  replace hx397_1 := zh hx397_1
  replace hx397_2 := zh hx397_2
  replace hx397_3 := zh hx397_3
  go_wp2
  repeat (go_quiet (fail); try go_wp2)
  go_ret
  exact ⟨zf, zb⟩
 have c7b0 : (a1_0.toList == (((qBS l0 x8_1).f0).toList) && (a1_1.toList == (((qBS l0 x8_1).f1).toList) && (a1_2 == ((qBS l0 x8_1).f2) && (a1_3 == ((qBS l0 x8_1).f3))))) = false := by simpa using c7
 (try (have c7b1 : decide (a1_0.toList = (((qBS l0 x8_1).f0).toList) && (a1_1.toList == (((qBS l0 x8_1).f1).toList) && (a1_2 == ((qBS l0 x8_1).f2) && (a1_3 == ((qBS l0 x8_1).f3))))) = false := by simpa using c7))
 (try (have c7b2 : (a1_0.toList == (((qBS l0 x8_1).f0).toList) && (a1_1.toList == (((qBS l0 x8_1).f1).toList) && (a1_2 == ((qBS l0 x8_1).f2) && (a1_3 == ((qBS l0 x8_1).f3))))) = false := by simpa using c7))
 (try (have c7b3 : ¬ (a1_0.toList = (((qBS l0 x8_1).f0).toList) && (a1_1.toList == (((qBS l0 x8_1).f1).toList) && (a1_2 == ((qBS l0 x8_1).f2) && (a1_3 == ((qBS l0 x8_1).f3))))) := by simpa using c7))
 clear c7
 have H' := zq H
 clear H
 have hcz9 := bc4 BK396.out
 obtain ⟨p397, q397, ad397, e397, hx397_0, hx397_1, hx397_2, hx397_3⟩ := yp (at_T25 HR0.out x8_1)
 cases e397
 (try replace hx397_0 := zh hx397_0)
 replace hx397_1 := zh hx397_1
 replace hx397_2 := zh hx397_2
 replace hx397_3 := zh hx397_3
 go_wp2
 repeat (go_quiet (fail); try go_wp2)
 go_roundg k1
 case measure => have := HK1.out; omega
 case rel => exact ⟨(wrap64 (x8_1 + 1)), zs, H', ⟨by have := HK1.out; omega⟩, ⟨zk BK396⟩, ⟨zb⟩⟩
def qDM.f (k : Nat) (l0 : List (S25)) (a1_0 : ByteArray) (a1_1 : ByteArray) (a1_2 : Int) (a1_3 : Int) : Option (Bool) := (qC6.f k l0 a1_0 a1_1 a1_2 a1_3).bind fun t399 => (some (decide (t399 ≥ 0)))
theorem qDM.calls (k : Nat) (A0 : Option Addr) (c0 : Nat) (l0 : List (S25)) (a1_0 : ByteArray) (a1_1 : ByteArray) (a1_2 : Int) (a1_3 : Int) (r : Bool) (w : World) (hr0 : Kd.C k25 w A0 l0.length l0) (hc0 : l0.length ≤ c0) (h : qDM.f k l0 a1_0 a1_1 a1_2 a1_3 = some r) :
  Calls Tryz.prog 7 #[.slice A0 l0.length c0, .agg #[.string a1_0, .string a1_1, .int .i64 a1_2, .int .i64 a1_3]] w fun e w' => e = .returned (.bool r) ∧ Below w.heap.size w w' := by
 have hu25 := Tryz.underlying25
 have HR0 := zq hr0
 have HC0 := zq hc0
 clear hr0 hc0
 have HB := zq (Below.refl w.heap.size w)
 have H := h
 unfold qDM.f at H
 clear h
 replace H := zi H
 obtain ⟨t399, A30, H⟩ := H
 have A3 := zq A30
 clear A30
 obtain rfl := zy H
 go_enter Tryz.func7, Tryz.ntmps7
 go_wp2_with (first | (refine boxY 3 #[.string a1_0, .string a1_1, .int .i64 a1_2, .int .i64 a1_3] 25 ?_; intro gb398 hg w4 BK398 hb; have GW398 := zg w gb398; replace HB := zB hb; clear hb hg; have hcz5 := bc4 BK398.out) | (refine qBY (some 7) Tryz.func24 #[.slice A0 l0.length c0, .agg #[.string a1_0, .string a1_1, .int .i64 a1_2, .int .i64 a1_3]] ?_; (with_reducible refine (qC6.calls k _ _ l0 a1_0 a1_1 a1_2 a1_3 t399 _ ?side1 ?side2 A3.out).mono ?_); (case side1 => repeat (first | exact (Kd.qAB HR0.out HB.out) | refine sC ?_)); (case side2 => exact HC0.out); rintro e w6 ⟨rfl, hb⟩; refine ⟨_, rfl, ?_⟩; replace BK398 := zK BK398 hb; replace HB := zB hb; (try clear hb hk); (try clear hb)))
 go_ret
 exact ⟨zf, zb⟩
def qBH.l0 : Nat → List (S25) → List (S79) → Int → Int → ByteArray → ByteArray → Int → Int → Option ((List (S25)))
 | 0, _, _, _, _, _, _, _, _ => none
 | k + 1, x0, x9, x10, x11, x402000, x402001, x402002, x402003 => if x11 < x10 then (if 0 ≤ x11 then (if x11 < (x9.length : Int) then (if ((qA3 x9 x11).f0) = 0 then (if ((qA3 x9 x11).f2) = 1 then (qBH.l0 k x0 x9 x10 (wrap64 (x11 + 1)) x402000 x402001 x402002 x402003) else (if x0.length < 2932031007402 then (qBH.l0 k (x0 ++ [(⟨x402000, x402001, x402002, x11⟩ : S25)]) x9 x10 (wrap64 (x11 + 1)) x402000 x402001 x402002 x11) else (none))) else (qBH.l0 k x0 x9 x10 (wrap64 (x11 + 1)) x402000 x402001 x402002 x402003)) else (none)) else (none)) else (some x0)
def qBH.f (k : Nat) (l0 : List (S25)) (a1_0 : ByteArray) (a1_1 : ByteArray) (a1_2 : Int) (a1_3 : Int) (l2 : List (S79)) : Option ((List (S25))) := qBH.l0 k l0 l2 (l2.length : Int) 0 a1_0 a1_1 a1_2 a1_3
theorem qBH.calls (k : Nat) (P0_ : Nat → Prop) (u9000_ : Value) (l0 : List (S25)) (a1_0 : ByteArray) (a1_1 : ByteArray) (a1_2 : Int) (a1_3 : Int) (A2 : Option Addr) (c2 : Nat) (l2 : List (S79)) (r : List (S25)) (w0 w : World) (hB : Below w0.heap.size w0 w) (ho0 : Kd.R k25 25 w w0.heap.size P0_ u9000_ l0) (hr2 : ∀ W_, Kept w W_ (fun k_ => P0_ k_) → Kd.C k79 W_ A2 l2.length l2) (hc2 : l2.length ≤ c2) (h : qBH.f k l0 a1_0 a1_1 a1_2 a1_3 l2 = some r) :
  Calls Tryz.prog 55 #[u9000_, .agg #[.string a1_0, .string a1_1, .int .i64 a1_2, .int .i64 a1_3], .slice A2 l2.length c2] w fun e w' => ∃ v0_ : Value, e = .returned (v0_) ∧ Kd.R k25 25 w' w0.heap.size (fun k_ => (P0_ k_ ∨ w.heap.size ≤ k_)) v0_ r ∧ Below w0.heap.size w0 w' ∧ Kept w w' (fun k_ => P0_ k_) := by
 have hu25 := Tryz.underlying25
 have hu79 := Tryz.underlying79
 have HO0 := zq (show Kd.R k25 25 w w0.heap.size (fun k_ => (P0_ k_ ∨ w.heap.size ≤ k_)) u9000_ l0 from Kd.qB3 ho0 (fun k_ hk => (.inl hk)))
 have HR2 := zq hr2
 have HC2 := zq hc2
 clear hr2 hc2
 have HK := zq (Kept.refl w (fun k_ => P0_ k_))
 have HW0 := zq hB.size
 have HB := zq hB
 clear hB
 have H := h
 unfold qBH.f at H
 clear h
 have H' := zq H
 clear H
 go_enter Tryz.func55, Tryz.ntmps55
 go_wp2_with ((refine boxY 4 #[.string a1_0, .string a1_1, .int .i64 a1_2, .int .i64 a1_3] 25 ?_; intro gb401 hg w4 BK401 hb; have GW401 := zq ((by rw [hg]; exact (by first | exact HK.out.1 | exact (show Kept w _ (fun k_ => P0_ k_) from by repeat (first | (with_reducible first | exact HK.out | apply Kept.alloc | apply Kept.drewN | apply Kept.drew) | exact HK.out)).1) : w.heap.size ≤ gb401)); have GE401 := zg w0 gb401; replace HO0 := zq (Kd.qBM (Kd.R_elderB (by (with_reducible repeat refine sR ?_); exact HO0.out) gb401 (Nat.le_of_eq hg.symm)) hb); replace HK := zq (Kept.below (S := (fun k_ => P0_ k_)) (by repeat (first | (with_reducible first | exact HK.out | apply Kept.alloc | apply Kept.drewN | apply Kept.drew) | exact HK.out)) hb); replace HB := zB hb; clear hb hg))
 go_loopg [0, 11] k (fun kq v0 v11 w' => ∃ (x0_1 : List (S25)) (x11_1 : Int) (x402003_1 : Int), v11 = .int .i64 x11_1 ∧ qA0 (qBH.l0 kq x0_1 l2 (l2.length : Int) x11_1 a1_0 a1_1 a1_2 x402003_1 = some r) ∧ qA0 (kq ≤ k) ∧ qA0 (Kd.R k25 25 w' w0.heap.size (fun k_ => (P0_ k_ ∨ w.heap.size ≤ k_) ∧ k_ ≠ gb401) v0 x0_1) ∧ qA0 (w'.heap[gb401]? = some (.cells #[.string a1_0, .string a1_1, .int .i64 a1_2, .int .i64 x402003_1] 25 (0, 0))) ∧ qA0 (Kept w w' (fun k_ => P0_ k_)) ∧ qA0 (Below w0.heap.size w0 w'))
 case atStart => exact ⟨(l0), (0), (a1_3), zs, H', ⟨Nat.le_refl _⟩, zR HO0, ⟨zk BK401⟩, ⟨by repeat (first | (with_reducible first | exact HK.out | apply Kept.alloc | apply Kept.drewN | apply Kept.drew | refine Kept.setCell ?_ (.inr GW401.out) _) | exact HK.out)⟩, ⟨zb⟩⟩
 clear H'
 obtain ⟨x0_1, x11_1, x402003_1, rfl, HA, HK1, HO_0, BK401, HK, HB⟩ := hrel
 obtain _ | k1 := gk
 ·exact absurd HA.out (by simp [qBH.l0])
 have H := HA.out
 clear HA
 simp only [qBH.l0] at H
 obtain ⟨-, c5b0, H⟩ | ⟨-, c5b0, H⟩ := y3 H
 rotate_left
 ·obtain rfl := zy H
  go_wp2
  go_ret
  exact ⟨_, zf, by (with_reducible repeat refine sR ?_); exact Kd.qB3 HO_0.out (fun _ hk => hk.1), by repeat (first | (with_reducible first | exact HB.out | apply qAA | apply qA8 | apply qBP | refine qDW ?_ GE401.out) | exact HB.out), by repeat (first | (with_reducible first | exact HK.out | apply Kept.alloc | apply Kept.drewN | apply Kept.drew | refine Kept.setCell ?_ (.inr GW401.out) _) | exact HK.out)⟩
 obtain ⟨-, c6b0, H⟩ := y1 H
 obtain ⟨-, c7b0, H⟩ := y1 H
 obtain ⟨-, c8b0, c8b1, H⟩ | ⟨c8, c8b0, c8b1, H⟩ := y4 H
 rotate_left
 ·have H' := zq H
  clear H
  obtain ⟨p402, q402, ad402, A402_1, c402_1, e402, hx402_0, hx402_1, hx402_2, hx402_3, hx402_4, hl402_1, hi402_1⟩ := yp (at_T79 (Kd.C_kept_now HR2.out HK.out) x11_1)
  cases e402
  have HR402_1 := zq hi402_1
  have HC402_1 := zq hl402_1
  clear hi402_1 hl402_1
  go_wp2_with ((refine boxY 8 #[.int .i64 0, .slice none 0 0, .int .i64 0, .int .i64 0, .string (⟨#[]⟩ : ByteArray)] 79 ?_; intro gb403 hg w19 BK403 hb; have GW403 := zq ((by rw [hg]; exact (by first | exact HK.out.1 | exact (show Kept w _ (fun k_ => P0_ k_) from by repeat (first | (with_reducible first | exact HK.out | apply Kept.alloc | apply Kept.drewN | apply Kept.drew | refine Kept.setCell ?_ (.inr GW401.out) _) | exact HK.out)).1) : w.heap.size ≤ gb403)); have GE403 := zg w0 gb403; have NB401_403 := zl BK401 gb403; have NB403_401 := zu BK401 gb403; replace HO_0 := zq (Kd.qBM (by (with_reducible repeat refine sR ?_); exact HO_0.out) hb); replace BK401 := zK BK401 hb; replace HR402_1 := zq (Kd.qAB (by repeat (first | (with_reducible exact HR402_1.out) | (with_reducible refine Kd.C_alloc ?_ _) | (with_reducible refine Kd.C_drewN ?_ _) | (with_reducible refine Kd.C_drew ?_) | exact HR402_1.out)) hb); replace HK := zq (Kept.below (S := (fun k_ => P0_ k_)) (by repeat (first | (with_reducible first | exact HK.out | apply Kept.alloc | apply Kept.drewN | apply Kept.drew | refine Kept.setCell ?_ (.inr GW401.out) _) | exact HK.out)) hb); replace HB := zB hb; clear hb hg; have hnb20 := NB403_401.out; have hnc20 := NB401_403.out; have hcz21 := bc5 BK403.out))
  go_roundg k1
  case measure => have := HK1.out; omega
  case rel => exact ⟨(x0_1), (wrap64 (x11_1 + 1)), (x402003_1), zs, H', ⟨by have := HK1.out; omega⟩, ⟨by (with_reducible repeat refine sR ?_); exact Kd.qB3 (Kd.qAW (Kd.qAW (Kd.qAW (Kd.qAW (Kd.qAW (Kd.qBW HO_0.out BK403.out (by decide)) (fun _ hk => hk.2) _) (fun _ hk => hk.2) _) (fun _ hk => hk.2) _) (fun _ hk => hk.2) _) (fun _ hk => hk.2) _) (fun _ hk => ⟨hk.1.1, hk.1.2⟩)⟩, ⟨by refine zf5 ?_ NB401_403; (with_reducible repeat refine st ?_); exact BK401.out⟩, ⟨by repeat (first | (with_reducible first | exact HK.out | apply Kept.alloc | apply Kept.drewN | apply Kept.drew | refine Kept.setCell ?_ (.inr GW401.out) _ | refine Kept.setCell ?_ (.inr GW403.out) _) | exact HK.out)⟩, ⟨zb⟩⟩
 obtain ⟨-, c9b0, c9b1, H⟩ | ⟨c9, c9b0, c9b1, H⟩ := y4 H
 ·have H' := zq H
  clear H
  obtain ⟨p402, q402, ad402, A402_1, c402_1, e402, hx402_0, hx402_1, hx402_2, hx402_3, hx402_4, hl402_1, hi402_1⟩ := yp (at_T79 (Kd.C_kept_now HR2.out HK.out) x11_1)
  cases e402
  have HR402_1 := zq hi402_1
  have HC402_1 := zq hl402_1
  clear hi402_1 hl402_1
  go_wp2_with ((refine boxY 8 #[.int .i64 0, .slice none 0 0, .int .i64 0, .int .i64 0, .string (⟨#[]⟩ : ByteArray)] 79 ?_; intro gb403 hg w10 BK403 hb; have GW403 := zq ((by rw [hg]; exact (by first | exact HK.out.1 | exact (show Kept w _ (fun k_ => P0_ k_) from by repeat (first | (with_reducible first | exact HK.out | apply Kept.alloc | apply Kept.drewN | apply Kept.drew | refine Kept.setCell ?_ (.inr GW401.out) _) | exact HK.out)).1) : w.heap.size ≤ gb403)); have GE403 := zg w0 gb403; have NB401_403 := zl BK401 gb403; have NB403_401 := zu BK401 gb403; replace HO_0 := zq (Kd.qBM (by (with_reducible repeat refine sR ?_); exact HO_0.out) hb); replace BK401 := zK BK401 hb; replace HR402_1 := zq (Kd.qAB (by repeat (first | (with_reducible exact HR402_1.out) | (with_reducible refine Kd.C_alloc ?_ _) | (with_reducible refine Kd.C_drewN ?_ _) | (with_reducible refine Kd.C_drew ?_) | exact HR402_1.out)) hb); replace HK := zq (Kept.below (S := (fun k_ => P0_ k_)) (by repeat (first | (with_reducible first | exact HK.out | apply Kept.alloc | apply Kept.drewN | apply Kept.drew | refine Kept.setCell ?_ (.inr GW401.out) _) | exact HK.out)) hb); replace HB := zB hb; clear hb hg; have hnb11 := NB403_401.out; have hnc11 := NB401_403.out; have hcz12 := bc5 BK403.out))
  go_roundg k1
  case measure => have := HK1.out; omega
  case rel => exact ⟨(x0_1), (wrap64 (x11_1 + 1)), (x402003_1), zs, H', ⟨by have := HK1.out; omega⟩, ⟨by (with_reducible repeat refine sR ?_); exact Kd.qB3 (Kd.qAW (Kd.qAW (Kd.qAW (Kd.qAW (Kd.qAW (Kd.qBW HO_0.out BK403.out (by decide)) (fun _ hk => hk.2) _) (fun _ hk => hk.2) _) (fun _ hk => hk.2) _) (fun _ hk => hk.2) _) (fun _ hk => hk.2) _) (fun _ hk => ⟨hk.1.1, hk.1.2⟩)⟩, ⟨by refine zf5 ?_ NB401_403; (with_reducible repeat refine st ?_); exact BK401.out⟩, ⟨by repeat (first | (with_reducible first | exact HK.out | apply Kept.alloc | apply Kept.drewN | apply Kept.drew | refine Kept.setCell ?_ (.inr GW401.out) _ | refine Kept.setCell ?_ (.inr GW403.out) _) | exact HK.out)⟩, ⟨zb⟩⟩
 obtain ⟨c13, -, H⟩ := y1 H
 have LMc13 := zq c13
 clear c13
 obtain ⟨y404, hy_⟩ : ∃ y_ : List (S25), y_ = (x0_1 ++ [(⟨a1_0, a1_1, a1_2, x11_1⟩ : S25)]) := ⟨_, rfl⟩
 replace H : (qBH.l0 k1 y404 l2 (l2.length : Int) (wrap64 (x11_1 + 1)) a1_0 a1_1 a1_2 x11_1) = some r := zr
 have Ny404 := zq hy_
 clear hy_
 have H' := zq H
 clear H
 obtain ⟨p402, q402, ad402, A402_1, c402_1, e402, hx402_0, hx402_1, hx402_2, hx402_3, hx402_4, hl402_1, hi402_1⟩ := yp (at_T79 (Kd.C_kept_now HR2.out HK.out) x11_1)
 cases e402
 have HR402_1 := zq hi402_1
 have HC402_1 := zq hl402_1
 clear hi402_1 hl402_1
 go_wp2_with (first | (refine boxY 8 #[.int .i64 0, .slice none 0 0, .int .i64 0, .int .i64 0, .string (⟨#[]⟩ : ByteArray)] 79 ?_; intro gb403 hg w14 BK403 hb; have GW403 := zq ((by rw [hg]; exact (by first | exact HK.out.1 | exact (show Kept w _ (fun k_ => P0_ k_) from by repeat (first | (with_reducible first | exact HK.out | apply Kept.alloc | apply Kept.drewN | apply Kept.drew | refine Kept.setCell ?_ (.inr GW401.out) _) | exact HK.out)).1) : w.heap.size ≤ gb403)); have GE403 := zg w0 gb403; have NB401_403 := zl BK401 gb403; have NB403_401 := zu BK401 gb403; replace HO_0 := zq (Kd.qBM (by (with_reducible repeat refine sR ?_); exact HO_0.out) hb); replace BK401 := zK BK401 hb; replace HR402_1 := zq (Kd.qAB (by repeat (first | (with_reducible exact HR402_1.out) | (with_reducible refine Kd.C_alloc ?_ _) | (with_reducible refine Kd.C_drewN ?_ _) | (with_reducible refine Kd.C_drew ?_) | exact HR402_1.out)) hb); replace HK := zq (Kept.below (S := (fun k_ => P0_ k_)) (by repeat (first | (with_reducible first | exact HK.out | apply Kept.alloc | apply Kept.drewN | apply Kept.drew | refine Kept.setCell ?_ (.inr GW401.out) _) | exact HK.out)) hb); replace HB := zB hb; clear hb hg; have hnb15 := NB403_401.out; have hnc15 := NB401_403.out; have hcz16 := bc5 BK403.out; have hcz17 := bc4 BK401.out) | ((with_reducible refine qDV (b := .append) (xs := #[.tmp 26, .tmp 28]) rfl ?_); at_builtin; refine Kd.R_append k25 (w0 := w0) w0.heap.size rfl (.tmp 26) (.tmp 28) 30 25 (.agg #[(.string ⟨#[]⟩), (.string ⟨#[]⟩), (.int .i64 0), (.int .i64 0)]) 48 rfl Tryz.underlying30 info25 rfl (by decide) (by omega) u0 x0_1 (⟨a1_0, a1_1, a1_2, x11_1⟩ : S25) [.string a1_0, .string a1_1, .int .i64 a1_2, .int .i64 x11_1] (fun k_ => (P0_ k_ ∨ w.heap.size ≤ k_) ∧ k_ ≠ gb401) (fun _ => False) rfl (by first | (go_simp; done) | (go_simp; rfl)) ?aP (fun _ hk => hk.elim) ?aF ?aO ?aB ?aS ?aL ?_; (case aP => exact k25_mkM _ _ _ (⟨a1_0, a1_1, a1_2, x11_1⟩ : S25)); (case aB => exact zb); (case aF => exact (fun k_ hk => ⟨(.inr (Nat.le_trans (show Kept w _ (fun k_ => P0_ k_) from by repeat (first | (with_reducible first | exact HK.out | apply Kept.alloc | apply Kept.drewN | apply Kept.drew | refine Kept.setCell ?_ (.inr GW401.out) _ | refine Kept.setCell ?_ (.inr GW403.out) _) | exact HK.out)).1 hk)), Kd.freshB (g := gb401) (o := .cells #[.string a1_0, .string a1_1, .int .i64 a1_2, .int .i64 x11_1] 25 (0, 0)) (by refine zp_ (cs := #[.string a1_0, .string a1_1, .int .i64 a1_2, .int .i64 x402003_1]) ?_ 3; refine zf5 ?_ NB401_403; (with_reducible repeat refine st ?_); exact BK401.out) k_ hk⟩)); (case aO => exact (by (with_reducible repeat refine sR ?_); exact Kd.qB3 (Kd.qAW (Kd.qAW (Kd.qAW (Kd.qAW (Kd.qAW (Kd.qAW (Kd.qB3 (Kd.qBW HO_0.out BK403.out (by decide)) (fun k_ hk => (⟨hk, hk.1.2⟩ : _ ∧ k_ ≠ gb401))) (fun _ hk => hk.1.2) _) (fun _ hk => hk.1.2) _) (fun _ hk => hk.1.2) _) (fun _ hk => hk.1.2) _) (fun _ hk => hk.1.2) _) (fun _ hk => hk.2) _) (fun _ hk => ⟨hk.1.1.1, hk.1.1.2⟩))); (case aS => exact (qAH zb)); (case aL => have := LMc13.out; omega); intro v405 w18 ho hb hg hat; rw [← Ny404.out] at ho; have HO406 := zq (ho); replace BK401 := zq (qAF (g := gb401) (o := .cells #[.string a1_0, .string a1_1, .int .i64 a1_2, .int .i64 x11_1] 25 (0, 0)) (by refine zp_ (cs := #[.string a1_0, .string a1_1, .int .i64 a1_2, .int .i64 x402003_1]) ?_ 3; refine zf5 ?_ NB401_403; (with_reducible repeat refine st ?_); exact BK401.out) hg (Kd.R_away HO_0.out (fun _ hk => hk.2))); replace BK403 := zq (qAF (g := gb403) (o := .cells #[.int .i64 ((qA3 l2 x11_1).f0), .slice A402_1 ((qA3 l2 x11_1).f1).length c402_1, .int .i64 ((qA3 l2 x11_1).f2), .int .i64 ((qA3 l2 x11_1).f3), .string ((qA3 l2 x11_1).f4)] 79 (0, 0)) (by refine zf_ ?_ NB403_401; (with_reducible repeat refine st ?_); refine qC2 (cs := #[.int .i64 ((qA3 l2 x11_1).f0), .slice A402_1 ((qA3 l2 x11_1).f1).length c402_1, .int .i64 ((qA3 l2 x11_1).f2), .int .i64 ((qA3 l2 x11_1).f3), .string (⟨#[]⟩ : ByteArray)]) ?_ 4 _ rfl; (with_reducible repeat refine st ?_); refine qC2 (cs := #[.int .i64 ((qA3 l2 x11_1).f0), .slice A402_1 ((qA3 l2 x11_1).f1).length c402_1, .int .i64 ((qA3 l2 x11_1).f2), .int .i64 0, .string (⟨#[]⟩ : ByteArray)]) ?_ 3 _ rfl; (with_reducible repeat refine st ?_); refine qC2 (cs := #[.int .i64 ((qA3 l2 x11_1).f0), .slice A402_1 ((qA3 l2 x11_1).f1).length c402_1, .int .i64 0, .int .i64 0, .string (⟨#[]⟩ : ByteArray)]) ?_ 2 _ rfl; (with_reducible repeat refine st ?_); refine qC2 (cs := #[.int .i64 ((qA3 l2 x11_1).f0), .slice none 0 0, .int .i64 0, .int .i64 0, .string (⟨#[]⟩ : ByteArray)]) ?_ 1 _ rfl; (with_reducible repeat refine st ?_); refine qC2 (cs := #[.int .i64 0, .slice none 0 0, .int .i64 0, .int .i64 0, .string (⟨#[]⟩ : ByteArray)]) ?_ 0 _ rfl; (with_reducible repeat refine st ?_); exact BK403.out) hg (Kd.R_ne HO_0.out BK403.out (by decide))); replace HK := zq (Kept.of_grown (S := (fun k_ => P0_ k_)) hg (by repeat (first | (with_reducible first | exact HK.out | apply Kept.alloc | apply Kept.drewN | apply Kept.drew | refine Kept.setCell ?_ (.inr GW401.out) _ | refine Kept.setCell ?_ (.inr GW403.out) _) | exact HK.out)) (fun k_ e_ => (HO_0.out.1 k_ e_).1)); replace HB := zq (hb); clear HO_0; clear ho hb hg hat))
 go_roundg k1
 case measure => have := HK1.out; omega
 case rel => exact ⟨(y404), (wrap64 (x11_1 + 1)), (x11_1), zs, H', ⟨by have := HK1.out; omega⟩, zR HO406, ⟨zk BK401⟩, ⟨by repeat (first | (with_reducible first | exact HK.out | apply Kept.alloc | apply Kept.drewN | apply Kept.drew | refine Kept.setCell ?_ (.inr GW401.out) _ | refine Kept.setCell ?_ (.inr GW403.out) _) | exact HK.out)⟩, ⟨zb⟩⟩
attribute [local go_sem high] eqA25
mutual
def qB1.l0 : Nat → List (S25) → List (S49) → Int → Int → Option ((List (S25)) × Int)
 | 0, _, _, _, _ => none
 | k + 1, x5, x18, x19, x20 => if x20 < x19 then (if 0 ≤ x20 then (if x20 < (x18.length : Int) then (qB1.l1 k x5 x18 x19 x20 ((qA4 x18 x20).f4) (((qA4 x18 x20).f4).length : Int) 0 ((qA4 x18 x20).f0) ((qA4 x18 x20).f1) ((qA4 x18 x20).f2) ((qA4 x18 x20).f3) ((qA4 x18 x20).f4) ((qA4 x18 x20).f5)) else (none)) else (none)) else (some (x5, 0))
def qB1.l1 : Nat → List (S25) → List (S49) → Int → Int → List (S73) → Int → Int → ByteArray → Int → Int → List (S98) → List (S73) → List (S55) → Option ((List (S25)) × Int)
 | 0, _, _, _, _, _, _, _, _, _, _, _, _, _ => none
 | k + 1, x5, x18, x19, x20, x25, x26, x27, x410000, x410001, x410002, x410003, x410004, x410005 => if x27 < x26 then (if 0 ≤ x27 then (if x27 < (x25.length : Int) then (qB1.l2 k x5 x18 x19 x20 x25 x26 x27 (((qAK x25 x27).f4).length : Int) 0 x410000 x410001 x410002 x410003 x410004 x410005 ((qAK x25 x27).f0) ((qAK x25 x27).f1) ((qAK x25 x27).f2) ((qAK x25 x27).f3) ((qAK x25 x27).f4)) else (none)) else (none)) else (qB1.l3 k x5 x18 x19 x20 x410005 (x410005.length : Int) 0 x410000 x410001 x410002 x410003 x410004 x410005)
def qB1.l2 : Nat → List (S25) → List (S49) → Int → Int → List (S73) → Int → Int → Int → Int → ByteArray → Int → Int → List (S98) → List (S73) → List (S55) → ByteArray → Int → Int → Bool → List (S75) → Option ((List (S25)) × Int)
 | 0, _, _, _, _, _, _, _, _, _, _, _, _, _, _, _, _, _, _, _, _ => none
 | k + 1, x5, x18, x19, x20, x25, x26, x27, x33, x34, x410000, x410001, x410002, x410003, x410004, x410005, x412000, x412001, x412002, x412003, x412004 => if x34 < x33 then ((some (([(⟨x410000, x412000, 2, x34⟩ : S25), (⟨x410000, x412000, 3, x34⟩ : S25)] : List (S25)) : List (S25))).bind fun y412 => (if x5.length + y412.length < 2932031007402 then (qB1.l2 k (x5 ++ y412) x18 x19 x20 x25 x26 x27 x33 (wrap64 (x34 + 1)) x410000 x410001 x410002 x410003 x410004 x410005 x412000 x412001 x412002 x412003 x412004) else (none))) else (qB1.l1 k x5 x18 x19 x20 x25 x26 (wrap64 (x27 + 1)) x410000 x410001 x410002 x410003 x410004 x410005)
def qB1.l3 : Nat → List (S25) → List (S49) → Int → Int → List (S55) → Int → Int → ByteArray → Int → Int → List (S98) → List (S73) → List (S55) → Option ((List (S25)) × Int)
 | 0, _, _, _, _, _, _, _, _, _, _, _, _, _ => none
 | k + 1, x5, x18, x19, x20, x55, x56, x57, x410000, x410001, x410002, x410003, x410004, x410005 => if x57 < x56 then (if 0 ≤ x57 then (if x57 < (x55.length : Int) then ((qBH.f k x5 x410000 ((qAY x55 x57).f0) 0 0 ((qAY x55 x57).f2)).bind fun t420 => ((qBH.f k t420 x410000 ((qAY x55 x57).f0) 1 0 ((qAY x55 x57).f3)).bind fun t423 => (qB1.l3 k t423 x18 x19 x20 x55 x56 (wrap64 (x57 + 1)) x410000 x410001 x410002 x410003 x410004 x410005))) else (none)) else (none)) else (qB1.l0 k x5 x18 x19 (wrap64 (x20 + 1)))
end
def qB1.f (k : Nat) (l0 : List (S49)) : Option ((List (S25)) × Int) := (qBZ.f l0).bind fun t407 => (if t407 = 0 then (qB1.l0 k ([] : List (S25)) l0 (l0.length : Int) 0) else (some (([] : List (S25)), t407)))
theorem qB1.calls (k : Nat) (A0 : Option Addr) (c0 : Nat) (l0 : List (S49)) (r1 : List (S25)) (r2 : Int) (w : World) (hr0 : Kd.C k49 w A0 l0.length l0) (hc0 : l0.length ≤ c0) (h : qB1.f k l0 = some (r1, r2)) :
  Calls Tryz.prog 30 #[.slice A0 l0.length c0] w fun e w' => ∃ v0_ : Value, e = .returned (.tuple #[v0_, .int .i64 r2]) ∧ Kd.R k25 25 w' w.heap.size (fun _ => True) v0_ r1 ∧ Below w.heap.size w w' := by
 have hu49 := Tryz.underlying49
 have hu73 := Tryz.underlying73
 have hu25 := Tryz.underlying25
 have hu55 := Tryz.underlying55
 have HR0 := zq hr0
 have HC0 := zq hc0
 clear hr0 hc0
 have HB := zq (Below.refl w.heap.size w)
 have H := h
 unfold qB1.f at H
 clear h
 replace H := zi H
 obtain ⟨t407, A20, H⟩ := H
 have A2 := zq A20
 clear A20
 obtain ⟨-, c3b0, c3b1, H⟩ | ⟨c3, c3b0, c3b1, H⟩ := y4 H
 rotate_left
 ·simp only [Option.some.injEq, Prod.mk.injEq] at H
  obtain ⟨rfl, rfl⟩ := H
  go_enter Tryz.func30, Tryz.ntmps30
  go_wp2_with ((refine qBY (some 14) Tryz.func5 #[.slice A0 l0.length c0] ?_; (with_reducible refine (qBZ.calls _ _ l0 t407 _ ?side1 ?side2 A2.out).mono ?_); (case side1 => repeat (first | exact HR0.out | refine sC ?_)); (case side2 => exact HC0.out); rintro e w43 ⟨rfl, hb⟩; refine ⟨_, rfl, ?_⟩; replace HB := zB hb; (try clear hb hk); (try clear hb)))
  go_ret2
  exact ⟨_, zf, by first | exact Kd.R_nil _ _ _ _ _ | exact Kd.N_nil _ _ _ _ _ | exact Kd.V_nil _ _ _ _ _ | exact Kd.Q_nil _ _ _ _ _ | exact Kd.S_nil _ _ _ _ _, zb⟩
 have H' := zq H
 clear H
 go_enter Tryz.func30, Tryz.ntmps30
 go_wp2_with ((refine qBY (some 14) Tryz.func5 #[.slice A0 l0.length c0] ?_; (with_reducible refine (qBZ.calls _ _ l0 t407 _ ?side1 ?side2 A2.out).mono ?_); (case side1 => repeat (first | exact HR0.out | refine sC ?_)); (case side2 => exact HC0.out); rintro e w4 ⟨rfl, hb⟩; refine ⟨_, rfl, ?_⟩; replace HB := zB hb; (try clear hb hk); (try clear hb)))
 go_loopg [5, 20] k (fun kq v5 v20 w' => ∃ (x5_1 : List (S25)) (x20_1 : Int), v20 = .int .i64 x20_1 ∧ qA0 (qB1.l0 kq x5_1 l0 (l0.length : Int) x20_1 = some (r1, r2)) ∧ qA0 (kq ≤ k) ∧ qA0 (Kd.R k25 25 w' w.heap.size (fun _ => True) v5 x5_1) ∧ qA0 (Below w.heap.size w w'))
 case atStart => exact ⟨(([] : List (S25))), (0), zs, H', ⟨Nat.le_refl _⟩, ⟨by first | exact Kd.R_nil _ _ _ _ _ | exact Kd.N_nil _ _ _ _ _ | exact Kd.V_nil _ _ _ _ _ | exact Kd.Q_nil _ _ _ _ _ | exact Kd.S_nil _ _ _ _ _⟩, ⟨zb⟩⟩
 clear H' c3b0 c3b1
 obtain ⟨x5_1, x20_1, rfl, HA, HK1, HO_5, HB⟩ := hrel
 obtain _ | k1 := gk
 ·exact absurd HA.out (by simp [qB1.l0])
 have H := HA.out
 clear HA
 simp only [qB1.l0] at H
 obtain ⟨-, c5b0, H⟩ | ⟨-, c5b0, H⟩ := y3 H
 rotate_left
 ·simp only [Option.some.injEq, Prod.mk.injEq] at H
  obtain ⟨rfl, rfl⟩ := H
  go_wp2
  go_ret2
  exact ⟨_, zf, by (with_reducible repeat refine sR ?_); exact HO_5.out, zb⟩
 obtain ⟨-, c6b0, H⟩ := y1 H
 obtain ⟨-, c7b0, H⟩ := y1 H
 have H' := zq H
 clear H
 obtain ⟨p408, q408, ad408, A408_3, c408_3, A408_4, c408_4, A408_5, c408_5, e408, hx408_0, hx408_1, hx408_2, hx408_3, hx408_4, hx408_5, hl408_3, hi408_3, hl408_4, hi408_4, hl408_5, hi408_5⟩ := yp (qEY HR0.out x20_1)
 cases e408
 (try replace hx408_0 := zh hx408_0)
 replace hx408_1 := zh hx408_1
 replace hx408_2 := zh hx408_2
 replace hx408_3 := zh hx408_3
 replace hx408_4 := zh hx408_4
 replace hx408_5 := zh hx408_5
 have HR408_3 := zq hi408_3
 have HC408_3 := zq hl408_3
 clear hi408_3 hl408_3
 have HR408_4 := zq hi408_4
 have HC408_4 := zq hl408_4
 clear hi408_4 hl408_4
 have HR408_5 := zq hi408_5
 have HC408_5 := zq hl408_5
 clear hi408_5 hl408_5
 go_wp2_with ((refine boxY 7 #[.string (⟨#[]⟩ : ByteArray), .int .i64 0, .int .i64 0, .slice none 0 0, .slice none 0 0, .slice none 0 0] 49 ?_; intro gb409 hg w8 BK409 hb; have GW409 := zg w gb409; replace HO_5 := zq (Kd.qBM (by (with_reducible repeat refine sR ?_); exact HO_5.out) hb); replace HB := zB hb; clear hb hg; have hcz9 := bc6 BK409.out))
 go_loopg [5, 27] k1 (fun kq v5 v27 w' => ∃ (x5_2 : List (S25)) (x27_2 : Int), v27 = .int .i64 x27_2 ∧ qA0 (qB1.l1 kq x5_2 l0 (l0.length : Int) x20_1 ((qA4 l0 x20_1).f4) (((qA4 l0 x20_1).f4).length : Int) x27_2 ((qA4 l0 x20_1).f0) ((qA4 l0 x20_1).f1) ((qA4 l0 x20_1).f2) ((qA4 l0 x20_1).f3) ((qA4 l0 x20_1).f4) ((qA4 l0 x20_1).f5) = some (r1, r2)) ∧ qA0 (kq ≤ k1) ∧ qA0 (Kd.R k25 25 w' w.heap.size (fun _ => True) v5 x5_2) ∧ qA0 (w'.heap[gb409]? = some (.cells #[.string ((qA4 l0 x20_1).f0), .int .i64 ((qA4 l0 x20_1).f1), .int .i64 ((qA4 l0 x20_1).f2), (.slice A408_3 ((qA4 l0 x20_1).f3).length c408_3), (.slice A408_4 ((qA4 l0 x20_1).f4).length c408_4), (.slice A408_5 ((qA4 l0 x20_1).f5).length c408_5)] 49 (0, 0))) ∧ qA0 (Below w.heap.size w w'))
 case atStart => exact ⟨(x5_1), (0), zs, H', ⟨Nat.le_refl _⟩, ⟨by (with_reducible repeat refine sR ?_); exact Kd.qB3 (Kd.qAW (Kd.qAW (Kd.qAW (Kd.qAW (Kd.qAW (Kd.qAW (Kd.qBW HO_5.out BK409.out (by decide)) (fun _ hk => hk.2) _) (fun _ hk => hk.2) _) (fun _ hk => hk.2) _) (fun _ hk => hk.2) _) (fun _ hk => hk.2) _) (fun _ hk => hk.2) _) (fun _ hk => trivial)⟩, ⟨zp6 BK409⟩, ⟨zb⟩⟩
 clear H' c5b0 c6b0 c7b0 hcz9 hx408_0 hx408_1 hx408_2 hx408_3 hx408_4 hx408_5 p408 q408
 obtain ⟨x5_2, x27_2, rfl, HA, HK2, HO_5, BK409, HB⟩ := hrel
 obtain _ | k2 := gk
 ·exact absurd HA.out (by simp [qB1.l1])
 have H := HA.out
 clear HA
 simp only [qB1.l1] at H
 obtain ⟨-, c10b0, H⟩ | ⟨-, c10b0, H⟩ := y3 H
 rotate_left
 ·have H' := zq H
  clear H
  have hcz25 := bc6 BK409.out
  go_wp2
  go_loopg [5, 57] k2 (fun kq v5 v57 w' => ∃ (x5_3 : List (S25)) (x57_3 : Int), v57 = .int .i64 x57_3 ∧ qA0 (qB1.l3 kq x5_3 l0 (l0.length : Int) x20_1 ((qA4 l0 x20_1).f5) (((qA4 l0 x20_1).f5).length : Int) x57_3 ((qA4 l0 x20_1).f0) ((qA4 l0 x20_1).f1) ((qA4 l0 x20_1).f2) ((qA4 l0 x20_1).f3) ((qA4 l0 x20_1).f4) ((qA4 l0 x20_1).f5) = some (r1, r2)) ∧ qA0 (kq ≤ k2) ∧ qA0 (Kd.R k25 25 w' w.heap.size (fun _ => True) v5 x5_3) ∧ qA0 (w'.heap[gb409]? = some (.cells #[.string ((qA4 l0 x20_1).f0), .int .i64 ((qA4 l0 x20_1).f1), .int .i64 ((qA4 l0 x20_1).f2), (.slice A408_3 ((qA4 l0 x20_1).f3).length c408_3), (.slice A408_4 ((qA4 l0 x20_1).f4).length c408_4), (.slice A408_5 ((qA4 l0 x20_1).f5).length c408_5)] 49 (0, 0))) ∧ qA0 (Below w.heap.size w w'))
  case atStart => exact ⟨(x5_2), (0), zs, H', ⟨Nat.le_refl _⟩, zR HO_5, ⟨zk BK409⟩, ⟨zb⟩⟩
  clear H' c10b0 hcz25
  obtain ⟨x5_3, x57_3, rfl, HA, HK3, HO_5, BK409, HB⟩ := hrel
  obtain _ | k3 := gk
  ·exact absurd HA.out (by simp [qB1.l3])
  have H := HA.out
  clear HA
  simp only [qB1.l3] at H
  obtain ⟨-, c26b0, H⟩ | ⟨-, c26b0, H⟩ := y3 H
  rotate_left
  ·have H' := zq H
   clear H
   go_wp2
   go_roundg k3
   case measure => have := HK1.out; have := HK2.out; have := HK3.out; omega
   case rel => exact ⟨(x5_3), (wrap64 (x20_1 + 1)), zs, H', ⟨by have := HK1.out; have := HK2.out; have := HK3.out; omega⟩, zR HO_5, ⟨zb⟩⟩
  obtain ⟨-, c27b0, H⟩ := y1 H
  obtain ⟨-, c28b0, H⟩ := y1 H
  replace H := zi H
  obtain ⟨t420, A290, H⟩ := H
  have A29 := zq A290
  clear A290
  replace H := zi H
  obtain ⟨t423, A300, H⟩ := H
  have A30 := zq A300
  clear A300
  have H' := zq H
  clear H
  obtain ⟨p418, q418, ad418, A418_2, c418_2, A418_3, c418_3, A418_4, c418_4, e418, hx418_0, hx418_1, hx418_2, hx418_3, hx418_4, hx418_5, hl418_2, hi418_2, hl418_3, hi418_3, hl418_4, hi418_4⟩ := yp (at_T55 HR408_5.out x57_3)
  cases e418
  (try replace hx418_0 := zh hx418_0)
  replace hx418_1 := zh hx418_1
  replace hx418_2 := zh hx418_2
  replace hx418_3 := zh hx418_3
  replace hx418_4 := zh hx418_4
  replace hx418_5 := zh hx418_5
  have HR418_2 := zq hi418_2
  have HC418_2 := zq hl418_2
  clear hi418_2 hl418_2
  have HR418_3 := zq hi418_3
  have HC418_3 := zq hl418_3
  clear hi418_3 hl418_3
  have HR418_4 := zq hi418_4
  have HC418_4 := zq hl418_4
  clear hi418_4 hl418_4
  go_wp2_with (first | (refine boxY 12 #[.string (⟨#[]⟩ : ByteArray), .string (⟨#[]⟩ : ByteArray), .slice none 0 0, .slice none 0 0, .slice none 0 0, .int .i64 0] 55 ?_; intro gb419 hg w31 BK419 hb; have GW419 := zg w gb419; have NB409_419 := zl BK409 gb419; have NB419_409 := zu BK409 gb419; replace HO_5 := zq (Kd.qBM (by (with_reducible repeat refine sR ?_); exact HO_5.out) hb); replace BK409 := zK BK409 hb; replace HB := zB hb; clear hb hg; have hnb32 := NB419_409.out; have hnc32 := NB409_419.out; have hcz33 := bc6 BK419.out) | ((with_reducible refine qC8 (t := 55) (p := 12) rfl ?_); refine qDT (t := 55) (p := 12) (v := ?vo_w34) (w1 := ((((((w31.setCell ⟨gb419, 0, none⟩ (.string ((qAY ((qA4 l0 x20_1).f5) x57_3).f0))).setCell ⟨gb419, 1, none⟩ (.string ((qAY ((qA4 l0 x20_1).f5) x57_3).f1))).setCell ⟨gb419, 2, none⟩ (.slice A418_2 ((qAY ((qA4 l0 x20_1).f5) x57_3).f2).length c418_2)).setCell ⟨gb419, 3, none⟩ (.slice A418_3 ((qAY ((qA4 l0 x20_1).f5) x57_3).f3).length c418_3)).setCell ⟨gb419, 4, none⟩ (.slice A418_4 ((qAY ((qA4 l0 x20_1).f5) x57_3).f4).length c418_4)).setCell ⟨gb419, 5, none⟩ (.int .i64 ((qAY ((qA4 l0 x20_1).f5) x57_3).f5)))) ?hg ?ho ?hn ?hr ?_; (case ho => rfl); (case hg => rfl); (case hn => rfl); (case hr => first | (go_simp; done) | (go_simp; rfl)); intro w34 hw; have n0_ : qA0 (Kd.R k25 25 w34 w.heap.size (fun _ => True) u5 x5_3) := ⟨(by rw [hw]; exact (by (with_reducible repeat refine sR ?_); exact Kd.qB3 (Kd.qAW (Kd.qAW (Kd.qAW (Kd.qAW (Kd.qAW (Kd.qAW (Kd.qBW HO_5.out BK419.out (by decide)) (fun _ hk => hk.2) _) (fun _ hk => hk.2) _) (fun _ hk => hk.2) _) (fun _ hk => hk.2) _) (fun _ hk => hk.2) _) (fun _ hk => hk.2) _) (fun _ hk => trivial)))⟩; have n1_ : qA0 (w34.heap[gb409]? = some (.cells #[.string ((qA4 l0 x20_1).f0), .int .i64 ((qA4 l0 x20_1).f1), .int .i64 ((qA4 l0 x20_1).f2), .slice A408_3 ((qA4 l0 x20_1).f3).length c408_3, .slice A408_4 ((qA4 l0 x20_1).f4).length c408_4, .slice (some ad418) ((qA4 l0 x20_1).f5).length c408_5] 49 (0, 0))) := ⟨(by rw [hw]; exact (by refine zf6 ?_ NB409_419; (with_reducible repeat refine st ?_); exact BK409.out))⟩; have n2_ : qA0 (w34.heap[gb419]? = some (.cells #[.string ((qAY ((qA4 l0 x20_1).f5) x57_3).f0), .string ((qAY ((qA4 l0 x20_1).f5) x57_3).f1), .slice A418_2 ((qAY ((qA4 l0 x20_1).f5) x57_3).f2).length c418_2, .slice A418_3 ((qAY ((qA4 l0 x20_1).f5) x57_3).f3).length c418_3, .slice A418_4 ((qAY ((qA4 l0 x20_1).f5) x57_3).f4).length c418_4, .int .i64 ((qAY ((qA4 l0 x20_1).f5) x57_3).f5)] 55 (0, 0))) := ⟨(by rw [hw]; exact (zp6 BK419))⟩; have n3_ : qA0 (Below w.heap.size w w34) := ⟨(by rw [hw]; exact zb)⟩; clear hw; clear HO_5; clear BK409; clear BK419; clear HB; have HO_5 := n0_; have BK409 := n1_; have BK419 := n2_; have HB := n3_; clear n0_ n1_ n2_ n3_; have hcz35 := bc6 BK409.out; have hcz36 := bc6 BK419.out; obtain ⟨Ao37, co37, eo37⟩ := Kd.qBX HO_5.out; subst eo37) | (refine qBY (some 69) Tryz.func55 #[.slice Ao37 x5_3.length co37, .agg #[.string ((qA4 l0 x20_1).f0), .string ((qAY ((qA4 l0 x20_1).f5) x57_3).f0), .int .i64 0, .int .i64 0], .slice A418_2 ((qAY ((qA4 l0 x20_1).f5) x57_3).f2).length c418_2] ?_; (with_reducible refine (qBH.calls k3 (fun k_ => some k_ = (.slice Ao37 x5_3.length co37 : Value).ownBlock) (.slice Ao37 x5_3.length co37) x5_3 ((qA4 l0 x20_1).f0) ((qAY ((qA4 l0 x20_1).f5) x57_3).f0) 0 0 _ _ ((qAY ((qA4 l0 x20_1).f5) x57_3).f2) t420 w _ ?side1 ?side2 ?side3 ?side4 A29.out).mono ?_); (case side1 => repeat (first | (with_reducible first | exact HB.out | apply qAA | apply qA8 | apply qBP | refine qDW ?_ GW409.out | refine qDW ?_ GW419.out) | exact HB.out)); (case side2 => exact Kd.qFO rfl HO_5.out); (case side3 => exact Kd.C_kept_came k79_heap HR418_2.out zb (fun k_ hs_ => (fun e_ => Kd.qEV HO_5.out k_ e_.symm) hs_)); (case side4 => exact HC418_2.out); rintro e w38 ⟨v421, rfl, ho0, hb, hkp⟩; refine ⟨_, rfl, ?_⟩; have HO422 := zq (Kd.qB3 (ok' := fun k_ => True) ho0 (fun k_ hk_ => trivial)); replace BK409 := zq (blk_kept (zk BK409) hkp (fun hs_ => (fun e_ => (Kd.R_ne HO_5.out BK409.out (by decide)) e_) hs_)); replace BK419 := zq (blk_kept (zk BK419) hkp (fun hs_ => (fun e_ => (Kd.R_ne HO_5.out BK419.out (by decide)) e_) hs_)); replace HB := zq (hb); clear HO_5; (try clear hb); (try clear hkp); (try clear ho0); have hcz39 := bc6 BK409.out; have hcz40 := bc6 BK419.out; obtain ⟨Ao41, co41, eo41⟩ := Kd.qBX HO422.out; subst eo41) | (refine qBY (some 78) Tryz.func55 #[.slice Ao41 t420.length co41, .agg #[.string ((qA4 l0 x20_1).f0), .string ((qAY ((qA4 l0 x20_1).f5) x57_3).f0), .int .i64 1, .int .i64 0], .slice A418_3 ((qAY ((qA4 l0 x20_1).f5) x57_3).f3).length c418_3] ?_; (with_reducible refine (qBH.calls k3 (fun k_ => some k_ = (.slice Ao41 t420.length co41 : Value).ownBlock) (.slice Ao41 t420.length co41) t420 ((qA4 l0 x20_1).f0) ((qAY ((qA4 l0 x20_1).f5) x57_3).f0) 1 0 _ _ ((qAY ((qA4 l0 x20_1).f5) x57_3).f3) t423 w _ ?side1 ?side2 ?side3 ?side4 A30.out).mono ?_); (case side1 => repeat (first | (with_reducible first | exact HB.out | apply qAA | apply qA8 | apply qBP | refine qDW ?_ GW409.out | refine qDW ?_ GW419.out) | exact HB.out)); (case side2 => exact Kd.qFO rfl HO422.out); (case side3 => exact Kd.C_kept_came k79_heap HR418_3.out zb (fun k_ hs_ => (fun e_ => Kd.qEV HO422.out k_ e_.symm) hs_)); (case side4 => exact HC418_3.out); rintro e w42 ⟨v424, rfl, ho0, hb, hkp⟩; refine ⟨_, rfl, ?_⟩; have HO425 := zq (Kd.qB3 (ok' := fun k_ => True) ho0 (fun k_ hk_ => trivial)); replace BK409 := zq (blk_kept (zk BK409) hkp (fun hs_ => (fun e_ => (Kd.R_ne HO422.out BK409.out (by decide)) e_) hs_)); replace BK419 := zq (blk_kept (zk BK419) hkp (fun hs_ => (fun e_ => (Kd.R_ne HO422.out BK419.out (by decide)) e_) hs_)); replace HB := zq (hb); clear HO422; (try clear hb); (try clear hkp); (try clear ho0)))
  go_roundg k3
  case measure => have := HK1.out; have := HK2.out; have := HK3.out; omega
  case rel => exact ⟨(t423), (wrap64 (x57_3 + 1)), zs, H', ⟨by have := HK1.out; have := HK2.out; have := HK3.out; omega⟩, zR HO425, ⟨zk BK409⟩, ⟨zb⟩⟩
 obtain ⟨-, c11b0, H⟩ := y1 H
 obtain ⟨-, c12b0, H⟩ := y1 H
 have H' := zq H
 clear H
 obtain ⟨p410, q410, ad410, A410_4, c410_4, e410, hx410_0, hx410_1, hx410_2, hx410_3, hx410_4, hl410_4, hi410_4⟩ := yp (at_T73 HR408_4.out x27_2)
 cases e410
 (try replace hx410_0 := zh hx410_0)
 replace hx410_1 := zh hx410_1
 replace hx410_2 := zh hx410_2
 replace hx410_3 := zh hx410_3
 replace hx410_4 := zh hx410_4
 have HR410_4 := zq hi410_4
 have HC410_4 := zq hl410_4
 clear hi410_4 hl410_4
 go_wp2_with ((refine boxY 9 #[.string (⟨#[]⟩ : ByteArray), .int .i64 0, .int .i64 0, .bool false, .slice none 0 0] 73 ?_; intro gb411 hg w13 BK411 hb; have GW411 := zg w gb411; have NB409_411 := zl BK409 gb411; have NB411_409 := zu BK409 gb411; replace HO_5 := zq (Kd.qBM (by (with_reducible repeat refine sR ?_); exact HO_5.out) hb); replace BK409 := zK BK409 hb; replace HB := zB hb; clear hb hg; have hnb14 := NB411_409.out; have hnc14 := NB409_411.out; have hcz15 := bc5 BK411.out))
 go_loopg [5, 34] k2 (fun kq v5 v34 w' => ∃ (x5_3 : List (S25)) (x34_3 : Int), v34 = .int .i64 x34_3 ∧ qA0 (qB1.l2 kq x5_3 l0 (l0.length : Int) x20_1 ((qA4 l0 x20_1).f4) (((qA4 l0 x20_1).f4).length : Int) x27_2 (((qAK ((qA4 l0 x20_1).f4) x27_2).f4).length : Int) x34_3 ((qA4 l0 x20_1).f0) ((qA4 l0 x20_1).f1) ((qA4 l0 x20_1).f2) ((qA4 l0 x20_1).f3) ((qA4 l0 x20_1).f4) ((qA4 l0 x20_1).f5) ((qAK ((qA4 l0 x20_1).f4) x27_2).f0) ((qAK ((qA4 l0 x20_1).f4) x27_2).f1) ((qAK ((qA4 l0 x20_1).f4) x27_2).f2) ((qAK ((qA4 l0 x20_1).f4) x27_2).f3) ((qAK ((qA4 l0 x20_1).f4) x27_2).f4) = some (r1, r2)) ∧ qA0 (kq ≤ k2) ∧ qA0 (Kd.R k25 25 w' w.heap.size (fun _ => True) v5 x5_3) ∧ qA0 (w'.heap[gb409]? = some (.cells #[.string ((qA4 l0 x20_1).f0), .int .i64 ((qA4 l0 x20_1).f1), .int .i64 ((qA4 l0 x20_1).f2), (.slice A408_3 ((qA4 l0 x20_1).f3).length c408_3), (.slice (some ad410) ((qA4 l0 x20_1).f4).length c408_4), (.slice A408_5 ((qA4 l0 x20_1).f5).length c408_5)] 49 (0, 0))) ∧ qA0 (w'.heap[gb411]? = some (.cells #[.string ((qAK ((qA4 l0 x20_1).f4) x27_2).f0), .int .i64 ((qAK ((qA4 l0 x20_1).f4) x27_2).f1), .int .i64 ((qAK ((qA4 l0 x20_1).f4) x27_2).f2), .bool ((qAK ((qA4 l0 x20_1).f4) x27_2).f3), (.slice A410_4 ((qAK ((qA4 l0 x20_1).f4) x27_2).f4).length c410_4)] 73 (0, 0))) ∧ qA0 (Below w.heap.size w w'))
 case atStart => exact ⟨(x5_2), (0), zs, H', ⟨Nat.le_refl _⟩, ⟨by (with_reducible repeat refine sR ?_); exact Kd.qB3 (Kd.qAW (Kd.qAW (Kd.qAW (Kd.qAW (Kd.qAW (Kd.qBW HO_5.out BK411.out (by decide)) (fun _ hk => hk.2) _) (fun _ hk => hk.2) _) (fun _ hk => hk.2) _) (fun _ hk => hk.2) _) (fun _ hk => hk.2) _) (fun _ hk => trivial)⟩, ⟨by refine zf5 ?_ NB409_411; (with_reducible repeat refine st ?_); exact BK409.out⟩, ⟨zp5 BK411⟩, ⟨zb⟩⟩
 clear H' c10b0 c11b0 c12b0 hcz15 hx410_0 hx410_1 hx410_2 hx410_3 hx410_4 p410 q410
 obtain ⟨x5_3, x34_3, rfl, HA, HK3, HO_5, BK409, BK411, HB⟩ := hrel
 obtain _ | k3 := gk
 ·exact absurd HA.out (by simp [qB1.l2])
 have H := HA.out
 clear HA
 simp only [qB1.l2] at H
 obtain ⟨-, c16b0, H⟩ | ⟨-, c16b0, H⟩ := y3 H
 rotate_left
 ·have H' := zq H
  clear H
  go_wp2
  go_roundg k3
  case measure => have := HK1.out; have := HK2.out; have := HK3.out; omega
  case rel => exact ⟨(x5_3), (wrap64 (x27_2 + 1)), zs, H', ⟨by have := HK1.out; have := HK2.out; have := HK3.out; omega⟩, zR HO_5, ⟨zk BK409⟩, ⟨zb⟩⟩
 obtain ⟨y412, hy_⟩ : ∃ y_ : List (S25), y_ = (([(⟨((qA4 l0 x20_1).f0), ((qAK ((qA4 l0 x20_1).f4) x27_2).f0), 2, x34_3⟩ : S25), (⟨((qA4 l0 x20_1).f0), ((qAK ((qA4 l0 x20_1).f4) x27_2).f0), 3, x34_3⟩ : S25)] : List (S25))) := ⟨_, rfl⟩
 replace H : (if x5_3.length + y412.length < 2932031007402 then (qB1.l2 k3 (x5_3 ++ y412) l0 (l0.length : Int) x20_1 ((qA4 l0 x20_1).f4) (((qA4 l0 x20_1).f4).length : Int) x27_2 (((qAK ((qA4 l0 x20_1).f4) x27_2).f4).length : Int) (wrap64 (x34_3 + 1)) ((qA4 l0 x20_1).f0) ((qA4 l0 x20_1).f1) ((qA4 l0 x20_1).f2) ((qA4 l0 x20_1).f3) ((qA4 l0 x20_1).f4) ((qA4 l0 x20_1).f5) ((qAK ((qA4 l0 x20_1).f4) x27_2).f0) ((qAK ((qA4 l0 x20_1).f4) x27_2).f1) ((qAK ((qA4 l0 x20_1).f4) x27_2).f2) ((qAK ((qA4 l0 x20_1).f4) x27_2).f3) ((qAK ((qA4 l0 x20_1).f4) x27_2).f4)) else (none)) = some (r1, r2) := zr
 have Ny412 := zq hy_
 clear hy_
 obtain ⟨c17, -, H⟩ := y1 H
 have LMc17 := zq c17
 clear c17
 obtain ⟨y415, hy_⟩ : ∃ y_ : List (S25), y_ = (x5_3 ++ y412) := ⟨_, rfl⟩
 replace H : (qB1.l2 k3 y415 l0 (l0.length : Int) x20_1 ((qA4 l0 x20_1).f4) (((qA4 l0 x20_1).f4).length : Int) x27_2 (((qAK ((qA4 l0 x20_1).f4) x27_2).f4).length : Int) (wrap64 (x34_3 + 1)) ((qA4 l0 x20_1).f0) ((qA4 l0 x20_1).f1) ((qA4 l0 x20_1).f2) ((qA4 l0 x20_1).f3) ((qA4 l0 x20_1).f4) ((qA4 l0 x20_1).f5) ((qAK ((qA4 l0 x20_1).f4) x27_2).f0) ((qAK ((qA4 l0 x20_1).f4) x27_2).f1) ((qAK ((qA4 l0 x20_1).f4) x27_2).f2) ((qAK ((qA4 l0 x20_1).f4) x27_2).f3) ((qAK ((qA4 l0 x20_1).f4) x27_2).f4)) = some (r1, r2) := zr
 have Ny415 := zq hy_
 clear hy_
 have H' := zq H
 clear H
 have hnb18 := NB409_411.out
 have hnc18 := NB411_409.out
 have hcz19 := bc6 BK409.out
 have hcz20 := bc5 BK411.out
 go_wp2_with (first | ((with_reducible refine qAS (N := 50) rfl ?_); refine Kd.qFV k25 _ 25 ?hg (N := 50) ?hd (xs := ([(⟨((qA4 l0 x20_1).f0), ((qAK ((qA4 l0 x20_1).f4) x27_2).f0), 2, x34_3⟩ : S25), (⟨((qA4 l0 x20_1).f0), ((qAK ((qA4 l0 x20_1).f4) x27_2).f0), 3, x34_3⟩ : S25)] : List (S25))) (inner := [.string ((qA4 l0 x20_1).f0), .string ((qAK ((qA4 l0 x20_1).f4) x27_2).f0), .int .i64 2, .int .i64 x34_3, .string ((qA4 l0 x20_1).f0), .string ((qAK ((qA4 l0 x20_1).f4) x27_2).f0), .int .i64 3, .int .i64 x34_3]) (ok := fun _ => True) (okp := fun _ => True) ?hr ?hp (fun _ hk => hk) trivial (Below.refl _ _) (Nat.le_refl _) (by simp) ?_; (case hd => rfl); (case hg => rfl); (case hr => first | (go_simp; done) | (go_simp; rfl)); (case hp => exact (Reps.c4 (show Kd.M k25 _ _ _ (⟨((qA4 l0 x20_1).f0), ((qAK ((qA4 l0 x20_1).f4) x27_2).f0), 2, x34_3⟩ : S25) [.string ((qA4 l0 x20_1).f0), .string ((qAK ((qA4 l0 x20_1).f4) x27_2).f0), .int .i64 2, .int .i64 x34_3] from (k25_mkM _ _ _ (⟨((qA4 l0 x20_1).f0), ((qAK ((qA4 l0 x20_1).f4) x27_2).f0), 2, x34_3⟩ : S25) )) (Reps.c4 (show Kd.M k25 _ _ _ (⟨((qA4 l0 x20_1).f0), ((qAK ((qA4 l0 x20_1).f4) x27_2).f0), 3, x34_3⟩ : S25) [.string ((qA4 l0 x20_1).f0), .string ((qAK ((qA4 l0 x20_1).f4) x27_2).f0), .int .i64 3, .int .i64 x34_3] from (k25_mkM _ _ _ (⟨((qA4 l0 x20_1).f0), ((qAK ((qA4 l0 x20_1).f4) x27_2).f0), 3, x34_3⟩ : S25) )) (Reps.none _ _)))); intro v413 w21 ho22 hb hg_ hnew_; clear hg_ hnew_; (first | rw [← Ny412.out] at ho22 | (simp only [Int.reduceToNat] at ho22; rw [← Ny412.out] at ho22)); have HO414 := zq (Kd.qC3 (Kd.R_new' ho22 (Kd.R_lt (by (with_reducible repeat refine sR ?_); exact HO_5.out))) (qAH zb)); replace HO_5 := zq (Kd.R_elder' (by (with_reducible repeat refine sR ?_); exact HO_5.out) (Kd.qEV ho22) hb); replace BK409 := zK BK409 hb; replace BK411 := zK BK411 hb; replace HB := zB hb; clear hb ho22; obtain ⟨Ao24, co24, eo24⟩ := Kd.qBX HO414.out; subst eo24) | ((with_reducible refine qDV (b := .append) (xs := #[.tmp 37, .tmp 50]) rfl ?_); at_builtin; refine Kd.R_append_rows k25 (w0 := w) w.heap.size rfl (.tmp 37) (.tmp 50) 30 25 (.agg #[(.string ⟨#[]⟩), (.string ⟨#[]⟩), (.int .i64 0), (.int .i64 0)]) 48 rfl Tryz.underlying30 info25 rfl (by decide) (by omega) u5 x5_3 y412 _ _ _ (fun k_ => some k_ ≠ (.slice Ao24 y412.length co24 : Value).ownBlock) (fun _ => False) rfl rfl ?aO ?aR (fun _ _ h => h) (fun _ h => h.elim) ?aF ?aB ?aS ?aL ?_; (case aR => repeat (first | exact (Kd.qAR HO414.out).2.2 | refine sC ?_)); (case aB => exact zb); (case aF => exact (fun k_ hk => Kd.fresh' (Kd.R_lt (by (with_reducible repeat refine sR ?_); exact HO414.out)) k_ hk)); (case aO => exact (by (with_reducible repeat refine sR ?_); exact Kd.qB3 HO_5.out (fun _ hk => hk.2))); (case aS => exact (qAH zb)); (case aL => have := LMc17.out; omega); intro v416 w23 ho hb hg hat; rw [← Ny415.out] at ho; have HO417 := zq (ho); replace BK409 := zq (qAF (g := gb409) (o := .cells #[.string ((qA4 l0 x20_1).f0), .int .i64 ((qA4 l0 x20_1).f1), .int .i64 ((qA4 l0 x20_1).f2), .slice A408_3 ((qA4 l0 x20_1).f3).length c408_3, .slice (some ad410) ((qA4 l0 x20_1).f4).length c408_4, .slice A408_5 ((qA4 l0 x20_1).f5).length c408_5] 49 (0, 0)) (zk BK409) hg (Kd.R_ne HO_5.out BK409.out (by decide))); replace BK411 := zq (qAF (g := gb411) (o := .cells #[.string ((qAK ((qA4 l0 x20_1).f4) x27_2).f0), .int .i64 ((qAK ((qA4 l0 x20_1).f4) x27_2).f1), .int .i64 ((qAK ((qA4 l0 x20_1).f4) x27_2).f2), .bool ((qAK ((qA4 l0 x20_1).f4) x27_2).f3), .slice A410_4 ((qAK ((qA4 l0 x20_1).f4) x27_2).f4).length c410_4] 73 (0, 0)) (zk BK411) hg (Kd.R_ne HO_5.out BK411.out (by decide))); replace HO414 := zq (Kd.R_after (ok := (fun _ => True)) (by (with_reducible repeat refine sR ?_); exact HO414.out) hg hat); replace HB := zq (hb); clear HO_5; clear ho hb hg hat))
 go_roundg k3
 case measure => have := HK1.out; have := HK2.out; have := HK3.out; omega
 case rel => exact ⟨(y415), (wrap64 (x34_3 + 1)), zs, H', ⟨by have := HK1.out; have := HK2.out; have := HK3.out; omega⟩, ⟨by (with_reducible repeat refine sR ?_); exact Kd.qB3 HO417.out (fun _ hk => trivial)⟩, ⟨zk BK409⟩, ⟨zk BK411⟩, ⟨zb⟩⟩
def qDO.f (a0 : Int) : Option ((List (S49))) := some (([(⟨(⟨#[108, 97, 119]⟩ : ByteArray), 0, 0, (([(⟨(⟨#[105, 110]⟩ : ByteArray), 5, true, 0, 9, (⟨0, 0⟩ : S69)⟩ : S98), (⟨(⟨#[111, 117, 116]⟩ : ByteArray), 5, false, 0, 0, (⟨0, 0⟩ : S69)⟩ : S98)] : List (S98))), ([] : List (S73)), (([(⟨(⟨#[97]⟩ : ByteArray), (⟨#[111, 117, 116]⟩ : ByteArray), ([] : List (S79)), (([(⟨1, ([] : List Int), 0, 0, (⟨#[105, 110]⟩ : ByteArray)⟩ : S79), (⟨0, ([] : List Int), 5, a0, (⟨#[]⟩ : ByteArray)⟩ : S79), (⟨10, (([0, 1] : List Int)), 0, 0, (⟨#[]⟩ : ByteArray)⟩ : S79)] : List (S79))), ([] : List (S59)), 0⟩ : S55)] : List (S55)))⟩ : S49)] : List (S49)))
theorem qDO.calls (a0 : Int) (r : List (S49)) (w : World) (h : qDO.f a0 = some r) :
  Calls Tryz.prog 31 #[.int .i64 a0] w fun e w' => ∃ v0_ : Value, e = .returned (v0_) ∧ Kd.N k49 49 w' w.heap.size (fun k_ => (w.heap.size ≤ k_)) v0_ r ∧ Below w.heap.size w w' := by
 have hu79 := Tryz.underlying79
 have hu98 := Tryz.underlying98
 have hu55 := Tryz.underlying55
 have hu49 := Tryz.underlying49
 have HB := zq (Below.refl w.heap.size w)
 have H := h
 unfold qDO.f at H
 clear h
 obtain ⟨y426, hy_⟩ : ∃ y_ : List Int, y_ = (([0, 1] : List Int)) := ⟨_, rfl⟩
 replace H : (some (([(⟨(⟨#[108, 97, 119]⟩ : ByteArray), 0, 0, (([(⟨(⟨#[105, 110]⟩ : ByteArray), 5, true, 0, 9, (⟨0, 0⟩ : S69)⟩ : S98), (⟨(⟨#[111, 117, 116]⟩ : ByteArray), 5, false, 0, 0, (⟨0, 0⟩ : S69)⟩ : S98)] : List (S98))), ([] : List (S73)), (([(⟨(⟨#[97]⟩ : ByteArray), (⟨#[111, 117, 116]⟩ : ByteArray), ([] : List (S79)), (([(⟨1, ([] : List Int), 0, 0, (⟨#[105, 110]⟩ : ByteArray)⟩ : S79), (⟨0, ([] : List Int), 5, a0, (⟨#[]⟩ : ByteArray)⟩ : S79), (⟨10, y426, 0, 0, (⟨#[]⟩ : ByteArray)⟩ : S79)] : List (S79))), ([] : List (S59)), 0⟩ : S55)] : List (S55)))⟩ : S49)] : List (S49)))) = some r := zr
 have Ny426 := zq hy_
 clear hy_
 obtain ⟨y429, hy_⟩ : ∃ y_ : List (S79), y_ = (([(⟨1, ([] : List Int), 0, 0, (⟨#[105, 110]⟩ : ByteArray)⟩ : S79), (⟨0, ([] : List Int), 5, a0, (⟨#[]⟩ : ByteArray)⟩ : S79), (⟨10, y426, 0, 0, (⟨#[]⟩ : ByteArray)⟩ : S79)] : List (S79))) := ⟨_, rfl⟩
 replace H : (some (([(⟨(⟨#[108, 97, 119]⟩ : ByteArray), 0, 0, (([(⟨(⟨#[105, 110]⟩ : ByteArray), 5, true, 0, 9, (⟨0, 0⟩ : S69)⟩ : S98), (⟨(⟨#[111, 117, 116]⟩ : ByteArray), 5, false, 0, 0, (⟨0, 0⟩ : S69)⟩ : S98)] : List (S98))), ([] : List (S73)), (([(⟨(⟨#[97]⟩ : ByteArray), (⟨#[111, 117, 116]⟩ : ByteArray), ([] : List (S79)), y429, ([] : List (S59)), 0⟩ : S55)] : List (S55)))⟩ : S49)] : List (S49)))) = some r := zr
 have Ny429 := zq hy_
 clear hy_
 obtain ⟨y432, hy_⟩ : ∃ y_ : List (S98), y_ = (([(⟨(⟨#[105, 110]⟩ : ByteArray), 5, true, 0, 9, (⟨0, 0⟩ : S69)⟩ : S98), (⟨(⟨#[111, 117, 116]⟩ : ByteArray), 5, false, 0, 0, (⟨0, 0⟩ : S69)⟩ : S98)] : List (S98))) := ⟨_, rfl⟩
 replace H : (some (([(⟨(⟨#[108, 97, 119]⟩ : ByteArray), 0, 0, y432, ([] : List (S73)), (([(⟨(⟨#[97]⟩ : ByteArray), (⟨#[111, 117, 116]⟩ : ByteArray), ([] : List (S79)), y429, ([] : List (S59)), 0⟩ : S55)] : List (S55)))⟩ : S49)] : List (S49)))) = some r := zr
 have Ny432 := zq hy_
 clear hy_
 obtain ⟨y435, hy_⟩ : ∃ y_ : List (S55), y_ = (([(⟨(⟨#[97]⟩ : ByteArray), (⟨#[111, 117, 116]⟩ : ByteArray), ([] : List (S79)), y429, ([] : List (S59)), 0⟩ : S55)] : List (S55))) := ⟨_, rfl⟩
 replace H : (some (([(⟨(⟨#[108, 97, 119]⟩ : ByteArray), 0, 0, y432, ([] : List (S73)), y435⟩ : S49)] : List (S49)))) = some r := zr
 have Ny435 := zq hy_
 clear hy_
 obtain ⟨y438, hy_⟩ : ∃ y_ : List (S49), y_ = (([(⟨(⟨#[108, 97, 119]⟩ : ByteArray), 0, 0, y432, ([] : List (S73)), y435⟩ : S49)] : List (S49))) := ⟨_, rfl⟩
 replace H : (some y438) = some r := zr
 have Ny438 := zq hy_
 clear hy_
 obtain rfl := zy H
 go_enter Tryz.func31, Tryz.ntmps31
 go_wp2_with (first | ((with_reducible refine qAS (N := 7) rfl ?_); refine Kd.qFV (Kd.int .i64) _ 3 ?hg (N := 7) ?hd (xs := ([0, 1] : List Int)) (inner := [.int .i64 0, .int .i64 1]) (ok := fun _ => True) (okp := fun _ => True) ?hr ?hp (fun _ hk => hk) trivial (Below.refl _ _) (Nat.le_refl _) (by simp) ?_; (case hd => rfl); (case hg => rfl); (case hr => first | (go_simp; done) | (go_simp; rfl)); (case hp => exact (Reps.one (show Kd.M (Kd.int .i64) _ _ _ 0 [.int .i64 0] from rfl) (Reps.one (show Kd.M (Kd.int .i64) _ _ _ 1 [.int .i64 1] from rfl) (Reps.none _ _)))); intro v427 w2 ho3 hb hg_ hnew_; clear hg_ hnew_; (first | rw [← Ny426.out] at ho3 | (simp only [Int.reduceToNat] at ho3; rw [← Ny426.out] at ho3)); have HO428 := zq (Kd.qC3 (Kd.R_newM (M := fun k_ => (w.heap.size ≤ k_)) ho3 (qAH zb) (fun k_ h_ => h_)) (qAH zb)); replace HB := zB hb; clear hb ho3; obtain ⟨Ao4, co4, eo4⟩ := Kd.qBX HO428.out; subst eo4) | ((with_reducible refine qAS (N := 9) rfl ?_); refine Kd.N_lit k79 _ 79 ?hg (N' := 9) ?hd (xs := ([(⟨1, ([] : List Int), 0, 0, (⟨#[105, 110]⟩ : ByteArray)⟩ : S79), (⟨0, ([] : List Int), 5, a0, (⟨#[]⟩ : ByteArray)⟩ : S79), (⟨10, y426, 0, 0, (⟨#[]⟩ : ByteArray)⟩ : S79)] : List (S79))) (inner := [.int .i64 1, .slice none 0 0, .int .i64 0, .int .i64 0, .string (⟨#[105, 110]⟩ : ByteArray), .int .i64 0, .slice none 0 0, .int .i64 5, .int .i64 a0, .string (⟨#[]⟩ : ByteArray), .int .i64 10, .slice Ao4 y426.length co4, .int .i64 0, .int .i64 0, .string (⟨#[]⟩ : ByteArray)]) (ok := (fun k_ => (w.heap.size ≤ k_))) (okp := (fun k_ => (w.heap.size ≤ k_))) ?hr ?hp (fun _ hk => hk) ((show ∀ k_, w2.heap.size ≤ k_ → (fun k_ => (w.heap.size ≤ k_)) k_ from fun k_ hk => (Nat.le_trans (qAH zb) hk)) _ (Nat.le_refl _)) (Below.refl _ _) (Nat.le_refl _) (by simp) ?_; (case hd => rfl); (case hg => rfl); (case hr => first | (go_simp; done) | (go_simp; rfl)); (case hp => exact (Reps.c5 (show Kd.FK k79 _ _ (⟨1, ([] : List Int), 0, 0, (⟨#[105, 110]⟩ : ByteArray)⟩ : S79) [.int .i64 1, .slice none 0 0, .int .i64 0, .int .i64 0, .string (⟨#[105, 110]⟩ : ByteArray)] from (k79_mkF _ _ (⟨1, ([] : List Int), 0, 0, (⟨#[105, 110]⟩ : ByteArray)⟩ : S79) (Nat.le_refl _) (Kd.F_nil _ _ _))) (Reps.c5 (show Kd.FK k79 _ _ (⟨0, ([] : List Int), 5, a0, (⟨#[]⟩ : ByteArray)⟩ : S79) [.int .i64 0, .slice none 0 0, .int .i64 5, .int .i64 a0, .string (⟨#[]⟩ : ByteArray)] from (k79_mkF _ _ (⟨0, ([] : List Int), 5, a0, (⟨#[]⟩ : ByteArray)⟩ : S79) (Nat.le_refl _) (Kd.F_nil _ _ _))) (Reps.c5 (show Kd.FK k79 _ _ (⟨10, y426, 0, 0, (⟨#[]⟩ : ByteArray)⟩ : S79) [.int .i64 10, .slice Ao4 y426.length co4, .int .i64 0, .int .i64 0, .string (⟨#[]⟩ : ByteArray)] from (k79_mkF _ _ (⟨10, y426, 0, 0, (⟨#[]⟩ : ByteArray)⟩ : S79) (Kd.qAR (Kd.qB3 (ok' := (fun k_ => (w.heap.size ≤ k_))) (HO428.out) (fun k_ hk => hk.1))).2.1 (Kd.R_F (Kd.qB3 (ok' := (fun k_ => (w.heap.size ≤ k_))) (HO428.out) (fun k_ hk => hk.1))))) (Reps.none _ _))))); intro v430 w5 ho6 hb hg_ hnew_; clear hg_ hnew_; (first | rw [← Ny429.out] at ho6 | (simp only [Int.reduceToNat] at ho6; rw [← Ny429.out] at ho6)); have HO431 := zq (Kd.N_lower ho6 (qAH zb)); replace HB := zB hb; clear HO428; clear hb ho6) | ((with_reducible refine qAS (N := 12) rfl ?_); refine Kd.qFV k98 _ 98 ?hg (N := 12) ?hd (xs := ([(⟨(⟨#[105, 110]⟩ : ByteArray), 5, true, 0, 9, (⟨0, 0⟩ : S69)⟩ : S98), (⟨(⟨#[111, 117, 116]⟩ : ByteArray), 5, false, 0, 0, (⟨0, 0⟩ : S69)⟩ : S98)] : List (S98))) (inner := [.string (⟨#[105, 110]⟩ : ByteArray), .int .i64 5, .bool true, .int .i64 0, .int .i64 9, .int .i64 0, .int .i64 0, .string (⟨#[111, 117, 116]⟩ : ByteArray), .int .i64 5, .bool false, .int .i64 0, .int .i64 0, .int .i64 0, .int .i64 0]) (ok := fun _ => True) (okp := fun _ => True) ?hr ?hp (fun _ hk => hk) trivial (Below.refl _ _) (Nat.le_refl _) (by simp) ?_; (case hd => rfl); (case hg => rfl); (case hr => first | (go_simp; done) | (go_simp; rfl)); (case hp => exact (Reps.c7 (show Kd.M k98 _ _ _ (⟨(⟨#[105, 110]⟩ : ByteArray), 5, true, 0, 9, (⟨0, 0⟩ : S69)⟩ : S98) [.string (⟨#[105, 110]⟩ : ByteArray), .int .i64 5, .bool true, .int .i64 0, .int .i64 9, .int .i64 0, .int .i64 0] from (k98_mkM _ _ _ (⟨(⟨#[105, 110]⟩ : ByteArray), 5, true, 0, 9, (⟨0, 0⟩ : S69)⟩ : S98) )) (Reps.c7 (show Kd.M k98 _ _ _ (⟨(⟨#[111, 117, 116]⟩ : ByteArray), 5, false, 0, 0, (⟨0, 0⟩ : S69)⟩ : S98) [.string (⟨#[111, 117, 116]⟩ : ByteArray), .int .i64 5, .bool false, .int .i64 0, .int .i64 0, .int .i64 0, .int .i64 0] from (k98_mkM _ _ _ (⟨(⟨#[111, 117, 116]⟩ : ByteArray), 5, false, 0, 0, (⟨0, 0⟩ : S69)⟩ : S98) )) (Reps.none _ _)))); intro v433 w7 ho8 hb hg_ hnew_; clear hg_ hnew_; (first | rw [← Ny432.out] at ho8 | (simp only [Int.reduceToNat] at ho8; rw [← Ny432.out] at ho8)); have HO434 := zq (Kd.qC3 (Kd.R_newM (M := fun k_ => (w.heap.size ≤ k_)) ho8 (qAH zb) (fun k_ h_ => h_)) (qAH zb)); replace HO431 := zq (Kd.N_elder' (by (with_reducible repeat (first | apply Kd.N_alloc | apply Kd.N_drewN | apply Kd.N_drew)); exact HO431.out) (Kd.qEV ho8) hb); replace HB := zB hb; clear hb ho8; obtain ⟨Ao9, co9, eo9⟩ := Kd.N_slice HO431.out; subst eo9) | ((with_reducible refine qAS (N := 15) rfl ?_); refine Kd.N_lit k55 _ 55 ?hg (N' := 15) ?hd (xs := ([(⟨(⟨#[97]⟩ : ByteArray), (⟨#[111, 117, 116]⟩ : ByteArray), ([] : List (S79)), y429, ([] : List (S59)), 0⟩ : S55)] : List (S55))) (inner := [.string (⟨#[97]⟩ : ByteArray), .string (⟨#[111, 117, 116]⟩ : ByteArray), .slice none 0 0, .slice Ao9 y429.length co9, .slice none 0 0, .int .i64 0]) (ok := (fun k_ => (w.heap.size ≤ k_) ∧ some k_ ≠ (v433 : Value).ownBlock)) (okp := (fun k_ => (w.heap.size ≤ k_) ∧ some k_ ≠ (v433 : Value).ownBlock)) ?hr ?hp (fun _ hk => hk) ((show ∀ k_, w7.heap.size ≤ k_ → (fun k_ => (w.heap.size ≤ k_) ∧ some k_ ≠ (v433 : Value).ownBlock) k_ from fun k_ hk => ⟨(Nat.le_trans (qAH zb) hk), Kd.fresh' (Kd.R_lt (by (with_reducible repeat refine sR ?_); exact HO434.out)) k_ hk⟩) _ (Nat.le_refl _)) (Below.refl _ _) (Nat.le_refl _) (by simp) ?_; (case hd => rfl); (case hg => rfl); (case hr => first | (go_simp; done) | (go_simp; rfl)); (case hp => exact (Reps.c6 (show Kd.FK k55 _ _ (⟨(⟨#[97]⟩ : ByteArray), (⟨#[111, 117, 116]⟩ : ByteArray), ([] : List (S79)), y429, ([] : List (S59)), 0⟩ : S55) [.string (⟨#[97]⟩ : ByteArray), .string (⟨#[111, 117, 116]⟩ : ByteArray), .slice none 0 0, .slice Ao9 y429.length co9, .slice none 0 0, .int .i64 0] from (k55_mkF _ _ (⟨(⟨#[97]⟩ : ByteArray), (⟨#[111, 117, 116]⟩ : ByteArray), ([] : List (S79)), y429, ([] : List (S59)), 0⟩ : S55) (Nat.le_refl _) (Kd.F_nil _ _ _) (Kd.qG1 (Kd.N_mono (ok' := (fun k_ => (w.heap.size ≤ k_) ∧ some k_ ≠ (v433 : Value).ownBlock)) (HO431.out) (fun k_ hk => ⟨hk.1, hk.2⟩))).2.1 (Kd.N_F (Kd.N_mono (ok' := (fun k_ => (w.heap.size ≤ k_) ∧ some k_ ≠ (v433 : Value).ownBlock)) (HO431.out) (fun k_ hk => ⟨hk.1, hk.2⟩))) (Nat.le_refl _) (Kd.F_nil _ _ _))) (Reps.none _ _))); intro v436 w10 ho11 hb hg_ hnew_; clear hg_ hnew_; (first | rw [← Ny435.out] at ho11 | (simp only [Int.reduceToNat] at ho11; rw [← Ny435.out] at ho11)); have HO437 := zq (Kd.N_lower ho11 (qAH zb)); replace HO434 := zq (Kd.qBM (by (with_reducible repeat refine sR ?_); exact HO434.out) hb); replace HB := zB hb; clear HO431; clear hb ho11; obtain ⟨Ao12, co12, eo12⟩ := Kd.N_slice HO437.out; subst eo12; obtain ⟨Ao13, co13, eo13⟩ := Kd.qBX HO434.out; subst eo13) | ((with_reducible refine qAS (N := 17) rfl ?_); refine Kd.N_lit k49 _ 49 ?hg (N' := 17) ?hd (xs := ([(⟨(⟨#[108, 97, 119]⟩ : ByteArray), 0, 0, y432, ([] : List (S73)), y435⟩ : S49)] : List (S49))) (inner := [.string (⟨#[108, 97, 119]⟩ : ByteArray), .int .i64 0, .int .i64 0, .slice Ao13 y432.length co13, .slice none 0 0, .slice Ao12 y435.length co12]) (ok := (fun k_ => (w.heap.size ≤ k_))) (okp := (fun k_ => (w.heap.size ≤ k_))) ?hr ?hp (fun _ hk => hk) ((show ∀ k_, w10.heap.size ≤ k_ → (fun k_ => (w.heap.size ≤ k_)) k_ from fun k_ hk => (Nat.le_trans (qAH zb) hk)) _ (Nat.le_refl _)) (Below.refl _ _) (Nat.le_refl _) (by simp) ?_; (case hd => rfl); (case hg => rfl); (case hr => first | (go_simp; done) | (go_simp; rfl)); (case hp => exact (Reps.c6 (show Kd.FK k49 _ _ (⟨(⟨#[108, 97, 119]⟩ : ByteArray), 0, 0, y432, ([] : List (S73)), y435⟩ : S49) [.string (⟨#[108, 97, 119]⟩ : ByteArray), .int .i64 0, .int .i64 0, .slice Ao13 y432.length co13, .slice none 0 0, .slice Ao12 y435.length co12] from (k49_mkF _ _ (⟨(⟨#[108, 97, 119]⟩ : ByteArray), 0, 0, y432, ([] : List (S73)), y435⟩ : S49) (Kd.qAR (Kd.qB3 (ok' := (fun k_ => (w.heap.size ≤ k_))) (HO434.out) (fun k_ hk => hk.1))).2.1 (Kd.R_F (Kd.qB3 (ok' := (fun k_ => (w.heap.size ≤ k_))) (HO434.out) (fun k_ hk => hk.1))) (Nat.le_refl _) (Kd.F_nil _ _ _) (Kd.qG1 (Kd.N_mono (ok' := (fun k_ => (w.heap.size ≤ k_))) (HO437.out) (fun k_ hk => hk.1))).2.1 (Kd.N_F (Kd.N_mono (ok' := (fun k_ => (w.heap.size ≤ k_))) (HO437.out) (fun k_ hk => hk.1))))) (Reps.none _ _))); intro v439 w14 ho15 hb hg_ hnew_; clear hg_ hnew_; (first | rw [← Ny438.out] at ho15 | (simp only [Int.reduceToNat] at ho15; rw [← Ny438.out] at ho15)); have HO440 := zq (Kd.N_lower ho15 (qAH zb)); replace HB := zB hb; clear HO434; clear HO437; clear hb ho15))
 go_ret
 exact ⟨_, zf, by (with_reducible repeat (first | apply Kd.N_alloc | apply Kd.N_drewN | apply Kd.N_drew)); exact HO440.out, zb⟩
def qC0.l0 : Nat → List (S25) → List (S25) → Int → Int → Option (Bool)
 | 0, _, _, _, _ => none
 | k + 1, x0, x1, x12, x13 => if x13 < x12 then (if 0 ≤ x13 then (if x13 < (x0.length : Int) then (if x13 < (x1.length : Int) then (if (!((((qBS x0 x13).f0).toList) == (((qBS x1 x13).f0).toList)) || (!((((qBS x0 x13).f1).toList) == (((qBS x1 x13).f1).toList)) || (!(((qBS x0 x13).f2) == ((qBS x1 x13).f2)) || (!(((qBS x0 x13).f3) == ((qBS x1 x13).f3)))))) = true then (some false) else (qC0.l0 k x0 x1 x12 (wrap64 (x13 + 1)))) else (none)) else (none)) else (none)) else (some true)
def qC0.f (k : Nat) (l0 : List (S25)) (l1 : List (S25)) : Option (Bool) := if (l0.length : Int) = (l1.length : Int) then (qC0.l0 k l0 l1 (l0.length : Int) 0) else (some false)
theorem qC0.calls (k : Nat) (A0 : Option Addr) (c0 : Nat) (l0 : List (S25)) (A1 : Option Addr) (c1 : Nat) (l1 : List (S25)) (r : Bool) (w : World) (hr0 : Kd.C k25 w A0 l0.length l0) (hc0 : l0.length ≤ c0) (hr1 : Kd.C k25 w A1 l1.length l1) (hc1 : l1.length ≤ c1) (h : qC0.f k l0 l1 = some r) :
  Calls Tryz.prog 32 #[.slice A0 l0.length c0, .slice A1 l1.length c1] w fun e w' => e = .returned (.bool r) ∧ qB8 w w' := by
 have hu25 := Tryz.underlying25
 have HR0 := zq hr0
 have HC0 := zq hc0
 clear hr0 hc0
 have HR1 := zq hr1
 have HC1 := zq hc1
 clear hr1 hc1
 have H := h
 unfold qC0.f at H
 clear h
 obtain ⟨c3, c3b0, c3b1, H⟩ | ⟨c3, c3b0, c3b1, H⟩ := y4 H
 rotate_left
 ·have c3b2 : (l0.length == l1.length) = false := by first | simpa using c3 | (simp at c3 ⊢; omega)
  obtain rfl := zy H
  go_enter Tryz.func32, Tryz.ntmps32
  go_wp2
  go_ret
  exact ⟨zs, zD⟩
 have c3b2 : (l0.length == l1.length) = true := by first | simpa using c3 | (simp at c3 ⊢; omega)
 clear c3
 have H' := zq H
 clear H
 go_enter Tryz.func32, Tryz.ntmps32
 go_wp2
 go_loopg [13] k (fun kq v13 w' => ∃ (x13_1 : Int), v13 = .int .i64 x13_1 ∧ qA0 (qC0.l0 kq l0 l1 (l0.length : Int) x13_1 = some r) ∧ qA0 (kq ≤ k) ∧ qB8 w w')
 case atStart => exact ⟨(0), zs, H', ⟨Nat.le_refl _⟩, by repeat (first | exact qB8.refl _ | apply qB8.step)⟩
 clear H' c3b0 c3b1 c3b2
 obtain ⟨x13_1, rfl, HA, HK1, ⟨m1, rfl⟩⟩ := hrel
 obtain _ | k1 := gk
 ·exact absurd HA.out (by simp [qC0.l0])
 have H := HA.out
 clear HA
 simp only [qC0.l0] at H
 obtain ⟨-, c4b0, H⟩ | ⟨-, c4b0, H⟩ := y3 H
 rotate_left
 ·obtain rfl := zy H
  go_wp2
  go_ret
  exact ⟨zs, zD⟩
 obtain ⟨-, c5b0, H⟩ := y1 H
 obtain ⟨-, c6b0, H⟩ := y1 H
 obtain ⟨-, c7b0, H⟩ := y1 H
 obtain ⟨c8, -, H⟩ | ⟨c8, -, H⟩ := y3 H
 ·have c8b0 : (!((((qBS l0 x13_1).f0).toList) == (((qBS l1 x13_1).f0).toList)) || (!((((qBS l0 x13_1).f1).toList) == (((qBS l1 x13_1).f1).toList)) || (!(((qBS l0 x13_1).f2) == ((qBS l1 x13_1).f2)) || (!(((qBS l0 x13_1).f3) == ((qBS l1 x13_1).f3)))))) = true := c8
  clear c8
  obtain rfl := zy H
  obtain ⟨p441, q441, ad441, e441, hx441_0, hx441_1, hx441_2, hx441_3⟩ := yp (at_T25 HR0.out x13_1)
  cases e441
  obtain ⟨p442, q442, ad442, e442, hx442_0, hx442_1, hx442_2, hx442_3⟩ := yp (at_T25 HR1.out x13_1)
  cases e442
  go_wp2
  repeat (go_quiet (fail); try go_wp2)
  go_ret
  exact ⟨zs, zD⟩
 have c8b0 : (!((((qBS l0 x13_1).f0).toList) == (((qBS l1 x13_1).f0).toList)) || (!((((qBS l0 x13_1).f1).toList) == (((qBS l1 x13_1).f1).toList)) || (!(((qBS l0 x13_1).f2) == ((qBS l1 x13_1).f2)) || (!(((qBS l0 x13_1).f3) == ((qBS l1 x13_1).f3)))))) = false := by simpa using c8
 clear c8
 have H' := zq H
 clear H
 obtain ⟨p441, q441, ad441, e441, hx441_0, hx441_1, hx441_2, hx441_3⟩ := yp (at_T25 HR0.out x13_1)
 cases e441
 obtain ⟨p442, q442, ad442, e442, hx442_0, hx442_1, hx442_2, hx442_3⟩ := yp (at_T25 HR1.out x13_1)
 cases e442
 go_wp2
 repeat (go_quiet (fail); try go_wp2)
 go_roundg k1
 case measure => have := HK1.out; omega
 case rel => exact ⟨(wrap64 (x13_1 + 1)), zs, H', ⟨by have := HK1.out; omega⟩, by repeat (first | exact qB8.refl _ | apply qB8.step)⟩
def qCE.f (k : Nat)  : Option (Bool) := (qDO.f 5).bind fun t443 => ((qB1.f k t443).bind fun bt446 => (if bt446.2 = 0 then ((qC0.f k bt446.1 (([(⟨(⟨#[108, 97, 119]⟩ : ByteArray), (⟨#[97]⟩ : ByteArray), 1, 1⟩ : S25)] : List (S25)))).bind fun t453 => (some t453)) else (some false)))
theorem qCE.calls (k : Nat)  (r : Bool) (w : World) (h : qCE.f k  = some r) :
  Calls Tryz.prog 9 #[] w fun e w' => e = .returned (.bool r) ∧ Below w.heap.size w w' := by
 have hu25 := Tryz.underlying25
 have HB := zq (Below.refl w.heap.size w)
 have H := h
 unfold qCE.f at H
 clear h
 replace H := zi H
 obtain ⟨t443, A10, H⟩ := H
 have A1 := zq A10
 clear A10
 replace H := zi H
 obtain ⟨⟨t446, t447⟩, A20, H⟩ := H
 dsimp only at H
 have A2 := zq A20
 clear A20
 obtain ⟨-, c3b0, c3b1, H⟩ | ⟨c3, c3b0, c3b1, H⟩ := y4 H
 rotate_left
 ·obtain rfl := zy H
  go_enter Tryz.func9, Tryz.ntmps9
  go_wp2_with (first | (refine qBY (some 4) Tryz.func31 #[.int .i64 5] ?_; (with_reducible refine (qDO.calls 5 t443 _ A1.out).mono ?_); rintro e w12 ⟨v444, rfl, ho0, hb⟩; refine ⟨_, rfl, ?_⟩; have HO445 := zq (Kd.N_lower (Kd.N_mono (ok' := fun k_ => True) ho0 (fun k_ hk_ => trivial)) (qAH zb)); replace HB := zB hb; (try clear hb hk); (try clear hb); (try clear ho0); obtain ⟨Ao13, co13, eo13⟩ := Kd.N_slice HO445.out; subst eo13) | (refine qBY (some 5) Tryz.func30 #[.slice Ao13 t443.length co13] ?_; (with_reducible refine (qB1.calls k _ _ t443 t446 t447 _ ?side1 ?side2 A2.out).mono ?_); (case side1 => repeat (first | exact (Kd.qG1 HO445.out).2.2 | refine sC ?_)); (case side2 => exact (Kd.qG1 HO445.out).2.1); rintro e w14 ⟨v448, rfl, ho0, hb⟩; refine ⟨_, rfl, ?_⟩; have HO449 := zq (Kd.qC3 ho0 (qAH zb)); replace HO445 := zq (Kd.N_elder' (by (with_reducible repeat (first | apply Kd.N_alloc | apply Kd.N_drewN | apply Kd.N_drew)); exact HO445.out) (Kd.qEV ho0) hb); replace HB := zB hb; (try clear hb hk); (try clear hb); (try clear ho0)))
  go_ret
  exact ⟨zf, zb⟩
 obtain ⟨y450, hy_⟩ : ∃ y_ : List (S25), y_ = (([(⟨(⟨#[108, 97, 119]⟩ : ByteArray), (⟨#[97]⟩ : ByteArray), 1, 1⟩ : S25)] : List (S25))) := ⟨_, rfl⟩
 replace H : ((qC0.f k t446 y450).bind fun t453 => (some t453)) = some r := zr
 have Ny450 := zq hy_
 clear hy_
 replace H := zi H
 obtain ⟨t453, A40, H⟩ := H
 have A4 := zq A40
 clear A40
 obtain rfl := zy H
 go_enter Tryz.func9, Tryz.ntmps9
 go_wp2_with (first | (refine qBY (some 4) Tryz.func31 #[.int .i64 5] ?_; (with_reducible refine (qDO.calls 5 t443 _ A1.out).mono ?_); rintro e w5 ⟨v444, rfl, ho0, hb⟩; refine ⟨_, rfl, ?_⟩; have HO445 := zq (Kd.N_lower (Kd.N_mono (ok' := fun k_ => True) ho0 (fun k_ hk_ => trivial)) (qAH zb)); replace HB := zB hb; (try clear hb hk); (try clear hb); (try clear ho0); obtain ⟨Ao6, co6, eo6⟩ := Kd.N_slice HO445.out; subst eo6) | (refine qBY (some 5) Tryz.func30 #[.slice Ao6 t443.length co6] ?_; (with_reducible refine (qB1.calls k _ _ t443 t446 t447 _ ?side1 ?side2 A2.out).mono ?_); (case side1 => repeat (first | exact (Kd.qG1 HO445.out).2.2 | refine sC ?_)); (case side2 => exact (Kd.qG1 HO445.out).2.1); rintro e w7 ⟨v448, rfl, ho0, hb⟩; refine ⟨_, rfl, ?_⟩; have HO449 := zq (Kd.qC3 ho0 (qAH zb)); replace HO445 := zq (Kd.N_elder' (by (with_reducible repeat (first | apply Kd.N_alloc | apply Kd.N_drewN | apply Kd.N_drew)); exact HO445.out) (Kd.qEV ho0) hb); replace HB := zB hb; (try clear hb hk); (try clear hb); (try clear ho0)) | ((with_reducible refine qAS (N := 13) rfl ?_); (try (refine qC1 (by rfl) ?_; dsimp only)); refine Kd.qFV k25 _ 25 ?hg (N := 13) ?hd (xs := ([(⟨(⟨#[108, 97, 119]⟩ : ByteArray), (⟨#[97]⟩ : ByteArray), 1, 1⟩ : S25)] : List (S25))) (inner := [.string (⟨#[108, 97, 119]⟩ : ByteArray), .string (⟨#[97]⟩ : ByteArray), .int .i64 1, .int .i64 1]) (ok := fun _ => True) (okp := fun _ => True) ?hr ?hp (fun _ hk => hk) trivial (Below.refl _ _) (Nat.le_refl _) (by simp) ?_; (case hd => rfl); (case hg => rfl); (case hr => first | (go_simp; done) | (go_simp; rfl)); (case hp => exact (Reps.c4 (show Kd.M k25 _ _ _ (⟨(⟨#[108, 97, 119]⟩ : ByteArray), (⟨#[97]⟩ : ByteArray), 1, 1⟩ : S25) [.string (⟨#[108, 97, 119]⟩ : ByteArray), .string (⟨#[97]⟩ : ByteArray), .int .i64 1, .int .i64 1] from (k25_mkM _ _ _ (⟨(⟨#[108, 97, 119]⟩ : ByteArray), (⟨#[97]⟩ : ByteArray), 1, 1⟩ : S25) )) (Reps.none _ _))); intro v451 w8 ho9 hb hg_ hnew_; clear hg_ hnew_; (first | rw [← Ny450.out] at ho9 | (simp only [Int.reduceToNat] at ho9; rw [← Ny450.out] at ho9)); have HO452 := zq (Kd.qC3 (Kd.R_new' ho9 (Kd.R_lt (by (with_reducible repeat refine sR ?_); exact HO449.out))) (qAH zb)); replace HO445 := zq (Kd.N_elder' (by (with_reducible repeat (first | apply Kd.N_alloc | apply Kd.N_drewN | apply Kd.N_drew)); exact HO445.out) (Kd.qEV ho9) hb); replace HO449 := zq (Kd.R_elder' (by (with_reducible repeat refine sR ?_); exact HO449.out) (Kd.qEV ho9) hb); replace HB := zB hb; clear hb ho9; obtain ⟨Ao10, co10, eo10⟩ := Kd.qBX HO449.out; subst eo10; obtain ⟨Ao11, co11, eo11⟩ := Kd.qBX HO452.out; subst eo11) | (go_at_call 32; (with_reducible refine (qC0.calls k _ _ t446 _ _ y450 t453 _ ?side1 ?side2 ?side3 ?side4 A4.out).mono ?_); (case side1 => repeat (first | exact (Kd.qAR HO449.out).2.2 | refine sC ?_)); (case side2 => exact (Kd.qAR HO449.out).2.1); (case side3 => repeat (first | exact (Kd.qAR HO452.out).2.2 | refine sC ?_)); (case side4 => exact (Kd.qAR HO452.out).2.1); rintro e w' ⟨rfl, ⟨nd, rfl⟩⟩))
 go_ret
 exact ⟨zf, zb⟩
end
end Go.Proofs.YtfnejdbjekkadaaGreat.PRatePuts
end
