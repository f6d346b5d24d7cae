/- A part of the proof of PopMakes: texts that were printed, words, walks. No condition. -/
import Derived.Test.YtpafpefealopoaaGreatC1
import Derived.Test.YtpafpefealopoaaGreatC2
import Derived.Test.YtpafpefealopoaaGreatC3
import Derived.Test.YtpafpefealopoaaGreatC6
import Derived.Test.YtpafpefealopoaaGreatC7
import Derived.Test.YtpafpefealopoaaGreatC8
import Derived.Laws.EntriesVeiled
import Derived.DeepKeys4
import Derived.MapViews
import Derived.Deep.RegionHeld3
import Derived.Maps.AppendAt
import Derived.WalkKit
import Derived.Laws.Strings
set_option linter.unusedVariables false
set_option linter.unusedSimpArgs false
section
namespace Go.Proofs.YtpafpefealopoaaGreat.PPopMakes
noncomputable section
open Go.RowKit Go.Proofs.YtpafpefealopoaaGreatW.PrintWords Go.Proofs.YtpafpefealopoaaGreatW.PrintLast Go.Proofs.YtpafpefealopoaaGreatW.PrintMore
set_option maxHeartbeats 8000000
set_option maxRecDepth 100000
theorem refs_app (W : World) (base : Nat) (v : Value) (R : List S114) (HO : W.ownsRow base 114 2 v R.length (R.flatMap qCA.enc)) (g0 : Nat) (x : S114) (hblk : W.heap[g0]? = some (.cells #[.string x.f0, .string x.f1] 114 (0, 0))) (hbase : base ≤ W.heap.size) (hl : (R.length + 1) * 32 ≤ 140737488355328) :
  ∃ v1 w1, (Builtin.append_ #[70, 70] 70 #[v, .slice (some ⟨g0, 0, none⟩) 1 1]).run Tryz.prog W = .ok v1 w1 ∧ w1.ownsRow base 114 2 v1 (R ++ [x]).length ((R ++ [x]).flatMap qCA.enc) ∧ W.grownBy w1 v.ownBlock ∧ (v1.ownBlock = v.ownBlock ∨ v1.ownBlock = some W.heap.size) := by
 obtain ⟨i0, hi, hz0, hz1, hz2⟩ := info_parts qCA.info
 obtain ⟨v1, w1, hr, h2, h3, _, h5⟩ := run_append_own_at (P := Tryz.prog) W base 70 70 114 i0 (.agg #[.string ⟨#[]⟩, .string ⟨#[]⟩]) 2 32 Tryz.underlying70 hi hz0 hz1 hz2 rfl (by decide) v R.length (R.flatMap qCA.enc) HO ⟨g0, 0, none⟩ 1 1 (qCA.enc x) rfl (World.news_of_block hblk)
  (fun q hq => by simp [qCA.enc] at hq; rcases hq with rfl | rfl <;> rfl) (by simp only [maxLen]; omega) hl hbase
 exact ⟨v1, w1, hr, by rw [List.flatMap_append, List.length_append]; simpa using h2, h3, h5⟩
def sliA : Value → Option (DataW Unit × List MemPlace)
 | .slice none n c => some (.agg [.lit (.int .i64 n), .lit (.int .i64 c)], [])
 | .slice (some ⟨p, o, none⟩) n c => some (.agg [.lit (.int .i64 n), .lit (.int .i64 c), .lit (.int .i64 p), .lit (.int .i64 o)], [])
 | .slice (some ⟨p, o, some q⟩) n c => some (.agg [.lit (.int .i64 n), .lit (.int .i64 c), .lit (.int .i64 p), .lit (.int .i64 o), .lit (.int .i64 q)], [])
 | _ => none
def encA (v : Value) : DataW Unit := ((sliA v).map (·.1)).getD .nil
theorem sliA_slice (A : Option Addr) (n c : Nat) : sliA (.slice A n c) = some (encA (.slice A n c), []) := by
 cases A with
 | none => rfl
 | some a => obtain ⟨p, o, q⟩ := a; cases q <;> rfl
theorem sliA_inj {A A' : Option Addr} {n n' c c' : Nat} (h : encA (.slice A n c) = encA (.slice A' n' c')) : Value.slice A n c = Value.slice A' n' c' := by
 cases A with
 | none =>
  cases A' with
  | none => simp [encA, sliA] at h; obtain ⟨h1, h2⟩ := h; rw [show n = n' from by omega, show c = c' from by omega]
  | some a => obtain ⟨p, o, q⟩ := a; cases q <;> simp [encA, sliA] at h
 | some a =>
  obtain ⟨p, o, q⟩ := a
  cases A' with
  | none => cases q <;> simp [encA, sliA] at h
  | some a' =>
   obtain ⟨p', o', q'⟩ := a'
   cases q <;> cases q' <;> simp [encA, sliA] at h
   ·obtain ⟨h1, h2, h3, h4⟩ := h; rw [show n = n' from by omega, show c = c' from by omega, show p = p' from by omega, show o = o' from by omega]
   ·rename_i q1 q2; obtain ⟨h1, h2, h3, h4, h5⟩ := h; rw [show n = n' from by omega, show c = c' from by omega, show p = p' from by omega, show o = o' from by omega, show q1 = q2 from by omega]
def lookO (O : List (S114 × List S114)) (r : S114) : List S114 := ((O.find? fun p => decide (p.1 = r)).map (·.2)).getD []
structure OM (w W : World) (b : Nat) (O : List (S114 × List S114)) : Prop where
 hb : w.heap.size ≤ b
 own : ∃ (V : S114 → Value) (n : Nat) (D : DataW Unit), n ≤ O.length ∧ W.ownsMap Tryz.prog 114 sliA b n D ∧ (∀ (r : S114) (zd : DataW Unit), (r.f0.size ≤ maxLen ∧ r.f1.size ≤ maxLen) → D.atKey (keyL r) zd = if r ∈ O.map (·.1) then encA (V r) else zd) ∧
  ∀ r, r ∈ O.map (·.1) → ∃ A c, V r = .slice A (lookO O r).length c ∧ (lookO O r).length ≤ c ∧ Kd.C k114 w A (lookO O r).length (lookO O r)
theorem OM.blk {w W : World} {b : Nat} {O : List (S114 × List S114)} (h : OM w W b O) : ∃ es c, W.heap[b]? = some (.map es c) := by
 obtain ⟨_, _, _, _, ⟨es, c, hb, _⟩, _⟩ := h.own
 exact ⟨es, c, hb⟩
theorem OM.at_ {w W W' : World} {b : Nat} {O : List (S114 × List S114)} (h : OM w W b O) (he : W'.heap[b]? = W.heap[b]?) : OM w W' b O := by
 obtain ⟨V, n, D, hn, ⟨es, cl, hb, F⟩, h2⟩ := h.own
 exact ⟨h.hb, V, n, D, hn, ⟨es, cl, he.trans hb, F⟩, h2⟩
theorem OM.made (w W : World) (h : w.heap.size ≤ W.heap.size) : OM w (W.alloc (.map #[] 0)) W.heap.size [] :=
 ⟨h, fun _ => .slice none 0 0, 0, _, Nat.le_refl _, World.ownsMap_made W _ _ _, fun r zd _ => rfl, fun r hr => by cases hr⟩
theorem OM.look {w W : World} {b : Nat} {O : List (S114 × List S114)} (h : OM w W b O) {r : S114} (hr : r.f0.size ≤ maxLen ∧ r.f1.size ≤ maxLen) :
  ∃ A c, (Instr.lookup 108 (.map (some b)) (.agg #[.string r.f0, .string r.f1]) false).run Tryz.prog W = .ok (.slice A (lookO O r).length c) W ∧ (lookO O r).length ≤ c ∧ Kd.C k114 w A (lookO O r).length (lookO O r) := by
 obtain ⟨V, n, D, hn, own, at_, rows⟩ := h.own
 obtain ⟨v, ps, hrun, hR⟩ := own.lookup keyed58 Tryz.underlying108 (z := .slice none 0 0) (Tryz.zeroValue70 W) (zd := encA (.slice none 0 0)) (zp := []) rfl (key58 r hr)
 rw [at_ r _ hr] at hR
 have inv : ∀ {u : Value} {A : Option Addr} {n c : Nat} {qs : List MemPlace}, sliA u = some (encA (.slice A n c), qs) → u = .slice A n c := fun {u A n c qs} hu => by
  cases u with
  | slice A' n' c' =>
   rw [sliA_slice] at hu
   exact sliA_inj (Prod.mk.inj (Option.some.inj hu)).1
  | _ => simp [sliA] at hu
 by_cases e : r ∈ O.map (·.1)
 ·rw [if_pos e] at hR
  obtain ⟨A, c, hV, hc, hC⟩ := rows r e
  rw [hV] at hR
  exact ⟨A, c, by rw [hrun, inv hR], hc, hC⟩
 ·rw [if_neg e] at hR
  have hl : lookO O r = [] := by
   unfold lookO
   rw [List.find?_eq_none.2 (fun p hp => by simp only [decide_eq_true_eq]; exact fun e' => e (List.mem_map.2 ⟨p, hp, e'⟩))]
   rfl
  rw [hl]
  exact ⟨none, 0, by rw [hrun, inv hR]; rfl, Nat.le_refl _, ⟨rfl, by simp, fun hp => absurd hp (by simp)⟩⟩
theorem OM.put {w W : World} {b : Nat} {O : List (S114 × List S114)} (h : OM w W b O) (hl : O.length < maxLen) {r : S114} (hr : r.f0.size ≤ maxLen ∧ r.f1.size ≤ maxLen) {l : List S114} {A : Option Addr} {c : Nat} (hc : l.length ≤ c) (hC : Kd.C k114 w A l.length l) :
  ∃ W2, (Instr.mapUpdate 108 (.map (some b)) (.agg #[.string r.f0, .string r.f1]) (.slice A l.length c)).run Tryz.prog W = .ok () W2 ∧ OM w W2 b ((r, l) :: O) ∧ W.grownBy W2 (some b) := by
 obtain ⟨V, n, D, hn, own, at_, rows⟩ := h.own
 obtain ⟨W2, hrun, ho, hg⟩ := own.update keyed58 Tryz.underlying108 (Nat.lt_of_le_of_lt hn hl) (key58 r hr) (val := .slice A l.length c) (d := encA (.slice A l.length c)) (ps := []) (sliA_slice A l.length c)
 have hlk : ∀ x, lookO ((r, l) :: O) x = if r = x then l else lookO O x := fun x => by
  unfold lookO
  rw [List.find?_cons]
  by_cases e : r = x <;> simp [e]
 refine ⟨W2, hrun, ⟨h.hb, fun x => if x = r then .slice A l.length c else V x, n + 1, _, by simp; omega, ho, fun x zd hx => ?_, fun x hx => ?_⟩, hg⟩
 ·by_cases e : x = r
  ·subst e
   rw [Maps.atKey_put_same own.isMap (keyed58.key (key58 x hx))]
   simp
  ·have hm : x ∈ ((r, l) :: O).map (·.1) ↔ x ∈ O.map (·.1) := by rw [List.map_cons, List.mem_cons]; simp [e]
   rw [Maps.atKey_put_other (fun e' => e (key58_inj hx hr e')), at_ x zd hx]
   simp only [hm, if_neg e]
 ·rw [hlk]
  by_cases e : x = r
  ·subst e
   rw [if_pos rfl]
   exact ⟨A, c, if_pos rfl, hc, hC⟩
  ·rw [if_neg (fun e' => e e'.symm)]
   obtain ⟨A1, c1, h1, h2, h3⟩ := rows x (by rw [List.map_cons, List.mem_cons] at hx; exact hx.resolve_left e)
   exact ⟨A1, c1, (if_neg e).trans h1, h2, h3⟩
theorem next1 {w W : World} {b bO : Nat} {O : List (S114 × List S114)} (h : OM w W b O) (hbox : W.cell? ⟨bO, 0, none⟩ = some (.map (some b))) (hw : Below w.heap.size w W) {r : S114} (hr : r.f0.size ≤ maxLen ∧ r.f1.size ≤ maxLen) :
  Calls Tryz.prog 53 #[.agg #[.string r.f0, .string r.f1], .pointer (some ⟨bO, 0, none⟩)] W fun e W' => ∃ A c, e = .returned (.slice A (lookO O r).length c) ∧ (lookO O r).length ≤ c ∧ Kd.C k114 W' A (lookO O r).length (lookO O r) ∧ Below W.heap.size W W' := by
 have hB : Below W.heap.size W (W.alloc (.cells #[.string r.f0, .string r.f1] 114)) := qAC (Below.refl _ _) _
 obtain ⟨es, cl, hblk⟩ := h.blk
 obtain ⟨A, c, hrun, hc, hC⟩ := (h.at_ (W' := W.alloc (.cells #[.string r.f0, .string r.f1] 114)) (hB.block b (Gen.qC3 hblk))).look hr
 have hbox' := qCO hB hbox
 have HC := qA0.mk (And.intro hc (Kd.qAE hC (qBZ hw hB)))
 have HB := qA0.mk hB
 clear hC hc hB hw hblk h
 go_enter Tryz.func53, Tryz.ntmps53
 go_wp2_with fail
 go_ret
 exact ⟨A, c, rfl, HC.out.1, HC.out.2, HB.out⟩
theorem next2 {w0 W : World} {b bL : Nat} {P : List (ByteArray × List ByteArray)} {g : ByteArray → Value} (h : LM w0 W b P g) (hbox : W.cell? ⟨bL, 0, none⟩ = some (.map (some b))) {s : ByteArray} (hs : s.size ≤ maxLen) :
  Calls Tryz.prog 56 #[.string s, .pointer (some ⟨bL, 0, none⟩)] W fun e W' => ∃ A c, e = .returned (.slice A (qEL P s).length c) ∧ (qEL P s).length ≤ c ∧ Kd.C Kd.string W' A (qEL P s).length (qEL P s) ∧ Below W.heap.size W W' := by
 have hl := h.look hs
 obtain ⟨A, c, e, hc, hC⟩ := Kd.R_reads (Kd.R_of_own (h1 := fun _ => rfl) (h.rows s) (ok := fun _ => True) (fun _ _ => trivial))
 rw [e] at hl
 have HC := qA0.mk (And.intro hc hC)
 clear e hC hc h
 go_enter Tryz.func56, Tryz.ntmps56
 go_wp2_with fail
 go_ret
 exact ⟨A, c, rfl, HC.out.1, HC.out.2, Below.refl _ _⟩
def articleF (b : List S76) (x : S72) : Option Int := Gen.lim fun k => qBI.f k b x.f0 x.f1 x.f2 x.f3 x.f4 x.f5
def overF (b : List S76) (an : ByteArray) (x : S72) : Option Int := Gen.lim fun k => qBJ.f k b an x.f0 x.f0 x.f1 x.f2 x.f3 x.f4 x.f5
def limitsF (b : List S76) : Option Int := Gen.lim fun k => qBM.f k b
abbrev Refs := List S114
abbrev qFG := List (S114 × List S114)
def chk_in (b : List S76) (an : ByteArray) : List S72 → List ByteArray → Refs → qFG → Option (Int × Refs × qFG)
 | [], _, R, O => some (0, R, O)
 | x :: r, L, R, O => if L.length < 1000000 ∧ R.length < 1000000 ∧ O.length < 1000000 ∧ an.size ≤ maxLen ∧ x.f0.size ≤ maxLen then (if addR L x.f0 ≠ 0 then some (addR L x.f0, R, O) else (articleF b x).bind fun e => if e ≠ 0 then some (e, R, O) else chk_in b an r (x.f0 :: L) (R ++ [⟨an, x.f0⟩]) ((⟨an, x.f0⟩, x.f4) :: O)) else none
def qEE (b : List S76) : List S76 → Refs → qFG → Option (Int × Refs × qFG)
 | [], R, O => some (0, R, O)
 | a :: r, R, O => (chk_in b a.f0 a.f5 [] R O).bind fun p => if p.1 ≠ 0 then some p else qEE b r p.2.1 p.2.2
def qEN (b : List S76) (an : ByteArray) : List S72 → Option Int
 | [] => some 0
 | x :: r => (overF b an x).bind fun e => if e ≠ 0 then some e else qEN b an r
def qDO (b : List S76) : List S76 → Option Int
 | [] => some 0
 | a :: r => (qEN b a.f0 a.f5).bind fun e => if e ≠ 0 then some e else qDO b r
def allRefs (R : Refs) (O : qFG) : List S114 := R ++ O.flatMap fun p => p.2
def qET (P : List (ByteArray × List ByteArray)) : List ByteArray := P.flatMap fun p => p.1 :: p.2
open Classical in
def chk_last (P : List (ByteArray × List ByteArray)) : Option Int := if (∀ s, s ∈ qET P → s.size ≤ maxLen) ∧ 2 * (qET P).length < maxLen ∧ P.length < 1000000 then (if ∃ s, s ∈ P.map (·.1) ∧ Dfs.Cyc (qEL P) s then some 10 else some 0) else none
open Classical in
def chk_end (b : List S76) (R : Refs) (O : qFG) : Option Int := if (∀ x, x ∈ allRefs R O → x.f0.size ≤ maxLen ∧ x.f1.size ≤ maxLen) ∧ 2 * (allRefs R O).length < maxLen then (if ∃ x, x ∈ R ∧ Dfs.Cyc (lookO O) x then some 10 else (qCM.f b).bind chk_last) else none
def chk_k2 (b : List S76) (R : Refs) (O : qFG) (e : Int) : Option Int := if e ≠ 0 then some e else chk_end b R O
def chk_k1 (b : List S76) (p : Int × Refs × qFG) : Option Int := if p.1 ≠ 0 then some p.1 else (qDO b b).bind (chk_k2 b p.2.1 p.2.2)
def qCJ.f (l0 : List S76) : Option Int := (limitsF l0).bind fun e => if e ≠ 0 then some e else (qBL.f l0).bind fun e => if e ≠ 0 then some e else (qEE l0 l0 [] []).bind (chk_k1 l0)
theorem lookO_mem {O : qFG} {x y : S114} (h : y ∈ lookO O x) : y ∈ O.flatMap fun p => p.2 := by
 unfold lookO at h
 cases hf : O.find? (fun p => decide (p.1 = x)) with
 | none => rw [hf] at h; simp at h
 | some p => rw [hf] at h; exact List.mem_flatMap.2 ⟨p, List.mem_of_find?_eq_some hf, by simpa using h⟩
theorem lookN_mem {P : List (ByteArray × List ByteArray)} {x y : ByteArray} (h : y ∈ qEL P x) : y ∈ qET P := by
 obtain ⟨p, hp, hy⟩ := List.mem_flatMap.1 h
 exact List.mem_flatMap.2 ⟨p, (List.mem_filter.1 hp).1, List.mem_cons_of_mem _ hy⟩
structure CI (w W : World) (bm bO : Nat) (v : Value) (R : Refs) (O : qFG) : Prop where
 hB : Below w.heap.size w W
 om : OM w W bm O
 box : W.heap[bO]? = some (.cells #[.map (some bm)] 108 (0, 0))
 row : W.ownsRow w.heap.size 114 2 v R.length (R.flatMap qCA.enc)
theorem qEW {W : World} {base n : Nat} {v : Value} {xs : List Value} (h : W.ownsRow base 114 2 v n xs) {k : Nat} (hk : v.ownBlock = some k) : base ≤ k ∧ ∃ cells, W.heap[k]? = some (.cells cells 114 (0, 0)) := by
 rcases h.2 with ⟨rfl, _⟩ | ⟨g, cap, cur, rfl, hg, hb, _⟩
 ·simp [Value.ownBlock] at hk
 ·have : g = k := by simpa [Value.ownBlock] using hk
  subst this
  exact ⟨hg, cur, hb⟩
theorem CI.keep {w W W' : World} {bm bO : Nat} {v : Value} {R : Refs} {O : qFG} (h : CI w W bm bO v R O) (hB : Below W.heap.size W W') : CI w W' bm bO v R O := by
 obtain ⟨es, cl, hb⟩ := h.om.blk
 exact ⟨qBZ h.hB hB, h.om.at_ (hB.block bm (Gen.qC3 hb)), qAO h.box (qB9 hB none) (by simp), qED h.row (fun k hk => by obtain ⟨_, cells, hc⟩ := qEW h.row hk; exact hB.block k (Gen.qC3 hc))⟩
theorem CI.grown {w W W' : World} {bm bO bl : Nat} {v : Value} {R : Refs} {O : qFG} {L : List ByteArray} (h : CI w W bm bO v R O) (hn : Names W bl L) (hne : bl ≠ bm) (hl : w.heap.size ≤ bl) (hg : W.grownBy W' (some bl)) : CI w W' bm bO v R O := by
 obtain ⟨es, cl, hb⟩ := h.om.blk
 obtain ⟨n, D, _, ⟨es2, cl2, hb2, _⟩, _⟩ := hn.own
 refine ⟨qBY h.hB (some bl) h.hB.size hg (fun k e => by obtain rfl := Option.some.inj e; exact hl), h.om.at_ (hg.block bm (Gen.qC3 hb) (fun e => hne (Option.some.inj e).symm)), qAO h.box hg (fun e => ?_), qED h.row (fun k hk => ?_)⟩
 ·have := Option.some.inj e; subst this; have := hb2.symm.trans h.box; cases this
 ·obtain ⟨_, cells, hc⟩ := qEW h.row hk
  exact hg.block k (Gen.qC3 hc) (fun e => by have := Option.some.inj e; subst this; have := hb2.symm.trans hc; cases this)
theorem wp_app {ops : Array Oper} {rest : List Oper} {o : Oper} {a : Act} {Q : Exit → Act → World → Prop} {W w1 : World} {v1 : Value} (hgd : o.guard = none) (s x : Operand) (t : TypeId) (ho : o.op = .call { callee := .builtin .append, args := #[s, x], argTypes := #[t, t] }) (hty : o.type = t)
  (v u : Value) (hs : a.eval s = v) (hx : a.eval x = u) (hr : (Builtin.append_ #[t, t] t #[v, u]).run Tryz.prog W = .ok v1 w1) (h : wpList Tryz.prog ops Q rest (a.put o.dst v1) w1) : wpList Tryz.prog ops Q (o :: rest) a W := by
 refine wpList_plain hgd fun K hK => ?_
 unfold Oper.wp execOp
 simp only [ho, resolve, invoke, builtin, Sem.run_bind, Sem.run_pure, Result.andThen_ok, List.map_toArray, List.map_cons, List.map_nil, hs, hx, hty, hr]
 exact hK _ _ h
theorem key9_inv {key : Value} {kl : Lit} (h : keyOf Tryz.prog 9 key = some kl) : ∃ s : ByteArray, key = .string s ∧ kl = .string s.data.toList ∧ s.size ≤ maxLen := by
 cases key <;> simp [keyOf, Tryz.underlying9, mapKey] at h
 exact ⟨_, rfl, h.2.symm, h.1⟩
theorem qCJ.calls (A0 : Option Addr) (c0 : Nat) (l0 : List (S76)) (r : Int) (w : World) (hr0 : Kd.C k76 w A0 l0.length l0) (hc0 : l0.length ≤ c0) (h : qCJ.f l0 = some r) :
  Calls Tryz.prog 21 #[.slice A0 l0.length c0] w fun e w' => e = .returned (.int .i64 r) ∧ Below w.heap.size w w' := by
 have HR := qA0.mk hr0
 have HC := qA0.mk hc0
 have hm : l0.length ≤ 9223372036854775807 := Kd.C_max hr0
 obtain ⟨e1, h1, h⟩ := Option.bind_eq_some_iff.mp h
 obtain ⟨k1, h1⟩ := Gen.lim_some h1
 have H1 := qA0.mk h1
 have H2 := qA0.mk h
 clear hr0 hc0 h1 h
 have hmm := @run_makeMap Tryz.prog
 go_enter Tryz.func21, Tryz.ntmps21
 go_wp2_with fail
 refine (qBM.calls k1 A0 c0 l0 e1 w HR.out HC.out H1.out).mono ?_
 rintro e W1 ⟨rfl, hb1⟩
 by_cases c1 : e1 = 0
 case neg =>
  have hr : r = e1 := by have := H2.out; rw [if_pos c1] at this; exact (Option.some.inj this).symm
  subst hr
  have HB := qA0.mk hb1
  have c1b : (r != 0) = true := bne_iff_ne.mpr c1
  clear c1 hb1
  go_wp2_with fail
  go_ret
  exact ⟨rfl, HB.out⟩
 subst c1
 obtain ⟨e2, h3, h4⟩ := Option.bind_eq_some_iff.mp (by have := H2.out; rwa [if_neg (by simp)] at this)
 have H3 := qA0.mk h3
 have H4 := qA0.mk h4
 have HB1 := qA0.mk hb1
 clear h3 h4 hb1 H2
 go_wp2_with fail
 refine (qBL.calls A0 c0 l0 e2 W1 (Kd.qAE HR.out HB1.out) HC.out H3.out).mono ?_
 rintro e W2 ⟨rfl, hb2⟩
 have HB2 := qA0.mk (qBZ HB1.out hb2)
 clear hb2
 by_cases c2 : e2 = 0
 case neg =>
  have hr : r = e2 := by have := H4.out; rw [if_pos c2] at this; exact (Option.some.inj this).symm
  subst hr
  have c2b : (r != 0) = true := bne_iff_ne.mpr c2
  clear c2
  go_wp2_with fail
  go_ret
  exact ⟨rfl, HB2.out⟩
 subst c2
 have H5 := qA0.mk (by have := H4.out; rwa [if_neg (by simp)] at this)
 clear H4 HB1
 generalize hW3 : (W2.alloc (.map #[] 0)).alloc (.cells #[.map (some W2.heap.size)] 108) = W3
 have hc3 : CI w W3 W2.heap.size (W2.heap.size + 1) (.slice none 0 0) [] [] := by
  rw [← hW3]
  have o1 := (OM.made w W2 HB2.out.size)
  have bb := qAC (Below.refl (W2.alloc (.map #[] 0)).heap.size (W2.alloc (.map #[] 0))) (.cells #[.map (some W2.heap.size)] 108)
  refine ⟨qAC (qAC HB2.out _) _, o1.at_ (bb.block _ (by simp)), ?_, own_nil _ _ _ _⟩
  have h := heap_alloc_new (W2.alloc (.map #[] 0)) (.cells #[.map (some W2.heap.size)] 108)
  rwa [show (W2.alloc (.map #[] 0)).heap.size = W2.heap.size + 1 from by simp] at h
 have HW3 := qA0.mk hW3
 have HCI := qA0.mk hc3
 have hw2 : w.heap.size ≤ W2.heap.size := HB2.out.size
 clear hW3 hc3
 go_wp2_with fail
 rw [HW3.out]
 clear HW3
 go_loopw [6, 36] (fun v6 v36 wr => ∃ (i : Nat) (R : Refs) (O : qFG), i ≤ l0.length ∧ v36 = .int .i64 (i : Int) ∧ qA0 ((qEE l0 (l0.drop i) R O).bind (chk_k1 l0) = some r) ∧ qA0 (CI w wr W2.heap.size (W2.heap.size + 1) v6 R O)) (fun _ v36 _ => l0.length - (RowKit.intOf v36).toNat)
 case atStart => exact ⟨0, [], [], by omega, rfl, ⟨by simpa using H5.out⟩, HCI⟩
 clear H5 HCI
 obtain ⟨i, R, O, hi, rfl, HG, HCI⟩ := hrel
 by_cases hlt : i < l0.length
 ·obtain ⟨ad, A3, c3, A4, c4, A5, c5, e0, hx0, hx1, hx2, hx3, hx4, hx5, hl3, hi3, hl4, hi4, hl5, hi5⟩ := at_T76 HR.out (i : Int) (by omega) (by omega)
  cases e0
  simp only [Int.toNat_natCast] at hx0 hx1 hx2 hx3 hx4 hx5
  have hB := HCI.out.hB
  replace hx0 := (hB.cell (World.block_lt_of_cell? w _ hx0)).trans hx0
  replace hx1 := (hB.cell (World.block_lt_of_cell? w _ hx1)).trans hx1
  replace hx2 := (hB.cell (World.block_lt_of_cell? w _ hx2)).trans hx2
  replace hx3 := (hB.cell (World.block_lt_of_cell? w _ hx3)).trans hx3
  replace hx4 := (hB.cell (World.block_lt_of_cell? w _ hx4)).trans hx4
  replace hx5 := (hB.cell (World.block_lt_of_cell? w _ hx5)).trans hx5
  have hd : l0.drop i = qAB l0 (i : Int) :: l0.drop (i + 1) := by rw [List.drop_eq_getElem_cons hlt]; simp [qAB, hlt]
  have hG := HG.out
  rw [hd] at hG
  generalize qAB l0 (i : Int) = a at *
  simp only [qEE] at hG
  have HG1 := qA0.mk hG
  have HI5 := qA0.mk (And.intro hl5 hi5)
  have hm5 := Kd.C_max hi5
  have HS := qA0.mk (Gen.qEC hlt hm)
  clear hG HG hd hl3 hi3 hl4 hi4 hl5 hi5 hB
  obtain ⟨wo, rfl⟩ : ∃ wo : World, wo = wr := ⟨_, rfl⟩
  generalize hWa : (wo.alloc (.cells #[.string a.f0, .int .i64 a.f1, .int .i64 a.f2, .slice A3 a.f3.length c3, .slice A4 a.f4.length c4, .slice A5 a.f5.length c5] 76)).alloc (.map #[] 0) = Wa
  have hb' : Below wo.heap.size wo (wo.alloc (.cells #[.string a.f0, .int .i64 a.f1, .int .i64 a.f2, .slice A3 a.f3.length c3, .slice A4 a.f4.length c4, .slice A5 a.f5.length c5] 76)) := qAC (Below.refl _ _) _
  have hb'' := qAC (Below.refl (wo.alloc (.cells #[.string a.f0, .int .i64 a.f1, .int .i64 a.f2, .slice A3 a.f3.length c3, .slice A4 a.f4.length c4, .slice A5 a.f5.length c5] 76)).heap.size (wo.alloc (.cells #[.string a.f0, .int .i64 a.f1, .int .i64 a.f2, .slice A3 a.f3.length c3, .slice A4 a.f4.length c4, .slice A5 a.f5.length c5] 76))) (.map #[] 0)
  have hBa : Below wo.heap.size wo Wa := by rw [← hWa]; exact qBZ hb' hb''
  have hKa : Wa.heap[wo.heap.size]? = some (.cells #[.string a.f0, .int .i64 a.f1, .int .i64 a.f2, .slice A3 a.f3.length c3, .slice A4 a.f4.length c4, .slice A5 a.f5.length c5] 76 (0, 0)) := by rw [← hWa]; exact qAO (heap_alloc_new _ _) (qB9 hb'' none) (by simp)
  have hNa : Names Wa (wo.heap.size + 1) [] := by
   have h := Names.made (wo.alloc (.cells #[.string a.f0, .int .i64 a.f1, .int .i64 a.f2, .slice A3 a.f3.length c3, .slice A4 a.f4.length c4, .slice A5 a.f5.length c5] 76))
   rw [← hWa]
   rwa [show (wo.alloc (.cells #[.string a.f0, .int .i64 a.f1, .int .i64 a.f2, .slice A3 a.f3.length c3, .slice A4 a.f4.length c4, .slice A5 a.f5.length c5] 76)).heap.size = wo.heap.size + 1 from by simp] at h
  have hza : wo.heap.size + 1 < Wa.heap.size := hNa.lt
  have hwo : W2.heap.size + 1 < wo.heap.size := Gen.qC3 HCI.out.box
  have HWa := qA0.mk hWa
  have HCa := qA0.mk (HCI.out.keep hBa)
  have HKa := qA0.mk hKa
  have HNa := qA0.mk hNa
  have hk5 : Wa.cell? ⟨wo.heap.size, 5, none⟩ = some (.slice A5 a.f5.length c5) := (qA1 hKa 5).trans rfl
  clear hWa hb' hb'' hBa hKa hNa HCI
  go_wp2_with fail
  rw [HWa.out]
  clear HWa hx0 hx1 hx2 hx3 hx4 hx5 hk5
  go_loopw [6, 44] (fun v6 v44 wx => ∃ (j : Nat) (L : List ByteArray) (R' : Refs) (O' : qFG), j ≤ a.f5.length ∧ v44 = .int .i64 (j : Int) ∧ qA0 (∃ p, chk_in l0 a.f0 (a.f5.drop j) L R' O' = some p ∧ (if p.1 ≠ 0 then some p else qEE l0 (l0.drop (i + 1)) p.2.1 p.2.2).bind (chk_k1 l0) = some r) ∧ qA0 (CI w wx W2.heap.size (W2.heap.size + 1) v6 R' O') ∧ qA0 (Names wx (wo.heap.size + 1) L) ∧ qA0 (wx.heap[wo.heap.size]? = some (.cells #[.string a.f0, .int .i64 a.f1, .int .i64 a.f2, .slice A3 a.f3.length c3, .slice A4 a.f4.length c4, .slice A5 a.f5.length c5] 76 (0, 0)))) (fun _ v44 _ => a.f5.length - (RowKit.intOf v44).toNat)
  case atStart =>
   obtain ⟨q, hq, hK⟩ := zi HG1.out
   obtain ⟨p, hp, hF⟩ := Option.bind_eq_some_iff.mp hq
   exact ⟨0, [], R, O, by omega, rfl, ⟨⟨p, by simpa using hp, Option.bind_eq_some_iff.mpr ⟨q, hF, hK⟩⟩⟩, HCa, HNa, HKa⟩
  clear HG1 HCa HNa HKa
  obtain ⟨j, L, R', O', hj, rfl, HG2, HC2, HN2, HK2⟩ := hrel
  by_cases hjl : j < a.f5.length
  rotate_left
  ·obtain rfl : j = a.f5.length := by omega
   obtain ⟨p, hp, hK⟩ := HG2.out
   rw [List.drop_length] at hp
   simp only [chk_in] at hp
   obtain rfl := Option.some.inj hp
   have HG3 := qA0.mk (by simpa using hK : (qEE l0 (l0.drop (i + 1)) R' O').bind (chk_k1 l0) = some r)
   have hs := HS.out
   clear HG2 hp hK hj
   go_wp2_with fail
   go_roundw
   case rel => exact ⟨i + 1, R', O', by omega, by first | rfl | (simp; done) | rw [Int.natCast_add]; rfl, HG3, HC2⟩
   case measure => simp [RowKit.intOf]; omega
  obtain ⟨ad5, B2, d2, B3, d3, B4, d4, e5, y0, y1, y2, y3, y4, y5, hl2, hi2, hl3, hi3, hl4, hi4⟩ := at_T72 HI5.out.2 (j : Int) (by omega) (by omega)
  cases e5
  simp only [Int.toNat_natCast] at y0 y1 y2 y3 y4 y5
  have hB := HC2.out.hB
  replace y0 := (hB.cell (World.block_lt_of_cell? w _ y0)).trans y0
  replace y1 := (hB.cell (World.block_lt_of_cell? w _ y1)).trans y1
  replace y2 := (hB.cell (World.block_lt_of_cell? w _ y2)).trans y2
  replace y3 := (hB.cell (World.block_lt_of_cell? w _ y3)).trans y3
  replace y4 := (hB.cell (World.block_lt_of_cell? w _ y4)).trans y4
  replace y5 := (hB.cell (World.block_lt_of_cell? w _ y5)).trans y5
  have hd : a.f5.drop j = qCE a.f5 (j : Int) :: a.f5.drop (j + 1) := by rw [List.drop_eq_getElem_cons hjl]; simp [qCE, hjl]
  obtain ⟨p, hp, hK⟩ := HG2.out
  rw [hd] at hp
  generalize qCE a.f5 (j : Int) = x at hp y0 y1 y2 y3 y4 y5 hl2 hi2 hl3 hi3 hl4 hi4
  simp only [chk_in] at hp
  by_cases hg : L.length < 1000000 ∧ R'.length < 1000000 ∧ O'.length < 1000000 ∧ a.f0.size ≤ maxLen ∧ x.f0.size ≤ maxLen
  case neg => rw [if_neg hg] at hp; cases hp
  rw [if_pos hg] at hp
  obtain ⟨g1, g2, g3, g4, g5⟩ := hg
  have HP := qA0.mk hp
  have HK := qA0.mk hK
  have HI2 := qA0.mk (And.intro hl2 hi2)
  have HI3 := qA0.mk (And.intro hl3 hi3)
  have HI4 := qA0.mk (And.intro hl4 hi4)
  have HS2 := qA0.mk (Gen.qEC hjl hm5)
  clear hp hK HG2 hd hB hl2 hi2 hl3 hi3 hl4 hi4
  obtain ⟨wi, rfl⟩ : ∃ wi : World, wi = wr := ⟨_, rfl⟩
  obtain ⟨v6, rfl⟩ : ∃ v6 : Value, v6 = u6 := ⟨_, rfl⟩
  generalize hW5 : wi.alloc (.cells #[.string x.f0, .string x.f1, .slice B2 x.f2.length d2, .slice B3 x.f3.length d3, .slice B4 x.f4.length d4, .int .i64 x.f5] 72) = W5
  have hB5 : Below wi.heap.size wi W5 := by rw [← hW5]; exact qAC (Below.refl _ _) _
  have hK5 : W5.heap[wi.heap.size]? = some (.cells #[.string x.f0, .string x.f1, .slice B2 x.f2.length d2, .slice B3 x.f3.length d3, .slice B4 x.f4.length d4, .int .i64 x.f5] 72 (0, 0)) := by rw [← hW5]; exact heap_alloc_new _ _
  have hwi : wo.heap.size + 1 < wi.heap.size := HN2.out.lt
  have hz5 : W5.heap.size = wi.heap.size + 1 := by rw [← hW5]; simp
  have HW5 := qA0.mk hW5
  have HC5 := qA0.mk (HC2.out.keep hB5)
  have HN5 := qA0.mk (HN2.out.below hB5)
  have HKa5 := qA0.mk (qAO HK2.out (qB9 hB5 none) (by simp))
  have HK5 := qA0.mk hK5
  clear hW5 hB5 hK5 HC2 HN2 HK2
  go_wp2_with fail
  rw [HW5.out]
  refine (names_add.walk (wo.heap.size + 1) L x.f0 W5 HN5.out (by simp only [maxLen]; omega)).mono ?_
  rintro e W6 ⟨rfl, hn, hg6⟩
  have HK6 := qA0.mk (qAO HK5.out hg6 (by simp; omega))
  have HKa6 := qA0.mk (qAO HKa5.out hg6 (by simp))
  have HC6 := qA0.mk (HC5.out.grown HN5.out (by omega) (by omega) hg6)
  have hz6 := hg6.size
  have HN6 := qA0.mk hn
  clear hn hg6 HK5 HKa5 HC5 HN5 HW5 y0 y1 y2 y3 y4 y5
  generalize addR L x.f0 = e3 at *
  by_cases c3 : e3 = 0
  case neg =>
   have hr : r = e3 := by
    have h := HP.out
    rw [if_pos c3] at h
    obtain rfl := Option.some.inj h
    have h := HK.out
    rw [if_pos (by simpa using c3), Option.bind_some] at h
    simp only [chk_k1] at h
    rw [if_pos (by simpa using c3)] at h
    exact (Option.some.inj h).symm
   subst hr
   have c3b : (r != 0) = true := bne_iff_ne.mpr c3
   clear c3
   go_wp2_with fail
   go_ret
   exact ⟨rfl, HC6.out.hB⟩
  subst c3
  rw [if_pos rfl] at HN6
  obtain ⟨e4, h6, h7⟩ := Option.bind_eq_some_iff.mp (by have := HP.out; rwa [if_neg (by simp)] at this)
  obtain ⟨k4, h6⟩ := Gen.lim_some h6
  have H6 := qA0.mk h6
  have H7 := qA0.mk h7
  clear h6 h7 HP
  have z0 := (qA1 HK6.out 0).trans rfl
  have z1 := (qA1 HK6.out 1).trans rfl
  have z2 := (qA1 HK6.out 2).trans rfl
  have z3 := (qA1 HK6.out 3).trans rfl
  have z4 := (qA1 HK6.out 4).trans rfl
  have z5 := (qA1 HK6.out 5).trans rfl
  go_wp2_with fail
  refine (qBI.calls k4 (some ad) c0 l0 x.f0 x.f1 B2 d2 x.f2 B3 d3 x.f3 B4 d4 x.f4 x.f5 e4 W6 (Kd.qAE HR.out HC6.out.hB) HC.out (Kd.qAE HI2.out.2 HC6.out.hB) HI2.out.1 (Kd.qAE HI3.out.2 HC6.out.hB) HI3.out.1 (Kd.qAE HI4.out.2 HC6.out.hB) HI4.out.1 H6.out).mono ?_
  rintro e W7 ⟨rfl, hb7⟩
  have HC7 := qA0.mk (HC6.out.keep hb7)
  have HN7 := qA0.mk (HN6.out.below hb7)
  have HK7 := qA0.mk (qAO HK6.out (qB9 hb7 none) (by simp))
  have HKa7 := qA0.mk (qAO HKa6.out (qB9 hb7 none) (by simp))
  have hz7 := hb7.size
  clear hb7 HC6 HN6 HK6 HKa6 z0 z1 z2 z3 z4 z5
  by_cases c4 : e4 = 0
  case neg =>
   have hr : r = e4 := by
    have h := H7.out
    rw [if_pos c4] at h
    obtain rfl := Option.some.inj h
    have h := HK.out
    rw [if_pos (by simpa using c4), Option.bind_some] at h
    simp only [chk_k1] at h
    rw [if_pos (by simpa using c4)] at h
    exact (Option.some.inj h).symm
   subst hr
   have c4b : (r != 0) = true := bne_iff_ne.mpr c4
   clear c4
   go_wp2_with fail
   go_ret
   exact ⟨rfl, HC7.out.hB⟩
  subst c4
  have HGn := qA0.mk (show ∃ p, chk_in l0 a.f0 (a.f5.drop (j + 1)) (x.f0 :: L) (R' ++ [⟨a.f0, x.f0⟩]) ((⟨a.f0, x.f0⟩, x.f4) :: O') = some p ∧ (if p.1 ≠ 0 then some p else qEE l0 (l0.drop (i + 1)) p.2.1 p.2.2).bind (chk_k1 l0) = some r from ⟨p, by have := H7.out; rwa [if_neg (by simp)] at this, HK.out⟩)
  clear H7 HK
  generalize hW8 : W7.alloc (.cells #[.string a.f0, .string x.f0] 114) = W8
  have hB8 : Below W7.heap.size W7 W8 := by rw [← hW8]; exact qAC (Below.refl _ _) _
  have hz8 : W8.heap.size = W7.heap.size + 1 := by rw [← hW8]; simp
  have kr8 : W8.heap[W7.heap.size]? = some (.cells #[.string a.f0, .string x.f0] 114 (0, 0)) := by rw [← hW8]; exact heap_alloc_new _ _
  have HC8 := (HC7.out.keep hB8)
  have HN8 := qA0.mk (HN7.out.below hB8)
  have kx8 := qAO HK7.out (qB9 hB8 none) (by simp)
  have ka8 := qAO HKa7.out (qB9 hB8 none) (by simp)
  have kb8 := HC8.box
  have HW8 := qA0.mk hW8
  have za := (qA1 HKa7.out 0).trans rfl
  have zx := (qA1 HK7.out 0).trans rfl
  have hv6 : ∀ k, v6.ownBlock = some k → k < W7.heap.size ∧ ∃ cells, W8.heap[k]? = some (.cells cells 114 (0, 0)) := fun k hk => by
   obtain ⟨_, cells, hc⟩ := qEW HC7.out.row hk
   exact ⟨Gen.qC3 hc, cells, (hB8.block k (Gen.qC3 hc)).trans hc⟩
  clear hW8 HC7 HN7
  obtain ⟨WD, hWD⟩ : ∃ WD, WD = W8.drew := ⟨_, rfl⟩
  have hDh : WD.heap = W8.heap := by rw [hWD]; rfl
  obtain ⟨WA, hWA⟩ : ∃ WA, WA = (W8.alloc (.cells #[.string a.f0, .string x.f0] 114)).drew := ⟨_, rfl⟩
  have hgA : W8.grownBy WA none := by rw [hWA]; exact (World.grownBy_alloc W8 _ none).trans (⟨rfl, rfl, rfl, Nat.le_refl _, fun _ _ _ => rfl⟩)
  have hzA : WA.heap.size = W8.heap.size + 1 := by rw [hWA]; simp
  have hAn : WA.heap[W8.heap.size]? = some (.cells #[.string a.f0, .string x.f0] 114 (0, 0)) := by rw [hWA]; exact heap_alloc_new W8 _
  have rowA : WA.ownsRow w.heap.size 114 2 v6 R'.length (R'.flatMap qCA.enc) := qED HC8.row (fun k hk => hgA.block k (by have := (hv6 k hk).1; omega) (by simp))
  obtain ⟨v1, W9, hr1, o1, gr1, bl1⟩ := refs_app WA w.heap.size v6 R' rowA W8.heap.size ⟨a.f0, x.f0⟩ hAn (by have := HC8.hB.size; omega) (by omega)
  have hz9 := gr1.size
  have far9 : ∀ k, k < W8.heap.size → some k ≠ v6.ownBlock → W9.heap[k]? = W8.heap[k]? := fun k hk h0 => (gr1.block k (by omega) h0).trans (hgA.block k hk (by simp))
  have neT : ∀ {k : Nat} {cs : Array Value} {t : TypeId}, W8.heap[k]? = some (.cells cs t (0, 0)) → t ≠ 114 → some k ≠ v6.ownBlock := fun hk ht e => by
   obtain ⟨_, cells, hc⟩ := hv6 _ e.symm
   have := hk.symm.trans hc
   simp only [Option.some.injEq, Obj.cells.injEq] at this
   exact ht this.2.1
  obtain ⟨es, cl, hbm⟩ := HC8.om.blk
  have hbmlt : W2.heap.size < W8.heap.size := Gen.qC3 hbm
  have neM : some W2.heap.size ≠ v6.ownBlock := fun e => by
   obtain ⟨_, cells, hc⟩ := hv6 _ e.symm
   rw [hbm] at hc; cases hc
  have neR : some W7.heap.size ≠ v6.ownBlock := fun e => by have := (hv6 _ e.symm).1; omega
  obtain ⟨W10, hup, hom10, gr2⟩ := (HC8.om.at_ (far9 _ hbmlt neM)).put (by simp only [maxLen]; omega) (r := ⟨a.f0, x.f0⟩) ⟨g4, g5⟩ HI4.out.1 HI4.out.2
  replace hup : (Instr.mapUpdate 108 (.map (some W2.heap.size)) (.agg #[.string a.f0, .string x.f0]) (.slice B4 x.f4.length d4)).run Tryz.prog W9 = .ok () W10 := hup
  have far10 : ∀ k, k < W8.heap.size → some k ≠ v6.ownBlock → k ≠ W2.heap.size → W10.heap[k]? = W8.heap[k]? := fun k hk h0 h1 => (gr2.block k (by omega) (fun e => h1 (Option.some.inj e))).trans (far9 k hk h0)
  have b10 : W10.heap[W2.heap.size + 1]? = some (.cells #[.map (some W2.heap.size)] 108 (0, 0)) := (far10 _ (Gen.qC3 kb8) (neT kb8 (by decide)) (by omega)).trans kb8
  have b9 := (far9 _ (Gen.qC3 kb8) (neT kb8 (by decide))).trans kb8
  have bA := qAO kb8 hgA (by simp)
  have x10 := (far10 _ (Gen.qC3 kx8) (neT kx8 (by decide)) (by omega)).trans kx8
  have x9 := (far9 _ (Gen.qC3 kx8) (neT kx8 (by decide))).trans kx8
  have xA := qAO kx8 hgA (by simp)
  have r10 := (far10 _ (Gen.qC3 kr8) neR (by omega)).trans kr8
  have r9 := (far9 _ (Gen.qC3 kr8) neR).trans kr8
  have rA := qAO kr8 hgA (by simp)
  have a10 := (far10 _ (Gen.qC3 ka8) (neT ka8 (by decide)) (by omega)).trans ka8
  have HKa10 := qA0.mk a10
  have HN10 : qA0 (Names W10 (wo.heap.size + 1) (x.f0 :: L)) := ⟨by
   obtain ⟨n, D, hn, ⟨es, cl, hb, F, hs, hD⟩, at_⟩ := HN8.out.own
   have h0 : some (wo.heap.size + 1) ≠ v6.ownBlock := fun e => by
    obtain ⟨_, cells, hc⟩ := hv6 _ e.symm
    rw [hb] at hc; cases hc
   exact ⟨n, D, hn, ⟨es, cl, (far10 _ (Gen.qC3 hb) h0 (by omega)).trans hb, F, hs, hD⟩, at_⟩⟩
  have HCI10 : qA0 (CI w W10 W2.heap.size (W2.heap.size + 1) v1 (R' ++ [⟨a.f0, x.f0⟩]) ((⟨a.f0, x.f0⟩, x.f4) :: O')) := ⟨by
   have s1 := qBY HC8.hB none HC8.hB.size hgA (fun k e => by cases e)
   have s2 := qBY s1 v6.ownBlock s1.size gr1 (fun k e => (qEW HC8.row e).1)
   have s3 := qBY s2 (some W2.heap.size) s2.size gr2 (fun k e => by obtain rfl := Option.some.inj e; exact hw2)
   refine ⟨s3, hom10, b10, qED o1 (fun k hk => ?_)⟩
   obtain ⟨_, cells, hc⟩ := qEW o1 hk
   refine gr2.block k (Gen.qC3 hc) (fun e => ?_)
   obtain rfl := Option.some.inj e
   rw [(far9 _ hbmlt neM).trans hbm] at hc
   cases hc⟩
  rw [hz8] at hr1
  have HR1 := qA0.mk hr1
  have sD : W8.drew.cell? ⟨W2.heap.size + 1, 0, none⟩ = some (.map (some W2.heap.size)) ∧ W8.drew.cell? ⟨W7.heap.size, 0, none⟩ = some (.string a.f0) ∧ W8.drew.cell? ⟨W7.heap.size, 1, none⟩ = some (.string x.f0) ∧ W8.drew.cell? ⟨wi.heap.size, 4, none⟩ = some (.slice B4 x.f4.length d4) := ⟨(qA1 (w := W8.drew) kb8 0).trans rfl, (qA1 (w := W8.drew) kr8 0).trans rfl, (qA1 (w := W8.drew) kr8 1).trans rfl, (qA1 (w := W8.drew) kx8 4).trans rfl⟩
  have sA : WA.cell? ⟨W2.heap.size + 1, 0, none⟩ = some (.map (some W2.heap.size)) ∧ WA.cell? ⟨W7.heap.size, 0, none⟩ = some (.string a.f0) ∧ WA.cell? ⟨W7.heap.size, 1, none⟩ = some (.string x.f0) ∧ WA.cell? ⟨wi.heap.size, 4, none⟩ = some (.slice B4 x.f4.length d4) := ⟨(qA1 bA 0).trans rfl, (qA1 rA 0).trans rfl, (qA1 rA 1).trans rfl, (qA1 xA 4).trans rfl⟩
  have s9 : W9.cell? ⟨W2.heap.size + 1, 0, none⟩ = some (.map (some W2.heap.size)) ∧ W9.cell? ⟨W7.heap.size, 0, none⟩ = some (.string a.f0) ∧ W9.cell? ⟨W7.heap.size, 1, none⟩ = some (.string x.f0) ∧ W9.cell? ⟨wi.heap.size, 4, none⟩ = some (.slice B4 x.f4.length d4) := ⟨(qA1 b9 0).trans rfl, (qA1 r9 0).trans rfl, (qA1 r9 1).trans rfl, (qA1 x9 4).trans rfl⟩
  have s10 : W10.cell? ⟨W2.heap.size + 1, 0, none⟩ = some (.map (some W2.heap.size)) ∧ W10.cell? ⟨W7.heap.size, 0, none⟩ = some (.string a.f0) ∧ W10.cell? ⟨W7.heap.size, 1, none⟩ = some (.string x.f0) ∧ W10.cell? ⟨wi.heap.size, 4, none⟩ = some (.slice B4 x.f4.length d4) := ⟨(qA1 b10 0).trans rfl, (qA1 r10 0).trans rfl, (qA1 r10 1).trans rfl, (qA1 x10 4).trans rfl⟩
  rw [hWA] at HR1 sA
  clear hr1 hWD hDh hgA hzA hAn rowA o1 gr1 bl1 hz9 far9 neT hbm neM neR hom10 gr2 far10 b10 b9 bA x10 x9 xA r10 r9 rA a10 hv6 kr8 kx8 ka8 kb8 HC8 hB8 HN8 hWA WD
  go_wp2_with fail
  rw [HW8.out]
  go_region_held3 (fun w' => w'.cell? ⟨W2.heap.size + 1, 0, none⟩ = some (.map (some W2.heap.size)) ∧ w'.cell? ⟨W7.heap.size, 0, none⟩ = some (.string a.f0) ∧ w'.cell? ⟨W7.heap.size, 1, none⟩ = some (.string x.f0) ∧ w'.cell? ⟨wi.heap.size, 4, none⟩ = some (.slice B4 x.f4.length d4))
   (first | (with_reducible exact sD) | (with_reducible exact sA) | (with_reducible exact s9) | (with_reducible exact s10) | go_keep)
   (first | (refine step_app rfl _ _ 70 rfl rfl v6 (.slice (some ⟨W7.heap.size + 1, 0, none⟩) 1 1) rfl rfl HR1.out ?_))
  have hs := HS2.out
  clear sD sA s9 s10 hup za zx
  go_wp2_with fail
  go_roundw
  case rel => exact ⟨j + 1, x.f0 :: L, R' ++ [⟨a.f0, x.f0⟩], (⟨a.f0, x.f0⟩, x.f4) :: O', by omega, by first | rfl | (simp; done) | rw [Int.natCast_add]; rfl, HGn, HCI10, HN10, HKa10⟩
  case measure => simp [RowKit.intOf]; omega
 obtain rfl : i = l0.length := by omega
 have HG1 := qA0.mk (by have := HG.out; rw [List.drop_length] at this; simpa [qEE, chk_k1] using this : (qDO l0 l0).bind (chk_k2 l0 R O) = some r)
 clear HG hi
 obtain ⟨v6, rfl⟩ : ∃ v6 : Value, v6 = u6 := ⟨_, rfl⟩
 go_wp2_with fail
 go_loopw [78] (fun v78 wx => ∃ (i : Nat), i ≤ l0.length ∧ v78 = .int .i64 (i : Int) ∧ qA0 ((qDO l0 (l0.drop i)).bind (chk_k2 l0 R O) = some r) ∧ qA0 (CI w wx W2.heap.size (W2.heap.size + 1) v6 R O)) (fun v78 _ => l0.length - (RowKit.intOf v78).toNat)
 case atStart => exact ⟨0, by omega, rfl, ⟨by simpa using HG1.out⟩, HCI⟩
 clear HG1 HCI
 obtain ⟨i, hi, rfl, HG, HCI⟩ := hrel
 by_cases hlt2 : i < l0.length
 ·obtain ⟨ad, A3, c3, A4, c4, A5, c5, e0, hx0, hx1, hx2, hx3, hx4, hx5, hl3, hi3, hl4, hi4, hl5, hi5⟩ := at_T76 HR.out (i : Int) (by omega) (by omega)
  cases e0
  simp only [Int.toNat_natCast] at hx0 hx1 hx2 hx3 hx4 hx5
  have hB := HCI.out.hB
  replace hx0 := (hB.cell (World.block_lt_of_cell? w _ hx0)).trans hx0
  replace hx1 := (hB.cell (World.block_lt_of_cell? w _ hx1)).trans hx1
  replace hx2 := (hB.cell (World.block_lt_of_cell? w _ hx2)).trans hx2
  replace hx3 := (hB.cell (World.block_lt_of_cell? w _ hx3)).trans hx3
  replace hx4 := (hB.cell (World.block_lt_of_cell? w _ hx4)).trans hx4
  replace hx5 := (hB.cell (World.block_lt_of_cell? w _ hx5)).trans hx5
  have hd : l0.drop i = qAB l0 (i : Int) :: l0.drop (i + 1) := by rw [List.drop_eq_getElem_cons hlt2]; simp [qAB, hlt2]
  have hG := HG.out
  rw [hd] at hG
  generalize qAB l0 (i : Int) = a at *
  simp only [qDO] at hG
  obtain ⟨q, hq, hK⟩ := Option.bind_eq_some_iff.mp hG
  obtain ⟨p, hp, hF⟩ := Option.bind_eq_some_iff.mp hq
  have HG1 := qA0.mk (show ∃ e, qEN l0 a.f0 (a.f5.drop 0) = some e ∧ (if e ≠ 0 then some e else qDO l0 (l0.drop (i + 1))).bind (chk_k2 l0 R O) = some r from ⟨p, by simpa using hp, Option.bind_eq_some_iff.mpr ⟨q, hF, hK⟩⟩)
  have HI5 := qA0.mk (And.intro hl5 hi5)
  have hm5 := Kd.C_max hi5
  have HS := qA0.mk (Gen.qEC hlt2 hm)
  clear hG HG hd hl3 hi3 hl4 hi4 hl5 hi5 hB hq hp hF hK
  obtain ⟨wo, rfl⟩ : ∃ wo : World, wo = wr := ⟨_, rfl⟩
  generalize hWa : wo.alloc (.cells #[.string a.f0, .int .i64 a.f1, .int .i64 a.f2, .slice A3 a.f3.length c3, .slice A4 a.f4.length c4, .slice A5 a.f5.length c5] 76) = Wa
  have hBa : Below wo.heap.size wo Wa := by rw [← hWa]; exact qAC (Below.refl _ _) _
  have hKa : Wa.heap[wo.heap.size]? = some (.cells #[.string a.f0, .int .i64 a.f1, .int .i64 a.f2, .slice A3 a.f3.length c3, .slice A4 a.f4.length c4, .slice A5 a.f5.length c5] 76 (0, 0)) := by rw [← hWa]; exact heap_alloc_new _ _
  have HWa := qA0.mk hWa
  have HCa := qA0.mk (HCI.out.keep hBa)
  have HKa := qA0.mk hKa
  have hk5 : Wa.cell? ⟨wo.heap.size, 5, none⟩ = some (.slice A5 a.f5.length c5) := (qA1 hKa 5).trans rfl
  clear hWa hBa hKa HCI
  go_wp2_with fail
  rw [HWa.out]
  clear HWa hx0 hx1 hx2 hx3 hx4 hx5 hk5
  go_loopw [85] (fun v85 wx => ∃ (j : Nat), j ≤ a.f5.length ∧ v85 = .int .i64 (j : Int) ∧ qA0 (∃ e, qEN l0 a.f0 (a.f5.drop j) = some e ∧ (if e ≠ 0 then some e else qDO l0 (l0.drop (i + 1))).bind (chk_k2 l0 R O) = some r) ∧ qA0 (CI w wx W2.heap.size (W2.heap.size + 1) v6 R O) ∧ qA0 (wx.heap[wo.heap.size]? = some (.cells #[.string a.f0, .int .i64 a.f1, .int .i64 a.f2, .slice A3 a.f3.length c3, .slice A4 a.f4.length c4, .slice A5 a.f5.length c5] 76 (0, 0)))) (fun v85 _ => a.f5.length - (RowKit.intOf v85).toNat)
  case atStart => exact ⟨0, by omega, rfl, HG1, HCa, HKa⟩
  clear HG1 HCa HKa
  obtain ⟨j, hj, rfl, HG2, HC2, HK2⟩ := hrel
  by_cases hjl : j < a.f5.length
  rotate_left
  ·obtain rfl : j = a.f5.length := by omega
   obtain ⟨p, hp, hK⟩ := HG2.out
   rw [List.drop_length] at hp
   simp only [qEN] at hp
   obtain rfl := Option.some.inj hp
   have HG3 := qA0.mk (by simpa using hK : (qDO l0 (l0.drop (i + 1))).bind (chk_k2 l0 R O) = some r)
   have hs := HS.out
   clear HG2 hp hK hj
   go_wp2_with fail
   go_roundw
   case rel => exact ⟨i + 1, by omega, by first | rfl | (simp; done) | rw [Int.natCast_add]; rfl, HG3, HC2⟩
   case measure => simp [RowKit.intOf]; omega
  obtain ⟨ad5, B2, d2, B3, d3, B4, d4, e5, y0, y1, y2, y3, y4, y5, hl2, hi2, hl3, hi3, hl4, hi4⟩ := at_T72 HI5.out.2 (j : Int) (by omega) (by omega)
  cases e5
  simp only [Int.toNat_natCast] at y0 y1 y2 y3 y4 y5
  have hB := HC2.out.hB
  replace y0 := (hB.cell (World.block_lt_of_cell? w _ y0)).trans y0
  replace y1 := (hB.cell (World.block_lt_of_cell? w _ y1)).trans y1
  replace y2 := (hB.cell (World.block_lt_of_cell? w _ y2)).trans y2
  replace y3 := (hB.cell (World.block_lt_of_cell? w _ y3)).trans y3
  replace y4 := (hB.cell (World.block_lt_of_cell? w _ y4)).trans y4
  replace y5 := (hB.cell (World.block_lt_of_cell? w _ y5)).trans y5
  have hd : a.f5.drop j = qCE a.f5 (j : Int) :: a.f5.drop (j + 1) := by rw [List.drop_eq_getElem_cons hjl]; simp [qCE, hjl]
  obtain ⟨p, hp, hK⟩ := HG2.out
  rw [hd] at hp
  generalize qCE a.f5 (j : Int) = x at hp y0 y1 y2 y3 y4 y5 hl2 hi2 hl3 hi3 hl4 hi4
  simp only [qEN] at hp
  obtain ⟨e6, h6, h7⟩ := Option.bind_eq_some_iff.mp hp
  obtain ⟨k6, h6⟩ := Gen.lim_some h6
  have H6 := qA0.mk h6
  have H7 := qA0.mk h7
  have HK := qA0.mk hK
  have HI2 := qA0.mk (And.intro hl2 hi2)
  have HI3 := qA0.mk (And.intro hl3 hi3)
  have HI4 := qA0.mk (And.intro hl4 hi4)
  have HS2 := qA0.mk (Gen.qEC hjl hm5)
  clear hp hK HG2 hd hB hl2 hi2 hl3 hi3 hl4 hi4 h6 h7
  obtain ⟨wi, rfl⟩ : ∃ wi : World, wi = wr := ⟨_, rfl⟩
  generalize hW5 : wi.alloc (.cells #[.string x.f0, .string x.f1, .slice B2 x.f2.length d2, .slice B3 x.f3.length d3, .slice B4 x.f4.length d4, .int .i64 x.f5] 72) = W5
  have hB5 : Below wi.heap.size wi W5 := by rw [← hW5]; exact qAC (Below.refl _ _) _
  have hK5 : W5.heap[wi.heap.size]? = some (.cells #[.string x.f0, .string x.f1, .slice B2 x.f2.length d2, .slice B3 x.f3.length d3, .slice B4 x.f4.length d4, .int .i64 x.f5] 72 (0, 0)) := by rw [← hW5]; exact heap_alloc_new _ _
  have HW5 := qA0.mk hW5
  have HC5 := qA0.mk (HC2.out.keep hB5)
  have hKa5 := qAO HK2.out (qB9 hB5 none) (by simp)
  have z0 := (qA1 hK5 0).trans rfl
  have z1 := (qA1 hK5 1).trans rfl
  have z2 := (qA1 hK5 2).trans rfl
  have z3 := (qA1 hK5 3).trans rfl
  have z4 := (qA1 hK5 4).trans rfl
  have z5 := (qA1 hK5 5).trans rfl
  have za : (wi.alloc (.cells #[.string x.f0, .string x.f1, .slice B2 x.f2.length d2, .slice B3 x.f3.length d3, .slice B4 x.f4.length d4, .int .i64 x.f5] 72)).cell? ⟨wo.heap.size, 0, none⟩ = some (.string a.f0) := by rw [hW5]; exact (qA1 hKa5 0).trans rfl
  have HKa5 := qA0.mk hKa5
  clear hW5 hB5 hK5 HC2 HK2 hKa5
  go_wp2_with fail
  rw [HW5.out]
  clear y0 y1 y2 y3 y4 y5
  refine (qBJ.calls k6 (some ad) c0 l0 a.f0 x.f0 x.f0 x.f1 B2 d2 x.f2 B3 d3 x.f3 B4 d4 x.f4 x.f5 e6 W5 (Kd.qAE HR.out HC5.out.hB) HC.out (Kd.qAE HI2.out.2 HC5.out.hB) HI2.out.1 (Kd.qAE HI3.out.2 HC5.out.hB) HI3.out.1 (Kd.qAE HI4.out.2 HC5.out.hB) HI4.out.1 H6.out).mono ?_
  rintro e W7 ⟨rfl, hb7⟩
  have HC7 := qA0.mk (HC5.out.keep hb7)
  have HKa7 := qA0.mk (qAO HKa5.out (qB9 hb7 none) (by simp))
  clear hb7 HC5 HKa5 z0 z1 z2 z3 z4 z5 za HW5
  by_cases c4 : e6 = 0
  case neg =>
   have hr : r = e6 := by
    have h := H7.out
    rw [if_pos c4] at h
    obtain rfl := Option.some.inj h
    have h := HK.out
    rw [if_pos c4, Option.bind_some] at h
    simp only [chk_k2] at h
    rw [if_pos c4] at h
    exact (Option.some.inj h).symm
   subst hr
   have c4b : (r != 0) = true := bne_iff_ne.mpr c4
   clear c4
   go_wp2_with fail
   go_ret
   exact ⟨rfl, HC7.out.hB⟩
  subst c4
  have HGn := qA0.mk (show ∃ e, qEN l0 a.f0 (a.f5.drop (j + 1)) = some e ∧ (if e ≠ 0 then some e else qDO l0 (l0.drop (i + 1))).bind (chk_k2 l0 R O) = some r from ⟨p, by have := H7.out; rwa [if_neg (by simp)] at this, HK.out⟩)
  clear H7 HK
  have hs := HS2.out
  go_wp2_with fail
  go_roundw
  case rel => exact ⟨j + 1, by omega, by first | rfl | (simp; done) | rw [Int.natCast_add]; rfl, HGn, HC7, HKa7⟩
  case measure => simp [RowKit.intOf]; omega
 obtain rfl : i = l0.length := by omega
 have HE := qA0.mk (by have := HG.out; rw [List.drop_length] at this; simpa [qDO, chk_k2] using this : chk_end l0 R O = some r)
 clear HG hi
 obtain ⟨wq, rfl⟩ : ∃ wq : World, wq = wr := ⟨_, rfl⟩
 have hE := HE.out
 unfold chk_end at hE
 by_cases g1 : (∀ x, x ∈ allRefs R O → x.f0.size ≤ maxLen ∧ x.f1.size ≤ maxLen) ∧ 2 * (allRefs R O).length < maxLen
 case neg => rw [if_neg g1] at hE; cases hE
 rw [if_pos g1] at hE
 have HE2 := qA0.mk hE
 obtain ⟨Ar, cr, hv6, hcr, hCr⟩ := Kd.R_reads (d := k114) (e := 114) (w := wq) (base := w.heap.size) (ok := fun _ => True) (v := v6) (xs := R) ⟨fun _ _ => trivial, _, HCI.out.row, Gen.flat_reps _ qCA.enc 2 (fun _ => rfl) R (fun p => k114_mkM _ _ _ p)⟩
 subst hv6
 have X : qD9.Ctx wq (lookO O) (allRefs R O) ⟨W2.heap.size + 1, 0, none⟩ := ⟨fun x y hy => List.mem_append.2 (.inr (lookO_mem hy)), g1.1, fun W hW x hx => by
  have k := HCI.out.keep hW
  exact next1 k.om ((qA1 k.box 0).trans rfl) k.hB (g1.1 x hx)⟩
 have hS0 := qD9.search Ar cr R wq (lookO O) (allRefs R O) ⟨W2.heap.size + 1, 0, none⟩ hCr hcr X (fun x hx => List.mem_append.2 (.inl hx)) g1.2
 obtain ⟨bb, hbb, hS1⟩ : ∃ bb : Bool, (bb = true ↔ ∃ x, x ∈ R ∧ Dfs.Cyc (lookO O) x) ∧ Calls Tryz.prog 52 #[.slice Ar (List.length R) cr, .func (.func 53) #[] #[.pointer (some ⟨W2.heap.size + 1, 0, none⟩)]] wq fun e w' => e = .returned (.bool bb) ∧ Below wq.heap.size wq w' := by
  refine ⟨_, ?_, hS0⟩
  open Classical in exact decide_eq_true_iff
 clear hS0
 have HS1 := qA0.mk hS1
 have HBB := qA0.mk hbb
 clear hE HE X hCr g1 hS1 hbb
 go_wp2_with fail
 refine HS1.out.mono ?_
 rintro e Wc ⟨rfl, hbc⟩
 have HCc := qA0.mk (HCI.out.keep hbc)
 clear hbc HCI HS1
 cases bb
 case true =>
  have q1 := HBB.out.1 rfl
  have hr : r = 10 := by have := HE2.out; rw [if_pos q1] at this; exact (Option.some.inj this).symm
  subst hr
  clear q1
  go_wp2_with fail
  go_ret
  exact ⟨rfl, HCc.out.hB⟩
 have q1 : ¬ ∃ x, x ∈ R ∧ Dfs.Cyc (lookO O) x := fun h => by have := HBB.out.2 h; cases this
 obtain ⟨P, hP, hL⟩ := Option.bind_eq_some_iff.mp (by have := HE2.out; rwa [if_neg q1] at this)
 have HPl := qA0.mk hP
 unfold chk_last at hL
 by_cases g2 : (∀ s, s ∈ qET P → s.size ≤ maxLen) ∧ 2 * (qET P).length < maxLen ∧ P.length < 1000000
 case neg => rw [if_neg g2] at hL; cases hL
 rw [if_pos g2] at hL
 have HL := qA0.mk hL
 have HG2 := qA0.mk g2
 clear q1 hP hL g2 HE2
 go_wp2_with fail
 refine (qCM.walk A0 c0 l0 P Wc (Kd.qAE HR.out HCc.out.hB) HC.out HPl.out).mono ?_
 rintro e Wl ⟨g, rfl, hlm⟩
 have HBw := qA0.mk (qBZ HCc.out.hB hlm.below)
 generalize hWq : Wl.alloc (.cells #[.map (some Wc.heap.size)] 118) = Wq
 have hBq : Below Wl.heap.size Wl Wq := by rw [← hWq]; exact qAC (Below.refl _ _) _
 have hxq : Wq.heap[Wl.heap.size]? = some (.cells #[.map (some Wc.heap.size)] 118 (0, 0)) := by rw [← hWq]; exact heap_alloc_new _ _
 have HLM := qA0.mk (hlm.keep hBq)
 have HWq := qA0.mk hWq
 have HXq := qA0.mk hxq
 have hzq : Wl.heap.size < Wq.heap.size := by rw [← hWq]; simp
 have hzc : Wc.heap.size < Wl.heap.size := by obtain ⟨_, _, hb⟩ := hlm.blk; exact Gen.qC3 hb
 have HBw2 := qA0.mk (qBZ HBw.out hBq)
 obtain ⟨nn, D, hnn, own, at_⟩ := HLM.out.own
 obtain ⟨W3, hrg3, hra, hgr3, hsz3⟩ := own.range keyed9 Tryz.underlying118
 have hB3 : Below Wq.heap.size Wq W3 := ⟨hgr3.os, hgr3.tape, hgr3.output, hgr3.size, fun k hk => hgr3.block k hk (by simp)⟩
 have hcnt : Maps.size D ≤ nn := own.size_le
 have hkx : Wq.cell? ⟨Wl.heap.size, 0, none⟩ = some (.map (some Wc.heap.size)) := (qA1 hxq 0).trans rfl
 have hzq' : Wq.heap.size = Wl.heap.size + 1 := by rw [← hWq]; simp
 replace hrg3 : (Instr.range 118 (.map (some Wc.heap.size))).run Tryz.prog (Wl.alloc (.cells #[.map (some Wc.heap.size)] 118)) = .ok (.pointer (some ⟨Wl.heap.size + 1, 0, none⟩)) W3 := by rw [hWq, ← hzq']; exact hrg3
 rw [hzq'] at hra
 have HT := qA0.mk (And.intro hra (And.intro hB3 (show Wl.heap.size + 1 + 1 ≤ W3.heap.size by omega)))
 have HAt := qA0.mk at_
 have HZQ := qA0.mk hzq'
 have HN1 := qA0.mk (show Maps.size D ≤ P.length from Nat.le_trans hcnt hnn)
 clear hWq hBq hlm hra hgr3 hxq own at_ hB3 HCc HPl hzq' hsz3 hcnt hnn hkx
 go_wp2_with fail
 clear hrg3 HWq
 go_loopw [21] (fun v21 wx => ∃ (left : Lit → Bool) (cnt : Nat) (done : List ByteArray), qA0 (wx.ranges Tryz.prog 9 sliR Wc.heap.size (Wl.heap.size + 1) nn D left cnt ∧ (∀ s : ByteArray, s.size ≤ maxLen → (left (.string s.data.toList) = true ↔ (s ∈ P.map (·.1) ∧ s ∉ done))) ∧ (∀ s ∈ done, s ∈ P.map (·.1)) ∧
  wx.ownsRow (Wl.heap.size + 1 + 1) 9 1 v21 done.length (encs Value.string done) ∧ Below Wq.heap.size Wq wx ∧ Wl.heap.size + 1 + 1 ≤ wx.heap.size ∧ done.length + cnt ≤ P.length)) (fun _ wx => wx.rangeLeft Wc.heap.size (Wl.heap.size + 1))
 case atStart =>
  obtain ⟨hra, hB3, hz⟩ := HT.out
  refine ⟨_, _, [], ⟨hra, fun s hs => ?_, (fun s h => by cases h), World.ownsRow_nil _ _ _ _, hB3, hz, by simpa using HN1.out⟩⟩
  have h1 := fun zd => HAt.out s zd hs
  by_cases e : s ∈ P.map (·.1)
  rotate_left
  ·have : Maps.has D (.string s.data.toList) = false := Maps.has_false_of_atKey (fun z => by rw [h1, if_neg e])
   simp [this, e]
  have : Maps.has D (.string s.data.toList) = true := Maps.has_true_of_atKey (y := encV (g s)) (fun z => by rw [h1, if_pos e])
  simp [this, e]
 clear HT
 obtain ⟨wx, rfl⟩ : ∃ wx : World, wx = wr := ⟨_, rfl⟩
 obtain ⟨left, cnt, done, HRg⟩ := hrel
 obtain ⟨hra, hleft, hin, hown, hB, hz, hcnt⟩ := HRg.out
 rcases hra.next keyed9 0 with ⟨hc0, hl0, hrun⟩ | ⟨key, v, kl, y, W5, cnt5, hkey, hlk, hR5, hat5, hrun, hra5, hlt5, hgr5, hsz5, hen⟩
 ·have hall : ∀ s, s ∈ P.map (·.1) → s ∈ done := fun s hs => Decidable.byContradiction fun hn => by
   have hsz : s.size ≤ maxLen := by
    obtain ⟨p, hp, rfl⟩ := List.mem_map.1 hs
    exact HG2.out.1 _ (List.mem_flatMap.2 ⟨p, hp, List.mem_cons_self ..⟩)
   have := (hleft s hsz).2 ⟨hs, hn⟩
   rw [hl0] at this
   cases this
  have hiff : (∃ x, x ∈ done ∧ Dfs.Cyc (qEL P) x) ↔ ∃ s, s ∈ P.map (·.1) ∧ Dfs.Cyc (qEL P) s := ⟨fun ⟨x, hx, hc⟩ => ⟨x, hin x hx, hc⟩, fun ⟨x, hx, hc⟩ => ⟨x, hall x hx, hc⟩⟩
  have hxw : wx.heap[Wl.heap.size]? = some (.cells #[.map (some Wc.heap.size)] 118 (0, 0)) := (hB.block _ (by have := HZQ.out; omega)).trans HXq.out
  obtain ⟨Ar2, cr2, hv21, hcr2, hCr2⟩ := Kd.R_reads (Kd.R_of_own (h1 := fun _ => rfl) hown (ok := fun _ => True) (fun _ _ => trivial))
  have hkey : ∀ x, x ∈ done → x ∈ qET P := fun x hx => by
   obtain ⟨p, hp, rfl⟩ := List.mem_map.1 (hin x hx)
   exact List.mem_flatMap.2 ⟨p, hp, List.mem_cons_self ..⟩
  have X2 : qDB.Ctx wx (qEL P) (qET P) ⟨Wl.heap.size, 0, none⟩ := ⟨fun x y hy => lookN_mem hy, HG2.out.1, fun W hW x hx => next2 ((HLM.out.keep hB).keep hW) ((qA1 (qAO hxw (qB9 hW none) (by simp)) 0).trans rfl) (HG2.out.1 x hx)⟩
  have hS0 := qDB.search Ar2 cr2 done wx (qEL P) (qET P) ⟨Wl.heap.size, 0, none⟩ hCr2 hcr2 X2 hkey HG2.out.2.1
  obtain ⟨bb, hbb, hS1⟩ : ∃ bb : Bool, (bb = true ↔ ∃ x, x ∈ done ∧ Dfs.Cyc (qEL P) x) ∧ Calls Tryz.prog 55 #[.slice Ar2 done.length cr2, .func (.func 56) #[] #[.pointer (some ⟨Wl.heap.size, 0, none⟩)]] wx fun e w' => e = .returned (.bool bb) ∧ Below wx.heap.size wx w' := by
   refine ⟨_, ?_, hS0⟩
   open Classical in exact decide_eq_true_iff
  have HS2 := qA0.mk hS1
  have HBB2 := qA0.mk (hbb.trans hiff)
  have HBx := qA0.mk (qBZ HBw2.out hB)
  clear hS0 hS1 hbb X2 hCr2 hkey hxw hiff hall hl0 hc0 hown hB hra hleft hin
  subst hv21
  go_wp2_with fail
  refine HS2.out.mono ?_
  rintro e Wz ⟨rfl, hbz⟩
  have HBz := qA0.mk (qBZ HBx.out hbz)
  clear hbz
  cases bb
  case true =>
   have q2 := HBB2.out.1 rfl
   have hr : r = 10 := by have := HL.out; rw [if_pos q2] at this; exact (Option.some.inj this).symm
   subst hr
   clear q2
   go_wp2_with fail
   go_ret
   exact ⟨rfl, HBz.out⟩
  case false =>
   have q2 : ¬ ∃ s, s ∈ P.map (·.1) ∧ Dfs.Cyc (qEL P) s := fun h => by have := HBB2.out.2 h; cases this
   have hr : r = 0 := by have := HL.out; rw [if_neg q2] at this; exact (Option.some.inj this).symm
   subst hr
   clear q2
   go_wp2_with fail
   go_ret
   exact ⟨rfl, HBz.out⟩
 ·obtain ⟨s, rfl, rfl, hss⟩ := key9_inv hkey
  obtain ⟨hs1, hs2⟩ := (hleft s hss).1 hlk
  generalize hW6 : W5.alloc (.cells #[.string s] 9) = W6
  have hz6 : W6.heap.size = W5.heap.size + 1 := by rw [← hW6]; simp
  have hB56 : Below W5.heap.size W5 W6 := by rw [← hW6]; exact qAC (Below.refl _ _) _
  have hu : W6.ownsRow W5.heap.size 9 1 (.slice (some ⟨W5.heap.size, 0, none⟩) 1 1) 1 (encs Value.string [s]) := by
   rw [← hW6]
   exact own_lit_of (enc := Value.string) W5 W5.heap.size 9 [s] (Nat.le_refl _) (by simp)
  have hge : ∀ k, u21.ownBlock = some k → Wl.heap.size + 1 + 1 ≤ k ∧ k < wx.heap.size := fun k hk => by
   obtain ⟨h1, cells, hc⟩ := qDF hown hk
   exact ⟨h1, Gen.qC3 hc⟩
  have hown6 : W6.ownsRow (Wl.heap.size + 1 + 1) 9 1 u21 done.length (encs Value.string done) := qED hown (fun k hk => by
   obtain ⟨h1, h2⟩ := hge k hk
   rw [hB56.block k (by omega), hgr5.block k h2 (by simp; omega)])
  obtain ⟨v1, W7, hr7, o7, gr7, bl7⟩ := looks_app W6 (Wl.heap.size + 1 + 1) W5.heap.size u21 (.slice (some ⟨W5.heap.size, 0, none⟩) 1 1) done [s] hown6 hu (by omega) (by have := HG2.out.2.2; simp; omega)
  have hz7 := gr7.size
  have hbW : Wc.heap.size < wx.heap.size := hra.owns.lt
  have hrng := (hra5.alloc (.cells #[.string s] 9))
  rw [hW6] at hrng
  have hrng7 := hrng.kept gr7 (fun e => by have := (hge _ e.symm).1; omega) (fun e => by have := (hge _ e.symm).1; omega)
  have hB7 : Below Wq.heap.size Wq W7 := by
   have hzq := HZQ.out
   have s1 := qBY hB (some (Wl.heap.size + 1)) hB.size hgr5 (fun k e => by obtain rfl := Option.some.inj e; omega)
   have s2 := qBY s1 none s1.size (qB9 hB56 none) (fun k e => by cases e)
   exact qBY s2 u21.ownBlock s2.size gr7 (fun k e => by have := (hge k e).1; omega)
  rw [← hW6] at hr7
  have HR7 := qA0.mk hr7
  have HF := qA0.mk (And.intro hrng7 (And.intro o7 (And.intro hB7 (show Wl.heap.size + 1 + 1 ≤ W7.heap.size by omega))))
  have HM := qA0.mk (show W7.rangeLeft Wc.heap.size (Wl.heap.size + 1) < wx.rangeLeft Wc.heap.size (Wl.heap.size + 1) from by rw [hrng7.left_eq, hra.left_eq]; exact hlt5)
  have HLf := qA0.mk (And.intro hleft (And.intro hin (And.intro hs1 (And.intro hs2 (show done.length + 1 + cnt5 ≤ P.length by omega)))))
  clear hr7 hrng hrng7 o7 gr7 bl7 hu hown6 hge hown hB hra hra5 hleft hin hlt5 hgr5 hB56 hz6 hz7 hW6 hB7 hs1 hs2 hat5 hR5 hkey hlk hsz5
  go_wp2_with (at_builtin; (refine wp_app rfl _ _ 120 rfl rfl u21 (.slice (some ⟨W5.heap.size, 0, none⟩) 1 1) rfl rfl HR7.out ?_))
  obtain ⟨f1, f2, f3, f4⟩ := HF.out
  obtain ⟨m1, m2, m3, m4, m5⟩ := HLf.out
  refine ⟨⟨_, cnt5, done ++ [s], ⟨f1, fun x hx => ?_, fun x hx => ?_, f2, f3, f4, by simp; omega⟩⟩, HM.out⟩
  ·by_cases e : x = s
   rotate_left
   ·rw [Maps.sameKey_ne (show (Lit.string x.data.toList) ≠ Lit.string s.data.toList from fun e2 => e (str_inj (by injection e2)))]
    simp [m1 x hx, e]
   subst e
   simp [WideAt.sameKey_self (show WideAt.IsKeyLit (.string x.data.toList) from trivial)]
  ·rcases List.mem_append.1 hx with h | h
   ·exact m2 x h
   ·rw [show x = s from by simpa using h]; exact m3
end
end Go.Proofs.YtpafpefealopoaaGreat.PPopMakes
end
section
namespace Go.Proofs.YtpafpefealopoaaGreat
open Go
theorem less_total : ∀ a b : List UInt8, (Op.bytesLess a b || a == b) = !(Op.bytesLess b a)
 | [], [] => by rfl
 | [], _ :: _ => by rfl
 | _ :: _, [] => by rfl
 | x :: a, y :: b => by
  have ih := less_total a b
  simp only [Op.bytesLess]
  by_cases h : x = y
  ·subst h
   have h1 : decide (x < x) = false := decide_eq_false (UInt8.lt_irrefl x)
   rw [h1]
   simp only [Bool.false_or, beq_self_eq_true, Bool.true_and]
   rw [← ih]
   congr 1
   simp [List.cons_beq_cons]
  ·have e1 : (x == y) = false := beq_eq_false_iff_ne.mpr h
   have e2 : (y == x) = false := beq_eq_false_iff_ne.mpr (Ne.symm h)
   have e3 : (x :: a == y :: b) = false := beq_eq_false_iff_ne.mpr (fun e => h (List.cons.inj e).1)
   rw [e1, e2, e3]
   simp only [Bool.false_and, Bool.or_false]
   by_cases g : x < y
   ·rw [decide_eq_true g, decide_eq_false (UInt8.lt_asymm g)]; rfl
   ·have g2 : y < x := by
     rcases Nat.lt_trichotomy x.toNat y.toNat with l | l | l
     ·exact absurd (UInt8.lt_iff_toNat_lt.2 l) g
     ·exact absurd (UInt8.toNat_inj.1 l) h
     ·exact UInt8.lt_iff_toNat_lt.2 l
    rw [decide_eq_true g2, decide_eq_false g]; rfl
@[go_sem] theorem leq_str (t : TypeId) (a b : ByteArray) : binOp .leq t (.string a) (.string b) = pure (.bool !(Op.bytesLess b.toList a.toList)) := by
 rw [← less_total]
 simp [binOp, Op.stringOp]
@[go_sem] theorem geq_str (t : TypeId) (a b : ByteArray) : binOp .geq t (.string a) (.string b) = pure (.bool !(Op.bytesLess a.toList b.toList)) := by simp [binOp, Op.stringOp]
end Go.Proofs.YtpafpefealopoaaGreat
end
section
namespace Go.Proofs.YtpafpefealopoaaGreat.PPopMakes
noncomputable section
open Go.RowKit Go.Proofs.YtpafpefealopoaaGreatW.PrintWords Go.Proofs.YtpafpefealopoaaGreatW.PrintLast Go.Proofs.YtpafpefealopoaaGreatW.PrintMore
set_option maxHeartbeats 8000000
set_option maxRecDepth 100000
mutual
def qAV.j0 : Nat → List (S76) → Bool → Int → List Int → List (S56) → Int → Option (Int)
 | 0, _, _, _, _, _, _ => none
 | k + 1, x0, x34, x396000, x396001, x396002, x396003 => if x34 = true then (some 1) else (if (x396001.length : Int) > 6 then (qAV.j1 k x0 true x396000 x396001 x396002 x396003) else (qAV.j1 k x0 (decide ((x396002.length : Int) > 40)) x396000 x396001 x396002 x396003))
def qAV.j1 : Nat → List (S76) → Bool → Int → List Int → List (S56) → Int → Option (Int)
 | 0, _, _, _, _, _, _ => none
 | k + 1, x0, x44, x396000, x396001, x396002, x396003 => if x44 = true then (some 2) else ((qBT.f k x396001).bind fun t397 => (if t397 = 0 then (qAV.l0 k x0 x396002 (x396002.length : Int) 0 x396000 x396001 x396002 x396003) else (some t397)))
def qAV.l0 : Nat → List (S76) → List (S56) → Int → Int → Int → List Int → List (S56) → Int → Option (Int)
 | 0, _, _, _, _, _, _, _, _ => none
 | k + 1, x0, x52, x53, x54, x396000, x396001, x396002, x396003 => if x54 < x53 then (if 0 ≤ x54 then (if x54 < (x52.length : Int) then ((qAR.f k x0 ((qAH x52 x54).f0)).bind fun bt400 => (if bt400.2.2.2.2.2.2.2 = true then (qAV.j3 k x0 x54 x52 x53 x54 (!bt400.2.2.1) x396000 x396001 x396002 x396003 ((qAH x52 x54).f0) ((qAH x52 x54).f1) ((qAH x52 x54).f2) bt400.1 bt400.2.1 bt400.2.2.1 bt400.2.2.2.1 bt400.2.2.2.2.1 bt400.2.2.2.2.2.1 bt400.2.2.2.2.2.2.1) else (qAV.j3 k x0 x54 x52 x53 x54 true x396000 x396001 x396002 x396003 ((qAH x52 x54).f0) ((qAH x52 x54).f1) ((qAH x52 x54).f2) bt400.1 bt400.2.1 bt400.2.2.1 bt400.2.2.2.1 bt400.2.2.2.2.1 bt400.2.2.2.2.2.1 bt400.2.2.2.2.2.2.1))) else (none)) else (none)) else (some 0)
def qAV.j3 : Nat → List (S76) → Int → List (S56) → Int → Int → Bool → Int → List Int → List (S56) → Int → ByteArray → List Int → List Int → ByteArray → Int → Bool → Int → Int → Int → Int → Option (Int)
 | 0, _, _, _, _, _, _, _, _, _, _, _, _, _, _, _, _, _, _, _, _ => none
 | k + 1, x0, x7, x52, x53, x54, x66, x396000, x396001, x396002, x396003, x400000, x400001, x400002, x409000, x409001, x409002, x409003, x409004, x409005, x409006 => if x66 = true then (some 15) else (if x7 > 0 then (if 0 ≤ (wrap64 (x7 - 1)) then (if (wrap64 (x7 - 1)) < (x396002.length : Int) then (qAV.j4 k x0 x52 x53 x54 (!(Op.bytesLess (((qAH x396002 (wrap64 (x7 - 1))).f0).toList) x400000.toList)) x396000 x396001 x396002 x396003 x400000 x400001 x400002 x409000 x409001 x409002 x409003 x409004 x409005 x409006) else (none)) else (none)) else (qAV.j4 k x0 x52 x53 x54 false x396000 x396001 x396002 x396003 x400000 x400001 x400002 x409000 x409001 x409002 x409003 x409004 x409005 x409006))
def qAV.j4 : Nat → List (S76) → List (S56) → Int → Int → Bool → Int → List Int → List (S56) → Int → ByteArray → List Int → List Int → ByteArray → Int → Bool → Int → Int → Int → Int → Option (Int)
 | 0, _, _, _, _, _, _, _, _, _, _, _, _, _, _, _, _, _, _, _ => none
 | k + 1, x0, x52, x53, x54, x74, x396000, x396001, x396002, x396003, x400000, x400001, x400002, x409000, x409001, x409002, x409003, x409004, x409005, x409006 => if x74 = true then (some 9) else (if (x400001.length : Int) = (x400002.length : Int) then ((qDD.f x400001 x409003 x409004).bind fun t410 => (if t410 = true then (some 18) else ((qBT.f k x400002).bind fun t411 => (if t411 = 0 then (qAV.l0 k x0 x52 x53 (wrap64 (x54 + 1)) x396000 x396001 x396002 x396003) else (some t411))))) else (some 3))
end
def qAV.f (k : Nat) (l0 : List (S76)) (a1_0 : Int) (l1_1 : List Int) (l1_2 : List (S56)) (a1_3 : Int) : Option (Int) := (qCJ.f l0).bind fun t396 => (if t396 = 0 then (if a1_0 < 0 then (qAV.j0 k l0 true a1_0 l1_1 l1_2 a1_3) else (if a1_0 > 1048575 then (qAV.j0 k l0 true a1_0 l1_1 l1_2 a1_3) else (if a1_3 < 0 then (qAV.j0 k l0 true a1_0 l1_1 l1_2 a1_3) else (qAV.j0 k l0 (decide (a1_3 > 1000000)) a1_0 l1_1 l1_2 a1_3)))) else (some t396))
theorem qAV.calls (k : Nat) (A0 : Option Addr) (c0 : Nat) (l0 : List (S76)) (a1_0 : Int) (A1_1 : Option Addr) (c1_1 : Nat) (l1_1 : List Int) (A1_2 : Option Addr) (c1_2 : Nat) (l1_2 : List (S56)) (a1_3 : Int) (r : Int) (w : World) (hr0 : Kd.C k76 w A0 l0.length l0) (hc0 : l0.length ≤ c0) (hr1_1 : Kd.C (Kd.int .i64) w A1_1 l1_1.length l1_1) (hc1_1 : l1_1.length ≤ c1_1) (hr1_2 : Kd.C k56 w A1_2 l1_2.length l1_2) (hc1_2 : l1_2.length ≤ c1_2) (h : qAV.f k l0 a1_0 l1_1 l1_2 a1_3 = some r) :
  Calls Tryz.prog 6 #[.slice A0 l0.length c0, .agg #[.int .i64 a1_0, .slice A1_1 l1_1.length c1_1, .slice A1_2 l1_2.length c1_2, .int .i64 a1_3]] w fun e w' => e = .returned (.int .i64 r) ∧ Below w.heap.size w w' := by
 have hu27 := Tryz.underlying27
 have hu56 := Tryz.underlying56
 have hu60 := Tryz.underlying60
 have HR0 := qA0.mk hr0
 have HC0 := qA0.mk hc0
 clear hr0 hc0
 have HR1_1 := qA0.mk hr1_1
 have HC1_1 := qA0.mk hc1_1
 clear hr1_1 hc1_1
 have HR1_2 := qA0.mk hr1_2
 have HC1_2 := qA0.mk hc1_2
 clear hr1_2 hc1_2
 have HB := qA0.mk (Below.refl w.heap.size w)
 have H := h
 unfold qAV.f at H
 clear h
 replace H := zi H
 obtain ⟨t396, A30, H⟩ := H
 have A3 := qA0.mk A30
 clear A30
 by_cases c4 : t396 = 0
 rotate_left
 ·rw [if_neg c4] at H
  have ⟨c4b0, c4b1⟩ := zn c4
  obtain rfl := Option.some.inj H
  go_enter Tryz.func6, Tryz.ntmps6
  go_wp2_with (first | ((with_reducible refine qA9 (N := 3) rfl ?_); (try (refine qBD (by rfl) ?_; dsimp only)); refine boxZ 3 #[.int .i64 a1_0, .slice A1_1 l1_1.length c1_1, .slice A1_2 l1_2.length c1_2, .int .i64 a1_3] 27 ?_; intro gb395 hg w77 hbox hb; have BK395 := qA0.mk (hbox); have GW395 := zg w gb395; have GE395 := zg w gb395; replace HB := zB hb; clear hb hbox hg) | (go_at_call 21; (with_reducible refine (qCJ.calls _ _ l0 t396 _ ?side1 ?side2 A3.out).mono ?_); (case side1 => repeat (first | exact (Kd.qAE HR0.out HB.out) | refine sC ?_)); (case side2 => exact HC0.out); rintro e w78 ⟨rfl, hb⟩; replace BK395 := zK BK395 hb; replace HB := zB hb; (try clear hb hk); (try clear hb)))
  go_ret
  exact ⟨zf, zb⟩
 rw [if_pos c4] at H
 have ⟨c4b0, c4b1⟩ := ze c4
 clear c4
 have HC5 := qA0.mk H
 clear H
 go_enter Tryz.func6, Tryz.ntmps6
 go_upto_region 4 with (first | ((with_reducible refine qA9 (N := 3) rfl ?_); (try (refine qBD (by rfl) ?_; dsimp only)); refine boxZ 3 #[.int .i64 a1_0, .slice A1_1 l1_1.length c1_1, .slice A1_2 l1_2.length c1_2, .int .i64 a1_3] 27 ?_; intro gb395 hg w6 hbox hb; have BK395 := qA0.mk (hbox); have GW395 := zg w gb395; have GE395 := zg w gb395; replace HB := zB hb; clear hb hbox hg) | (go_at_call 21; (with_reducible refine (qCJ.calls _ _ l0 t396 _ ?side1 ?side2 A3.out).mono ?_); (case side1 => repeat (first | exact (Kd.qAE HR0.out HB.out) | refine sC ?_)); (case side2 => exact HC0.out); rintro e w7 ⟨rfl, hb⟩; replace BK395 := zK BK395 hb; replace HB := zB hb; (try clear hb hk); (try clear hb)))
 go_cut [34] (fun v34 wc => ∃ (kq : Nat) (x34_4 : Bool), v34 = .bool x34_4 ∧ qA0 (qAV.j0 kq l0 x34_4 a1_0 l1_1 l1_2 a1_3 = some r) ∧ qA0 (kq ≤ k) ∧ qA0 (wc.heap[gb395]? = some (.cells #[.int .i64 a1_0, (.slice A1_1 l1_1.length c1_1), (.slice A1_2 l1_2.length c1_2), .int .i64 a1_3] 27 (0, 0))) ∧ qA0 (Below w.heap.size w wc))
 case first =>
  have H := HC5.out
  clear HC5
  by_cases c8 : a1_0 < 0
  ·rw [if_pos c8] at H
   have c8b0 := decide_eq_true c8
   clear c8
   (first | rw [c8b0] | (simp only [qC9, qCB]; rw [c8b0]) | skip)
   have H' := qA0.mk H
   clear H
   obtain ⟨hcz9_0, hcz9_1, hcz9_2, hcz9_3, hfz9_0, hfz9_1, hfz9_2, hfz9_3⟩ := bc4 BK395.out
   go_wp2
   go_meet
   case rel => exact ⟨_, (true), zs, H', ⟨by first | omega | exact Nat.le_refl _⟩, ⟨zk BK395⟩, ⟨zb⟩⟩
  rw [if_neg c8] at H
  have c8b0 := decide_eq_false c8
  clear c8
  (first | rw [c8b0] | (simp only [qC9, qCB]; rw [c8b0]) | skip)
  by_cases c10 : a1_0 > 1048575
  ·rw [if_pos c10] at H
   have c10b0 := decide_eq_true c10
   clear c10
   have H' := qA0.mk H
   clear H
   obtain ⟨hcz11_0, hcz11_1, hcz11_2, hcz11_3, hfz11_0, hfz11_1, hfz11_2, hfz11_3⟩ := bc4 BK395.out
   go_wp2
   go_meet
   case rel => exact ⟨_, (true), zs, H', ⟨by first | omega | exact Nat.le_refl _⟩, ⟨zk BK395⟩, ⟨zb⟩⟩
  rw [if_neg c10] at H
  have c10b0 := decide_eq_false c10
  clear c10
  by_cases c12 : a1_3 < 0
  rotate_left
  ·rw [if_neg c12] at H
   have c12b0 := decide_eq_false c12
   clear c12
   have H' := qA0.mk H
   clear H
   obtain ⟨hcz14_0, hcz14_1, hcz14_2, hcz14_3, hfz14_0, hfz14_1, hfz14_2, hfz14_3⟩ := bc4 BK395.out
   go_wp2
   go_meet
   case rel => exact ⟨_, (decide (a1_3 > 1000000)), zs, H', ⟨by first | omega | exact Nat.le_refl _⟩, ⟨zk BK395⟩, ⟨zb⟩⟩
  rw [if_pos c12] at H
  have c12b0 := decide_eq_true c12
  clear c12
  have H' := qA0.mk H
  clear H
  obtain ⟨hcz13_0, hcz13_1, hcz13_2, hcz13_3, hfz13_0, hfz13_1, hfz13_2, hfz13_3⟩ := bc4 BK395.out
  go_wp2
  go_meet
  case rel => exact ⟨_, (true), zs, H', ⟨by first | omega | exact Nat.le_refl _⟩, ⟨zk BK395⟩, ⟨zb⟩⟩
 clear HC5 c4b0 c4b1
 obtain ⟨kq, x34_4, rfl, HA, HJ4, BK395, HB⟩ := hcut
 obtain _ | kj4 := kq
 ·exact absurd HA.out (by simp [qAV.j0])
 have H := HA.out
 clear HA
 simp only [qAV.j0] at H
 by_cases c15 : x34_4 = true
 ·subst c15
  rw [if_pos rfl] at H
  obtain rfl := Option.some.inj H
  go_wp2
  go_ret
  exact ⟨zf, zb⟩
 replace c15 := Bool.eq_false_iff.mpr c15
 subst c15
 rw [zj] at H
 have HC16 := qA0.mk H
 clear H
 go_upto_region 6 with (fail)
 go_cut [44] (fun v44 wc => ∃ (kq : Nat) (x44_15 : Bool), v44 = .bool x44_15 ∧ qA0 (qAV.j1 kq l0 x44_15 a1_0 l1_1 l1_2 a1_3 = some r) ∧ qA0 (kq ≤ kj4) ∧ qA0 (wc.heap[gb395]? = some (.cells #[.int .i64 a1_0, (.slice A1_1 l1_1.length c1_1), (.slice A1_2 l1_2.length c1_2), .int .i64 a1_3] 27 (0, 0))) ∧ qA0 (Below w.heap.size w wc))
 case first =>
  have H := HC16.out
  clear HC16
  by_cases c17 : (l1_1.length : Int) > 6
  rotate_left
  ·rw [if_neg c17] at H
   have c17b0 := decide_eq_false c17
   have c17b1 : decide (6 < l1_1.length) = false := decide_eq_false (by omega)
   clear c17
   (first | rw [c17b0] | (simp only [qC9, qCB]; rw [c17b0]) | skip)
   have H' := qA0.mk H
   clear H
   obtain ⟨hcz19_0, hcz19_1, hcz19_2, hcz19_3, hfz19_0, hfz19_1, hfz19_2, hfz19_3⟩ := bc4 BK395.out
   go_wp2
   go_meet
   case rel => exact ⟨_, (decide ((l1_2.length : Int) > 40)), zs, H', ⟨by have := HJ4.out; first | omega | exact Nat.le_refl _⟩, ⟨zk BK395⟩, ⟨zb⟩⟩
  rw [if_pos c17] at H
  have c17b0 := decide_eq_true c17
  have c17b1 : decide (6 < l1_1.length) = true := decide_eq_true (by omega)
  clear c17
  (first | rw [c17b0] | (simp only [qC9, qCB]; rw [c17b0]) | skip)
  have H' := qA0.mk H
  clear H
  obtain ⟨hcz18_0, hcz18_1, hcz18_2, hcz18_3, hfz18_0, hfz18_1, hfz18_2, hfz18_3⟩ := bc4 BK395.out
  go_wp2
  go_meet
  case rel => exact ⟨_, (true), zs, H', ⟨by have := HJ4.out; first | omega | exact Nat.le_refl _⟩, ⟨zk BK395⟩, ⟨zb⟩⟩
 clear HC16
 obtain ⟨kq, x44_15, rfl, HA, HJ15, BK395, HB⟩ := hcut
 obtain _ | kj15 := kq
 ·exact absurd HA.out (by simp [qAV.j1])
 have H := HA.out
 clear HA
 simp only [qAV.j1] at H
 by_cases c20 : x44_15 = true
 ·subst c20
  rw [if_pos rfl] at H
  obtain rfl := Option.some.inj H
  go_wp2
  go_ret
  exact ⟨zf, zb⟩
 replace c20 := Bool.eq_false_iff.mpr c20
 subst c20
 rw [zj] at H
 replace H := zi H
 obtain ⟨t397, A210, H⟩ := H
 have A21 := qA0.mk A210
 clear A210
 by_cases c22 : t397 = 0
 rotate_left
 ·rw [if_neg c22] at H
  have ⟨c22b0, c22b1⟩ := zn c22
  obtain rfl := Option.some.inj H
  obtain ⟨hcz76_0, hcz76_1, hcz76_2, hcz76_3, hfz76_0, hfz76_1, hfz76_2, hfz76_3⟩ := bc4 BK395.out
  go_wp2_with ((go_at_call 22; (with_reducible refine (qBT.calls kj15 _ _ l1_1 t397 _ ?side1 ?side2 A21.out).mono ?_); (case side1 => repeat (first | exact (Kd.qAE HR1_1.out HB.out) | refine sC ?_)); (case side2 => exact HC1_1.out); rintro e w' ⟨rfl, ⟨nd, rfl⟩⟩; (try first | exact ⟨rfl, _, World.drewN_drewN _ _ _⟩ | exact ⟨rfl, _, Eq.trans (World.drewN_drewN _ _ _) (congrArg (World.drewN _) (Nat.add_assoc _ _ _))⟩)))
  go_ret
  exact ⟨zf, zb⟩
 rw [if_pos c22] at H
 have ⟨c22b0, c22b1⟩ := ze c22
 clear c22
 have H' := qA0.mk H
 clear H
 obtain ⟨hcz23_0, hcz23_1, hcz23_2, hcz23_3, hfz23_0, hfz23_1, hfz23_2, hfz23_3⟩ := bc4 BK395.out
 go_wp2_with ((go_at_call 22; (with_reducible refine (qBT.calls kj15 _ _ l1_1 t397 _ ?side1 ?side2 A21.out).mono ?_); (case side1 => repeat (first | exact (Kd.qAE HR1_1.out HB.out) | refine sC ?_)); (case side2 => exact HC1_1.out); rintro e w' ⟨rfl, ⟨nd, rfl⟩⟩; (try first | exact ⟨rfl, _, World.drewN_drewN _ _ _⟩ | exact ⟨rfl, _, Eq.trans (World.drewN_drewN _ _ _) (congrArg (World.drewN _) (Nat.add_assoc _ _ _))⟩)))
 go_loopg [54] kj15 (fun kq v54 w' => ∃ (x54_3 : Int), v54 = .int .i64 x54_3 ∧ qA0 (qAV.l0 kq l0 l1_2 (l1_2.length : Int) x54_3 a1_0 l1_1 l1_2 a1_3 = some r) ∧ qA0 (kq ≤ kj15) ∧ qA0 (w'.heap[gb395]? = some (.cells #[.int .i64 a1_0, (.slice A1_1 l1_1.length c1_1), (.slice A1_2 l1_2.length c1_2), .int .i64 a1_3] 27 (0, 0))) ∧ qA0 (Below w.heap.size w w'))
 case atStart => exact ⟨(0), zs, H', ⟨Nat.le_refl _⟩, ⟨zk BK395⟩, ⟨zb⟩⟩
 clear H' c22b0 c22b1 hcz23_0 hcz23_1 hcz23_2 hcz23_3 hfz23_0 hfz23_1 hfz23_2 hfz23_3
 obtain ⟨x54_3, rfl, HA, HK3, BK395, HB⟩ := hrel
 obtain _ | k3 := gk
 ·exact absurd HA.out (by simp [qAV.l0])
 have H := HA.out
 clear HA
 simp only [qAV.l0] at H
 by_cases c24 : x54_3 < (l1_2.length : Int)
 rotate_left
 ·rw [if_neg c24] at H
  have c24b0 := decide_eq_false c24
  clear c24
  obtain rfl := Option.some.inj H
  go_wp2
  go_ret
  exact ⟨zf, zb⟩
 rw [if_pos c24] at H
 have c24b0 := decide_eq_true c24
 clear c24
 by_cases c25 : 0 ≤ x54_3
 rotate_left
 ·rw [if_neg c25] at H
  cases H
 rw [if_pos c25] at H
 have c25b0 := decide_eq_true c25
 clear c25
 by_cases c26 : x54_3 < (l1_2.length : Int)
 rotate_left
 ·rw [if_neg c26] at H
  cases H
 rw [if_pos c26] at H
 have c26b0 := decide_eq_true c26
 clear c26
 replace H := zi H
 obtain ⟨⟨t400, t401, t402, t403, t404, t405, t406, t407⟩, A270, H⟩ := H
 dsimp only at H
 have A27 := qA0.mk A270
 clear A270
 have HC28 := qA0.mk H
 clear H
 have p398 : 0 ≤ (x54_3 : Int) := zd
 have q398 : x54_3 < (l1_2.length : Int) := zd
 obtain ⟨ad398, A398_1, c398_1, A398_2, c398_2, e398, hx398_0, hx398_1, hx398_2, hl398_1, hi398_1, hl398_2, hi398_2⟩ := at_T56 HR1_2.out x54_3 p398 q398
 cases e398
 (try replace hx398_0 := zh hx398_0)
 replace hx398_1 := zh hx398_1
 replace hx398_2 := zh hx398_2
 have HR398_1 := qA0.mk hi398_1
 have HC398_1 := qA0.mk hl398_1
 clear hi398_1 hl398_1
 have HR398_2 := qA0.mk hi398_2
 have HC398_2 := qA0.mk hl398_2
 clear hi398_2 hl398_2
 replace p398 := eq_true p398
 replace q398 := eq_true q398
 go_upto_region 15 with (first | ((with_reducible refine qA9 (N := 8) rfl ?_); (try (refine qBD (by rfl) ?_; dsimp only)); refine boxZ 8 #[.string (⟨#[]⟩ : ByteArray), .slice none 0 0, .slice none 0 0] 56 ?_; intro gb399 hg w29 hbox hb; have BK399 := qA0.mk (hbox); have GW399 := zg w gb399; have GE399 := zg w gb399; have NB395_399 := zl BK395 gb399; have NB399_395 := zu BK395 gb399; replace BK395 := zK BK395 hb; replace HB := zB hb; clear hb hbox hg; have hnb30 := NB399_395.out; have hnc30 := NB395_399.out; obtain ⟨hcz31_0, hcz31_1, hcz31_2, hfz31_0, hfz31_1, hfz31_2⟩ := bc3 BK399.out) | (go_at_call 23; (with_reducible refine (qAR.calls k3 _ _ l0 ((qAH l1_2 x54_3).f0) t400 t401 t402 t403 t404 t405 t406 t407 _ ?side1 ?side2 A27.out).mono ?_); (case side1 => exact Kd.qAE HR0.out zb); (case side2 => exact HC0.out); rintro e w32 ⟨rfl, hb⟩; replace BK395 := qA0.mk (qAL (g := gb395) (o := .cells #[.int .i64 a1_0, .slice A1_1 l1_1.length c1_1, .slice (some ad398) l1_2.length c1_2, .int .i64 a1_3] 27 (0, 0)) (by refine zf3 ?_ NB395_399; (with_reducible repeat refine st ?_); exact BK395.out) hb); replace BK399 := qA0.mk (qAL (zp3 BK399) hb); replace HB := zB hb; (try clear hb hk); (try clear hb)) | ((with_reducible refine qA9 (N := 9) rfl ?_); (try (refine qBD (by rfl) ?_; dsimp only)); refine boxZ 9 #[.string (⟨#[]⟩ : ByteArray), .int .i64 0, .bool false, .int .i64 0, .int .i64 0, .int .i64 0, .int .i64 0] 60 ?_; intro gb408 hg w33 hbox hb; have BK408 := qA0.mk (hbox); have GW408 := zg w gb408; have GE408 := zg w gb408; have NB395_408 := zl BK395 gb408; have NB408_395 := zu BK395 gb408; have NB399_408 := zl BK399 gb408; have NB408_399 := zu BK399 gb408; replace BK395 := zK BK395 hb; replace BK399 := zK BK399 hb; replace HB := zB hb; clear hb hbox hg; have hnb34 := NB408_395.out; have hnc34 := NB395_408.out; have hnb35 := NB408_399.out; have hnc35 := NB399_408.out; obtain ⟨hcz36_0, hcz36_1, hcz36_2, hcz36_3, hcz36_4, hcz36_5, hcz36_6, hfz36_0, hfz36_1, hfz36_2, hfz36_3, hfz36_4, hfz36_5, hfz36_6⟩ := bc7 BK408.out))
 go_cut [66] (fun v66 wc => ∃ (kq : Nat) (x66_27 : Bool), v66 = .bool x66_27 ∧ qA0 (qAV.j3 kq l0 x54_3 l1_2 (l1_2.length : Int) x54_3 x66_27 a1_0 l1_1 l1_2 a1_3 ((qAH l1_2 x54_3).f0) ((qAH l1_2 x54_3).f1) ((qAH l1_2 x54_3).f2) t400 t401 t402 t403 t404 t405 t406 = some r) ∧ qA0 (kq ≤ k3) ∧ qA0 (wc.heap[gb395]? = some (.cells #[.int .i64 a1_0, (.slice A1_1 l1_1.length c1_1), (.slice (some ad398) l1_2.length c1_2), .int .i64 a1_3] 27 (0, 0))) ∧ qA0 (wc.heap[gb399]? = some (.cells #[.string ((qAH l1_2 x54_3).f0), (.slice A398_1 ((qAH l1_2 x54_3).f1).length c398_1), (.slice A398_2 ((qAH l1_2 x54_3).f2).length c398_2)] 56 (0, 0))) ∧ qA0 (wc.heap[gb408]? = some (.cells #[.string t400, .int .i64 t401, .bool t402, .int .i64 t403, .int .i64 t404, .int .i64 t405, .int .i64 t406] 60 (0, 0))) ∧ qA0 (Below w.heap.size w wc))
 case first =>
  have H := HC28.out
  clear HC28
  by_cases c37 : t407 = true
  rotate_left
  ·replace c37 := Bool.eq_false_iff.mpr c37
   subst c37
   rw [zj] at H
   have H' := qA0.mk H
   clear H
   go_wp2
   go_meet
   case rel => exact ⟨_, (true), zs, H', ⟨by have := HJ4.out; have := HJ15.out; have := HK3.out; first | omega | exact Nat.le_refl _⟩, ⟨by refine zf7 ?_ NB395_408; (with_reducible repeat refine st ?_); exact BK395.out⟩, ⟨by refine zf7 ?_ NB399_408; (with_reducible repeat refine st ?_); exact BK399.out⟩, ⟨zp7 BK408⟩, ⟨zb⟩⟩
  subst c37
  rw [if_pos rfl] at H
  have H' := qA0.mk H
  clear H
  have hnb38 := NB408_395.out
  have hnc38 := NB395_408.out
  have hnb39 := NB408_399.out
  have hnc39 := NB399_408.out
  obtain ⟨hcz40_0, hcz40_1, hcz40_2, hcz40_3, hcz40_4, hcz40_5, hcz40_6, hfz40_0, hfz40_1, hfz40_2, hfz40_3, hfz40_4, hfz40_5, hfz40_6⟩ := bc7 BK408.out
  go_wp2
  go_meet
  case rel => exact ⟨_, (!t402), zs, H', ⟨by have := HJ4.out; have := HJ15.out; have := HK3.out; first | omega | exact Nat.le_refl _⟩, ⟨by refine zf7 ?_ NB395_408; (with_reducible repeat refine st ?_); exact BK395.out⟩, ⟨by refine zf7 ?_ NB399_408; (with_reducible repeat refine st ?_); exact BK399.out⟩, ⟨zp7 BK408⟩, ⟨zb⟩⟩
 clear HC28 c24b0 c25b0 c26b0 hcz31_0 hcz31_1 hcz31_2 hcz36_0 hcz36_1 hcz36_2 hcz36_3 hcz36_4 hcz36_5 hcz36_6 hfz31_0 hfz31_1 hfz31_2 hfz36_0 hfz36_1 hfz36_2 hfz36_3 hfz36_4 hfz36_5 hfz36_6 hx398_0 hx398_1 hx398_2 p398 q398
 obtain ⟨kq, x66_27, rfl, HA, HJ27, BK395, BK399, BK408, HB⟩ := hcut
 obtain _ | kj27 := kq
 ·exact absurd HA.out (by simp [qAV.j3])
 have H := HA.out
 clear HA
 simp only [qAV.j3] at H
 by_cases c41 : x66_27 = true
 ·subst c41
  rw [if_pos rfl] at H
  obtain rfl := Option.some.inj H
  go_wp2
  go_ret
  exact ⟨zf, zb⟩
 replace c41 := Bool.eq_false_iff.mpr c41
 subst c41
 rw [zj] at H
 have HC42 := qA0.mk H
 clear H
 go_upto_region 17 with (fail)
 go_cut [74] (fun v74 wc => ∃ (kq : Nat) (x74_41 : Bool), v74 = .bool x74_41 ∧ qA0 (qAV.j4 kq l0 l1_2 (l1_2.length : Int) x54_3 x74_41 a1_0 l1_1 l1_2 a1_3 ((qAH l1_2 x54_3).f0) ((qAH l1_2 x54_3).f1) ((qAH l1_2 x54_3).f2) t400 t401 t402 t403 t404 t405 t406 = some r) ∧ qA0 (kq ≤ kj27) ∧ qA0 (wc.heap[gb395]? = some (.cells #[.int .i64 a1_0, (.slice A1_1 l1_1.length c1_1), (.slice (some ad398) l1_2.length c1_2), .int .i64 a1_3] 27 (0, 0))) ∧ qA0 (wc.heap[gb399]? = some (.cells #[.string ((qAH l1_2 x54_3).f0), (.slice A398_1 ((qAH l1_2 x54_3).f1).length c398_1), (.slice A398_2 ((qAH l1_2 x54_3).f2).length c398_2)] 56 (0, 0))) ∧ qA0 (wc.heap[gb408]? = some (.cells #[.string t400, .int .i64 t401, .bool t402, .int .i64 t403, .int .i64 t404, .int .i64 t405, .int .i64 t406] 60 (0, 0))) ∧ qA0 (Below w.heap.size w wc))
 case first =>
  have H := HC42.out
  clear HC42
  by_cases c43 : x54_3 > 0
  rotate_left
  ·rw [if_neg c43] at H
   have c43b0 := decide_eq_false c43
   clear c43
   (first | rw [c43b0] | (simp only [qC9, qCB]; rw [c43b0]) | skip)
   have H' := qA0.mk H
   clear H
   go_wp2
   repeat (go_quiet (fail); try go_wp2)
   go_meet
   case rel => exact ⟨_, (false), zs, H', ⟨by have := HJ4.out; have := HJ15.out; have := HK3.out; have := HJ27.out; first | omega | exact Nat.le_refl _⟩, ⟨zk BK395⟩, ⟨zk BK399⟩, ⟨zk BK408⟩, ⟨zb⟩⟩
  rw [if_pos c43] at H
  have c43b0 := decide_eq_true c43
  clear c43
  (first | rw [c43b0] | (simp only [qC9, qCB]; rw [c43b0]) | skip)
  obtain ⟨ji44, hji44⟩ : ∃ j_ : Int, (wrap64 (x54_3 - 1)) = j_ := ⟨_, rfl⟩
  replace H : (if 0 ≤ (ji44) then (if (ji44) < (l1_2.length : Int) then (qAV.j4 kj27 l0 l1_2 (l1_2.length : Int) x54_3 (!(Op.bytesLess (((qAH l1_2 (ji44)).f0).toList) ((qAH l1_2 x54_3).f0).toList)) a1_0 l1_1 l1_2 a1_3 ((qAH l1_2 x54_3).f0) ((qAH l1_2 x54_3).f1) ((qAH l1_2 x54_3).f2) t400 t401 t402 t403 t404 t405 t406) else (none)) else (none)) = some r := by first | (rw [hji44] at H; exact H) | (simp only [hji44] at H ⊢; exact H)
  have hji44w : (IntKind.i64.wrap (x54_3 - 1)) = ji44 := (qC9 _).trans hji44
  by_cases c45 : 0 ≤ (ji44)
  rotate_left
  ·rw [if_neg c45] at H
   cases H
  rw [if_pos c45] at H
  have c45b0 := decide_eq_true c45
  clear c45
  by_cases c46 : (ji44) < (l1_2.length : Int)
  rotate_left
  ·rw [if_neg c46] at H
   cases H
  rw [if_pos c46] at H
  have c46b0 := decide_eq_true c46
  clear c46
  have H' := qA0.mk H
  clear H
  have hnb47 := NB395_399.out
  have hnc47 := NB399_395.out
  have hnb48 := NB395_408.out
  have hnc48 := NB408_395.out
  obtain ⟨hcz49_0, hcz49_1, hcz49_2, hcz49_3, hfz49_0, hfz49_1, hfz49_2, hfz49_3⟩ := bc4 BK395.out
  have p409 : 0 ≤ ((ji44) : Int) := zd
  have q409 : (ji44) < (l1_2.length : Int) := zd
  obtain ⟨ad409, A409_1, c409_1, A409_2, c409_2, e409, hx409_0, hx409_1, hx409_2, hl409_1, hi409_1, hl409_2, hi409_2⟩ := at_T56 HR1_2.out (ji44) p409 q409
  obtain rfl : ad398 = ad409 := (by injection e409)
  (try replace hx409_0 := zh hx409_0)
  replace hx409_1 := zh hx409_1
  replace hx409_2 := zh hx409_2
  have HR409_1 := qA0.mk hi409_1
  have HC409_1 := qA0.mk hl409_1
  clear hi409_1 hl409_1
  have HR409_2 := qA0.mk hi409_2
  have HC409_2 := qA0.mk hl409_2
  clear hi409_2 hl409_2
  replace p409 := eq_true p409
  replace q409 := eq_true q409
  have hnb50 := NB399_408.out
  have hnc50 := NB408_399.out
  obtain ⟨hcz51_0, hcz51_1, hcz51_2, hfz51_0, hfz51_1, hfz51_2⟩ := bc3 BK399.out
  go_wp2
  repeat (go_quiet (fail); try go_wp2)
  go_meet
  case rel => exact ⟨_, (!(Op.bytesLess (((qAH l1_2 (ji44)).f0).toList) ((qAH l1_2 x54_3).f0).toList)), (by first | rfl | (simp; done) | (simp only [← hji44] <;> (first | rfl | simp)) | (simp [*]; done)), H', ⟨by have := HJ4.out; have := HJ15.out; have := HK3.out; have := HJ27.out; first | omega | exact Nat.le_refl _⟩, ⟨zk BK395⟩, ⟨zk BK399⟩, ⟨zk BK408⟩, ⟨zb⟩⟩
 clear HC42
 obtain ⟨kq, x74_41, rfl, HA, HJ41, BK395, BK399, BK408, HB⟩ := hcut
 obtain _ | kj41 := kq
 ·exact absurd HA.out (by simp [qAV.j4])
 have H := HA.out
 clear HA
 simp only [qAV.j4] at H
 by_cases c52 : x74_41 = true
 ·subst c52
  rw [if_pos rfl] at H
  obtain rfl := Option.some.inj H
  go_wp2
  go_ret
  exact ⟨zf, zb⟩
 replace c52 := Bool.eq_false_iff.mpr c52
 subst c52
 rw [zj] at H
 by_cases c53 : (((qAH l1_2 x54_3).f1).length : Int) = (((qAH l1_2 x54_3).f2).length : Int)
 rotate_left
 ·rw [if_neg c53] at H
  have ⟨c53b0, c53b1⟩ := zn c53
  have c53b2 : (((qAH l1_2 x54_3).f1).length == ((qAH l1_2 x54_3).f2).length) = false := by first | simpa using c53 | (simp at c53 ⊢; omega)
  obtain rfl := Option.some.inj H
  have hnb73 := NB399_395.out
  have hnc73 := NB395_399.out
  have hnb74 := NB399_408.out
  have hnc74 := NB408_399.out
  obtain ⟨hcz75_0, hcz75_1, hcz75_2, hfz75_0, hfz75_1, hfz75_2⟩ := bc3 BK399.out
  go_wp2
  go_ret
  exact ⟨zf, zb⟩
 rw [if_pos c53] at H
 have ⟨c53b0, c53b1⟩ := ze c53
 have c53b2 : (((qAH l1_2 x54_3).f1).length == ((qAH l1_2 x54_3).f2).length) = true := by first | simpa using c53 | (simp at c53 ⊢; omega)
 clear c53
 replace H := zi H
 obtain ⟨t410, A540, H⟩ := H
 have A54 := qA0.mk A540
 clear A540
 by_cases c55 : t410 = true
 ·subst c55
  rw [if_pos rfl] at H
  obtain rfl := Option.some.inj H
  have hnb56 := NB399_395.out
  have hnc56 := NB395_399.out
  have hnb57 := NB399_408.out
  have hnc57 := NB408_399.out
  obtain ⟨hcz58_0, hcz58_1, hcz58_2, hfz58_0, hfz58_1, hfz58_2⟩ := bc3 BK399.out
  have hnb59 := NB408_395.out
  have hnc59 := NB395_408.out
  obtain ⟨hcz60_0, hcz60_1, hcz60_2, hcz60_3, hcz60_4, hcz60_5, hcz60_6, hfz60_0, hfz60_1, hfz60_2, hfz60_3, hfz60_4, hfz60_5, hfz60_6⟩ := bc7 BK408.out
  go_wp2_with ((go_at_call 24; (with_reducible refine (qDD.calls _ _ ((qAH l1_2 x54_3).f1) t403 t404 true _ ?side1 ?side2 A54.out ?box3 ?box4).mono ?_); (case box3 => exact (qA1 (zk BK408) 3).trans rfl); (case box4 => exact (qA1 (zk BK408) 4).trans rfl);  (case side1 => repeat (first | exact (Kd.qAE HR398_1.out HB.out) | refine sC ?_)); (case side2 => exact HC398_1.out); rintro e w' ⟨rfl, ⟨nd, rfl⟩⟩; (try first | exact ⟨rfl, _, World.drewN_drewN _ _ _⟩ | exact ⟨rfl, _, Eq.trans (World.drewN_drewN _ _ _) (congrArg (World.drewN _) (Nat.add_assoc _ _ _))⟩)))
  go_ret
  exact ⟨zf, zb⟩
 replace c55 := Bool.eq_false_iff.mpr c55
 subst c55
 rw [zj] at H
 replace H := zi H
 obtain ⟨t411, A610, H⟩ := H
 have A61 := qA0.mk A610
 clear A610
 by_cases c62 : t411 = 0
 rotate_left
 ·rw [if_neg c62] at H
  have ⟨c62b0, c62b1⟩ := zn c62
  obtain rfl := Option.some.inj H
  have hnb68 := NB399_395.out
  have hnc68 := NB395_399.out
  have hnb69 := NB399_408.out
  have hnc69 := NB408_399.out
  obtain ⟨hcz70_0, hcz70_1, hcz70_2, hfz70_0, hfz70_1, hfz70_2⟩ := bc3 BK399.out
  have hnb71 := NB408_395.out
  have hnc71 := NB395_408.out
  obtain ⟨hcz72_0, hcz72_1, hcz72_2, hcz72_3, hcz72_4, hcz72_5, hcz72_6, hfz72_0, hfz72_1, hfz72_2, hfz72_3, hfz72_4, hfz72_5, hfz72_6⟩ := bc7 BK408.out
  go_wp2_with (first | (go_at_call 24; (with_reducible refine (qDD.calls _ _ ((qAH l1_2 x54_3).f1) t403 t404 false _ ?side1 ?side2 A54.out ?box3 ?box4).mono ?_); (case box3 => exact (qA1 (zk BK408) 3).trans rfl); (case box4 => exact (qA1 (zk BK408) 4).trans rfl);  (case side1 => repeat (first | exact (Kd.qAE HR398_1.out HB.out) | refine sC ?_)); (case side2 => exact HC398_1.out); rintro e w' ⟨rfl, ⟨nd, rfl⟩⟩; (try first | exact ⟨rfl, _, World.drewN_drewN _ _ _⟩ | exact ⟨rfl, _, Eq.trans (World.drewN_drewN _ _ _) (congrArg (World.drewN _) (Nat.add_assoc _ _ _))⟩)) | (go_at_call 22; (with_reducible refine (qBT.calls kj41 _ _ ((qAH l1_2 x54_3).f2) t411 _ ?side1 ?side2 A61.out).mono ?_); (case side1 => repeat (first | exact (Kd.qAE HR398_2.out zb) | refine sC ?_)); (case side2 => exact HC398_2.out); rintro e w' ⟨rfl, ⟨nd, rfl⟩⟩; (try first | exact ⟨rfl, _, World.drewN_drewN _ _ _⟩ | exact ⟨rfl, _, Eq.trans (World.drewN_drewN _ _ _) (congrArg (World.drewN _) (Nat.add_assoc _ _ _))⟩)))
  go_ret
  exact ⟨zf, zb⟩
 rw [if_pos c62] at H
 have ⟨c62b0, c62b1⟩ := ze c62
 clear c62
 have H' := qA0.mk H
 clear H
 have hnb63 := NB399_395.out
 have hnc63 := NB395_399.out
 have hnb64 := NB399_408.out
 have hnc64 := NB408_399.out
 obtain ⟨hcz65_0, hcz65_1, hcz65_2, hfz65_0, hfz65_1, hfz65_2⟩ := bc3 BK399.out
 have hnb66 := NB408_395.out
 have hnc66 := NB395_408.out
 obtain ⟨hcz67_0, hcz67_1, hcz67_2, hcz67_3, hcz67_4, hcz67_5, hcz67_6, hfz67_0, hfz67_1, hfz67_2, hfz67_3, hfz67_4, hfz67_5, hfz67_6⟩ := bc7 BK408.out
 go_wp2_with (first | (go_at_call 24; (with_reducible refine (qDD.calls _ _ ((qAH l1_2 x54_3).f1) t403 t404 false _ ?side1 ?side2 A54.out ?box3 ?box4).mono ?_); (case box3 => exact (qA1 (zk BK408) 3).trans rfl); (case box4 => exact (qA1 (zk BK408) 4).trans rfl);  (case side1 => repeat (first | exact (Kd.qAE HR398_1.out HB.out) | refine sC ?_)); (case side2 => exact HC398_1.out); rintro e w' ⟨rfl, ⟨nd, rfl⟩⟩; (try first | exact ⟨rfl, _, World.drewN_drewN _ _ _⟩ | exact ⟨rfl, _, Eq.trans (World.drewN_drewN _ _ _) (congrArg (World.drewN _) (Nat.add_assoc _ _ _))⟩)) | (go_at_call 22; (with_reducible refine (qBT.calls kj41 _ _ ((qAH l1_2 x54_3).f2) t411 _ ?side1 ?side2 A61.out).mono ?_); (case side1 => repeat (first | exact (Kd.qAE HR398_2.out zb) | refine sC ?_)); (case side2 => exact HC398_2.out); rintro e w' ⟨rfl, ⟨nd, rfl⟩⟩; (try first | exact ⟨rfl, _, World.drewN_drewN _ _ _⟩ | exact ⟨rfl, _, Eq.trans (World.drewN_drewN _ _ _) (congrArg (World.drewN _) (Nat.add_assoc _ _ _))⟩)))
 go_roundg kj41
 case measure => have := HJ4.out; have := HJ15.out; have := HK3.out; have := HJ27.out; have := HJ41.out; omega
 case rel => exact ⟨(wrap64 (x54_3 + 1)), zs, H', ⟨by have := HJ4.out; have := HJ15.out; have := HK3.out; have := HJ27.out; have := HJ41.out; omega⟩, ⟨zk BK395⟩, ⟨zb⟩⟩
end
end Go.Proofs.YtpafpefealopoaaGreat.PPopMakes
end
