/- A part of the proof of RatePuts: texts that were printed, words, walks. No condition. -/
import Derived.Test.YtfnejdbjekkadaaGreatC1
import Derived.Test.YtfnejdbjekkadaaGreatProg
import Derived.Shelf.Small.Bits
import Derived.Shelf.Strconv.Itoa0
import Derived.Shelf.Sort.Plain
import Derived.Shelf.Slices.CompactS
import Derived.Shelf.Slices.Cells
import Derived.Shelf.Slices.In.SortNone
import Derived.Handy
import Derived.Maps.OwnOps
import Derived.Maps.RangeWalk
import Derived.Laws.EntriesVeiled
import Derived.DeepKeys4
import Derived.MapViews
import Derived.Deep.RegionHeld3
import Derived.Maps.AppendAt
set_option linter.unusedVariables false
set_option linter.unusedSimpArgs false
section
namespace Go.Proofs
open Go.Shelf
def Tryz.lays190_ren : Go.Shelf.Ren := ⟨fun | 190 => 76 | 125 => 98 | 258 => 97 | 128 => 113 | 129 => 114 | 302 => 105 | 303 => 106 | 304 => 107 | 305 => 108 | 306 => 109 | 307 => 110 | 308 => 87 | 309 => 111 | 310 => 112 | 333 => 116 | 329 => 117 | 330 => 118 | 334 => 119 | 335 => 120 | 336 => 99 | 344 => 121 | n => n, fun | 31 => 65 | 9 => 9 | 3 => 3 | 46 => 166 | 0 => 0 | 51 => 187 | 53 => 189 | 4 => 4 | 183 => 181 | 182 => 180 | 131 => 133 | 5 => 5 | 218 => 191 | 222 => 40 | 228 => 196 | 229 => 130 | n => n, fun | n => n⟩
theorem Tryz.lays190 : Go.Proofs.Lays.n190 Tryz.prog Tryz.lays190_ren := {
 mixed := by kernel_rfl
 f125 := Tryz.func98.trans (congrArg some (by kernel_rfl))
 f128 := Tryz.func113.trans (congrArg some (by kernel_rfl))
 f129 := Tryz.func114.trans (congrArg some (by kernel_rfl))
 f190 := Tryz.func76.trans (congrArg some (by kernel_rfl))
 f258 := Tryz.func97.trans (congrArg some (by kernel_rfl))
 f302 := Tryz.func105.trans (congrArg some (by kernel_rfl))
 f303 := Tryz.func106.trans (congrArg some (by kernel_rfl))
 f304 := Tryz.func107.trans (congrArg some (by kernel_rfl))
 f305 := Tryz.func108.trans (congrArg some (by kernel_rfl))
 f306 := Tryz.func109.trans (congrArg some (by kernel_rfl))
 f307 := Tryz.func110.trans (congrArg some (by kernel_rfl))
 f308 := Tryz.func87.trans (congrArg some (by kernel_rfl))
 f309 := Tryz.func111.trans (congrArg some (by kernel_rfl))
 f310 := Tryz.func112.trans (congrArg some (by kernel_rfl))
 f329 := Tryz.func117.trans (congrArg some (by kernel_rfl))
 f330 := Tryz.func118.trans (congrArg some (by kernel_rfl))
 f333 := Tryz.func116.trans (congrArg some (by kernel_rfl))
 f334 := Tryz.func119.trans (congrArg some (by kernel_rfl))
 f335 := Tryz.func120.trans (congrArg some (by kernel_rfl))
 f336 := Tryz.func99.trans (congrArg some (by kernel_rfl))
 f344 := Tryz.func121.trans (congrArg some (by kernel_rfl))
 t0 := Tryz.underlying0
 a0 := Tryz.isAgg0
 z0 := Tryz.sizeOf0
 v0 := Tryz.zeroValue0
 t3 := Tryz.underlying3
 a3 := Tryz.isAgg3
 z3 := Tryz.sizeOf3
 v3 := Tryz.zeroValue3
 t4 := Tryz.underlying4
 a4 := Tryz.isAgg4
 z4 := Tryz.sizeOf4
 v4 := Tryz.zeroValue4
 t5 := Tryz.underlying5
 a5 := Tryz.isAgg5
 z5 := Tryz.sizeOf5
 v5 := Tryz.zeroValue5
 t9 := Tryz.underlying9
 a9 := Tryz.isAgg9
 z9 := Tryz.sizeOf9
 v9 := Tryz.zeroValue9
 t31 := Tryz.underlying65
 a31 := Tryz.isAgg65
 z31 := Tryz.sizeOf65
 v31 := Tryz.zeroValue65
 t46 := Tryz.underlying166
 a46 := Tryz.isAgg166
 z46 := Tryz.sizeOf166
 v46 := Tryz.zeroValue166
 t51 := Tryz.underlying187
 a51 := Tryz.isAgg187
 z51 := Tryz.sizeOf187
 v51 := Tryz.zeroValue187
 t53 := Tryz.underlying189
 a53 := Tryz.isAgg189
 z53 := Tryz.sizeOf189
 v53 := Tryz.zeroValue189
 t131 := Tryz.underlying133
 a131 := Tryz.isAgg133
 z131 := Tryz.sizeOf133
 v131 := Tryz.zeroValue133
 t182 := Tryz.underlying180
 a182 := Tryz.isAgg180
 z182 := Tryz.sizeOf180
 v182 := Tryz.zeroValue180
 t183 := Tryz.underlying181
 a183 := Tryz.isAgg181
 z183 := Tryz.sizeOf181
 v183 := Tryz.zeroValue181
 t218 := Tryz.underlying191
 a218 := Tryz.isAgg191
 z218 := Tryz.sizeOf191
 v218 := Tryz.zeroValue191
 t222 := Tryz.underlying40
 a222 := Tryz.isAgg40
 z222 := Tryz.sizeOf40
 v222 := Tryz.zeroValue40
 t228 := Tryz.underlying196
 a228 := Tryz.isAgg196
 z228 := Tryz.sizeOf196
 v228 := Tryz.zeroValue196
 t229 := Tryz.underlying130
 a229 := Tryz.isAgg130
 z229 := Tryz.sizeOf130
 v229 := Tryz.zeroValue130 }
open Go.Sort Go.RowKit in
theorem Tryz.slices_Sort_string (blk off cap : Nat) (ss : List (List UInt8)) (w : World) (hH : Holds encStr w blk off ss.toArray) (hblk : blk < w.heap.size) (hsz : ss.length < 4611686018427387904) :
  Calls Tryz.prog 76 #[.slice (some ⟨blk, off, none⟩) ss.length cap] w fun e w' =>
   e = .returned (.tuple #[]) ∧ ∃ n os, w' = grow (putRow encStr (Sort.ahead w n) blk off (ss.mergeSort fun x y => decide (x ≤ y)).toArray) os := Any.slices_Sort_string Tryz.lays190 blk off cap ss w hH hblk hsz
def Tryz.lays194_ren : Go.Shelf.Ren := ⟨fun | 194 => 77 | n => n, fun | 31 => 65 | 9 => 9 | 3 => 3 | 4 => 4 | 0 => 0 | n => n, fun | n => n⟩
theorem Tryz.lays194 : Go.Proofs.Lays.n194 Tryz.prog Tryz.lays194_ren := {
 mixed := by kernel_rfl
 f194 := Tryz.func77.trans (congrArg some (by kernel_rfl))
 t0 := Tryz.underlying0
 a0 := Tryz.isAgg0
 z0 := Tryz.sizeOf0
 v0 := Tryz.zeroValue0
 t3 := Tryz.underlying3
 a3 := Tryz.isAgg3
 z3 := Tryz.sizeOf3
 v3 := Tryz.zeroValue3
 t4 := Tryz.underlying4
 a4 := Tryz.isAgg4
 z4 := Tryz.sizeOf4
 v4 := Tryz.zeroValue4
 t9 := Tryz.underlying9
 a9 := Tryz.isAgg9
 z9 := Tryz.sizeOf9
 v9 := Tryz.zeroValue9
 t31 := Tryz.underlying65
 a31 := Tryz.isAgg65
 z31 := Tryz.sizeOf65
 v31 := Tryz.zeroValue65 }
open Go.RowKit Go.Lib Go.Sort in
theorem Tryz.slices_Compact_string (blk off cap : Nat) (zs : List (List UInt8)) (w : World) (hH : Holds encStr w blk off zs.toArray) (hsz : zs.length ≤ 9223372036854775807) (hcap : zs.length ≤ cap) :
  Calls Tryz.prog 77 #[.slice (some ⟨blk, off, none⟩) zs.length cap] w fun e w' => e = .returned (.slice (some ⟨blk, off, none⟩) (Lib.compact zs).length cap) ∧ ∃ q, w' = putRow encStr (Sort.ahead w q) blk off (Lib.compact zs ++ List.replicate (zs.length - (Lib.compact zs).length) []).toArray := Any.slices_Compact_string Tryz.lays194 blk off cap zs w hH hsz hcap
open Go.RowKit Go.Lib Go.Sort in
theorem Tryz.slices_Compact_string_empty (a : Option Addr) (cap : Nat) (w : World) :
  Calls Tryz.prog 77 #[.slice a 0 cap] w fun e w' => e = .returned (.slice a 0 cap) ∧ w' = w := Any.slices_Compact_string_empty Tryz.lays194 a cap w
open Go.RowKit Go.Sort in
theorem Tryz.slices_Sort_string_none (p : Option Addr) (cap : Nat) (w : World) :
  Calls Tryz.prog 76 #[.slice p 0 cap] w fun e w' => e = .returned (.tuple #[]) ∧ w' = w := Any.slices_Sort_string_none Tryz.lays190 p cap w
end Go.Proofs
end
section
namespace Go.Proofs.YtfnejdbjekkadaaGreat.Dfs
variable {T : Type} {next : T → List T}
def reachN (next : T → List T) : Nat → T → T → Prop
 | 0, x, y => x = y
 | n + 1, x, z => ∃ y, y ∈ next x ∧ reachN next n y z
def Reach (next : T → List T) (x y : T) : Prop := ∃ n, reachN next n x y
def Cyc (next : T → List T) (x : T) : Prop := ∃ y z, Reach next x y ∧ z ∈ next y ∧ Reach next z y
theorem Reach.refl (x : T) : Reach next x x := ⟨0, rfl⟩
theorem Reach.step {x y z : T} (h : y ∈ next x) (r : Reach next y z) : Reach next x z := by
 obtain ⟨n, r⟩ := r
 exact ⟨n + 1, y, h, r⟩
theorem reachN_trans : ∀ (n : Nat) {x y z : T}, reachN next n x y → Reach next y z → Reach next x z
 | 0, x, y, z, h, r => by cases h; exact r
 | n + 1, x, y, z, ⟨u, hu, h⟩, r => Reach.step hu (reachN_trans n h r)
theorem Reach.trans {x y z : T} (h : Reach next x y) (r : Reach next y z) : Reach next x z := by
 obtain ⟨n, h⟩ := h
 exact reachN_trans n h r
theorem Cyc.step {x y : T} (h : y ∈ next x) (c : Cyc next y) : Cyc next x := by
 obtain ⟨u, z, r, hz, rz⟩ := c
 exact ⟨u, z, Reach.step h r, hz, rz⟩
structure Inv (next : T → List T) (s : T → Int) : Prop where
 val : ∀ x, s x = 0 ∨ s x = 1 ∨ s x = 2
 done : ∀ x, s x = 2 → ¬ Cyc next x ∧ ∀ y, y ∈ next x → s y = 2
def Path (next : T → List T) (s : T → Int) (x : T) : Prop := ∀ y, s y = 1 → ∃ z, z ∈ next y ∧ Reach next z x
structure Post (s t : T → Int) : Prop where
 keep : ∀ y, s y ≠ 0 → t y = s y
 ones : ∀ y, t y = 1 → s y = 1
theorem Post.refl (s : T → Int) : Post s s := ⟨fun _ _ => rfl, fun _ h => h⟩
theorem Post.trans {s t u : T → Int} (h : Post s t) (k : Post t u) : Post s u :=
 ⟨fun y hy => by have h1 := h.keep y hy; rw [k.keep y (by rw [h1]; exact hy), h1], fun y hy => h.ones y (k.ones y hy)⟩
def upd [DecidableEq T] (s : T → Int) (x : T) (v : Int) : T → Int := fun y => if y = x then v else s y
def zeros (U : List T) (s : T → Int) : Nat := U.countP fun x => s x == 0
theorem zeros_le (U : List T) {s t : T → Int} (h : ∀ y, s y ≠ 0 → t y ≠ 0) : zeros U t ≤ zeros U s :=
 List.countP_mono_left fun x _ hx => by
  rw [beq_iff_eq] at hx ⊢
  exact Decidable.byContradiction fun hn => h x hn hx
theorem zeros_lt [DecidableEq T] : ∀ (U : List T) {s : T → Int} {x : T}, x ∈ U → s x = 0 → ∀ {v : Int}, v ≠ 0 → zeros U (upd s x v) < zeros U s
 | [], s, x, h, _, v, _ => by cases h
 | u :: U, s, x, h, h0, v, hv => by
  have hle : zeros U (upd s x v) ≤ zeros U s := zeros_le U fun y hy => by
   unfold upd
   split
   ·exact hv
   ·exact hy
  unfold zeros at hle ⊢
  rw [List.countP_cons, List.countP_cons]
  by_cases e : u = x
  ·subst e
   have e1 : (upd s u v u == 0) = false := by simp [upd, hv]
   have e2 : (s u == 0) = true := by simp [h0]
   simp only [e1, e2]
   simp
   omega
  ·have hx : x ∈ U := by
    rcases List.mem_cons.1 h with h | h
    ·exact absurd h.symm e
    ·exact h
   have := zeros_lt U hx h0 hv
   unfold zeros at this
   have e1 : upd s x v u = s u := by simp [upd, e]
   rw [e1]
   omega
theorem begun [DecidableEq T] {s : T → Int} {x : T} (hI : Inv next s) (h0 : s x = 0) : Inv next (upd s x 1) := by
 refine ⟨fun y => ?_, fun y hy => ?_⟩
 ·unfold upd
  split
  ·exact .inr (.inl rfl)
  ·exact hI.val y
 ·have hyx : y ≠ x := fun e => by subst e; simp [upd] at hy
  have hy2 : s y = 2 := by simpa [upd, hyx] using hy
  refine ⟨(hI.done y hy2).1, fun z hz => ?_⟩
  have h2 := (hI.done y hy2).2 z hz
  have hzx : z ≠ x := fun e => by subst e; omega
  simpa [upd, hzx] using h2
theorem path_next [DecidableEq T] {s t : T → Int} {x y : T} (hP : Path next s x) (ht : Post (upd s x 1) t) (hy : y ∈ next x) : Path next t y := fun u hu => by
 have h1 := ht.ones u hu
 by_cases e : u = x
 ·subst e
  exact ⟨y, hy, Reach.refl y⟩
 ·rw [show upd s x 1 u = s u from by simp [upd, e]] at h1
  obtain ⟨z, hz, r⟩ := hP u h1
  exact ⟨z, hz, r.trans (Reach.step hy (Reach.refl y))⟩
theorem reachN_done {t : T → Int} (hI : Inv next t) : ∀ (n : Nat) {u v : T}, t u = 2 → reachN next n u v → t v = 2
 | 0, u, v, h, e => by cases e; exact h
 | n + 1, u, v, h, ⟨z, hz, r⟩ => reachN_done hI n ((hI.done u h).2 z hz) r
theorem ended [DecidableEq T] {t : T → Int} {x : T} (hI : Inv next t) (h1 : t x = 1) (hall : ∀ y, y ∈ next x → t y = 2) : Inv next (upd t x 2) := by
 have hno : ¬ Cyc next x := by
  rintro ⟨y, z, ⟨n, r⟩, hz, ⟨m, rz⟩⟩
  cases n with
  | zero =>
   cases r
   have := reachN_done hI m (hall z hz) rz
   omega
  | succ n =>
   obtain ⟨u, hu, r⟩ := r
   exact (hI.done u (hall u hu)).1 ⟨y, z, ⟨n, r⟩, hz, ⟨m, rz⟩⟩
 refine ⟨fun y => ?_, fun y hy => ?_⟩
 ·unfold upd
  split
  ·exact .inr (.inr rfl)
  ·exact hI.val y
 ·have key : ∀ z, t z = 2 → upd t x 2 z = 2 := fun z hz => by
   unfold upd
   split
   ·rfl
   ·exact hz
  by_cases e : y = x
  ·subst e
   exact ⟨hno, fun z hz => key z (hall z hz)⟩
  ·have hy2 : t y = 2 := by simpa [upd, e] using hy
   exact ⟨(hI.done y hy2).1, fun z hz => key z ((hI.done y hy2).2 z hz)⟩
theorem post_end [DecidableEq T] {s t : T → Int} {x : T} (h0 : s x = 0) (ht : Post (upd s x 1) t) : Post s (upd t x 2) := by
 refine ⟨fun y hy => ?_, fun y hy => ?_⟩
 ·have e : y ≠ x := fun e => by subst e; exact hy h0
  rw [show upd t x 2 y = t y from by simp [upd, e], ht.keep y (by simpa [upd, e] using hy)]
  simp [upd, e]
 ·have e : y ≠ x := fun e => by subst e; simp [upd] at hy
  have := ht.ones y (by simpa [upd, e] using hy)
  simpa [upd, e] using this
end Go.Proofs.YtfnejdbjekkadaaGreat.Dfs
end
section
namespace Go.Proofs.YtfnejdbjekkadaaGreat.PRatePuts
noncomputable section
open Go.RowKit Go.Proofs.YtfnejdbjekkadaaGreatW.PrintWords Go.Proofs.YtfnejdbjekkadaaGreatW.PrintLast Go.Proofs.YtfnejdbjekkadaaGreatW.PrintMore
set_option maxHeartbeats 8000000
set_option maxRecDepth 100000
theorem laidOut : laidOutB Tryz.prog = true := by kernel_rfl
theorem row58 : (59 : TypeId) < Tryz.prog.types.size := of_decide_eq_true (by kernel_rfl)
theorem wide58 : (match Tryz.prog.underlying 59 with | some (.array _ _) | some (.struct _) => true | _ => false) = true := by kernel_rfl
theorem keyed58 : Maps.Keyed Tryz.prog 59 := Maps.Keyed.of_law (deep_law_laid laidOut (m := 3) (by omega) row58 (by kernel_rfl) wide58)
theorem cells58 : Tryz.prog.cellsOf 59 = 2 := by kernel_rfl
theorem cells9 : Tryz.prog.cellsOf 9 = 1 := by kernel_rfl
theorem key58t : Tryz.prog.keyType 59 = true := by kernel_rfl
def keyL (x : S59) : Lit := .string (keyBytes [.string x.f0.data.toList, .string x.f1.data.toList])
theorem key58 (x : S59) (h : x.f0.size ≤ maxLen ∧ x.f1.size ≤ maxLen) : keyOf Tryz.prog 59 (.agg #[.string x.f0, .string x.f1]) = some (keyL x) := by
 obtain ⟨a, b⟩ := x
 obtain ⟨ha, hb⟩ := h
 have hu := Tryz.underlying59
 have hf : (Value.agg #[.string a, .string b]).formed Tryz.prog 59 = true := by simp [Value.formed, hu, cells58]
 obtain ⟨m, hm⟩ : ∃ m, Tryz.prog.types.size = m + 1 := by
  have h : (59 : Nat) < Tryz.prog.types.size := row58
  exact ⟨Tryz.prog.types.size - 1, by omega⟩
 have hc9 : ∀ q : ByteArray, q.size ≤ maxLen → Tryz.prog.keyLits (m + 1) 9 [.string q] = some [.string q.data.toList] := fun q hq => by
  unfold Program.keyLits
  simp [Tryz.underlying9, hq]
 have hk : Tryz.prog.keyLits (m + 1 + 1) 59 [.string a, .string b] = some [.string a.data.toList, .string b.data.toList] := by
  unfold Program.keyLits
  simp [hu, cells58, cells9, hc9 a ha, hc9 b hb]
 unfold keyOf keyL
 rw [hu]
 simp [key58t, hf, hm, hk, Value.cells]
theorem key58_inj {x y : S59} (hx : x.f0.size ≤ maxLen ∧ x.f1.size ≤ maxLen) (hy : y.f0.size ≤ maxLen ∧ y.f1.size ≤ maxLen) (e : keyL x = keyL y) : x = y := by
 have := keyed58.inj (key58 x hx) (e ▸ key58 y hy)
 obtain ⟨a, b⟩ := x
 obtain ⟨c, d⟩ := y
 simp at this
 rw [this.1, this.2]
instance decS58 : DecidableEq S59 := fun a b => if h : a.f0 = b.f0 ∧ a.f1 = b.f1 then isTrue (by cases a; cases b; simp at h; rw [h.1, h.2]) else isFalse (fun e => h (by rw [e]; exact ⟨rfl, rfl⟩))
structure qCZ.St (W : World) (b n : Nat) (s : S59 → Int) : Prop where
 own : ∃ D, W.ownsMap (H := Unit) Tryz.prog 59 (plainElem Tryz.prog 3) b n D ∧ ∀ x : S59, (x.f0.size ≤ maxLen ∧ x.f1.size ≤ maxLen) → D.atKey (keyL x) (.lit (.int .i64 0)) = .lit (.int .i64 (s x))
theorem qCZ.St.look {W : World} {b n : Nat} {s : S59 → Int} (h : qCZ.St W b n s) {x : S59} (hx : (x.f0.size ≤ maxLen ∧ x.f1.size ≤ maxLen)) : (Instr.lookup 117 (.map (some b)) (.agg #[.string x.f0, .string x.f1]) false).run Tryz.prog W = .ok (.int .i64 (s x)) W := by
 obtain ⟨D, own, at_⟩ := h.own
 obtain ⟨c, hrun, hat, _⟩ := own.lookup_int keyed58 Tryz.underlying117 Tryz.underlying3 (Tryz.zeroValue3 W) (key58 x hx)
 rw [at_ x hx] at hat
 have hat2 := (Lit.int.inj (DataW.lit.inj hat)).2
 rw [hrun, ← hat2]
theorem qCZ.St.put {W : World} {b n : Nat} {s : S59 → Int} (h : qCZ.St W b n s) (hn : n < maxLen) {x : S59} (hx : (x.f0.size ≤ maxLen ∧ x.f1.size ≤ maxLen)) {v : Int} (hv : (Lit.int .i64 v).wf = true) :
  ∃ W2, (Instr.mapUpdate 117 (.map (some b)) (.agg #[.string x.f0, .string x.f1]) (.int .i64 v)).run Tryz.prog W = .ok () W2 ∧ qCZ.St W2 b (n + 1) (Dfs.upd s x v) ∧ W.grownBy W2 (some b) := by
 obtain ⟨D, own, at_⟩ := h.own
 obtain ⟨W2, hrun, ho, hg⟩ := own.update keyed58 Tryz.underlying117 hn (key58 x hx) (val := .int .i64 v) (d := .lit (.int .i64 v)) (ps := []) (plainElem_int Tryz.underlying3 hv)
 refine ⟨W2, hrun, ⟨_, ho, fun y hy => ?_⟩, hg⟩
 by_cases e : y = x
 ·subst e
  rw [Maps.atKey_put_same own.isMap (keyed58.key (key58 y hy))]
  simp [Dfs.upd]
 ·rw [Maps.atKey_put_other (fun e' => e (key58_inj hy hx e')), at_ y hy]
  simp [Dfs.upd, e]
theorem qCZ.St.kept {W W' : World} {b n : Nat} {s : S59 → Int} {row : Option Nat} (h : qCZ.St W b n s) (hg : W.grownBy W' row) (hne : some b ≠ row) : qCZ.St W' b n s := by
 obtain ⟨D, own, at_⟩ := h.own
 exact ⟨D, own.kept hg hne, at_⟩
theorem qCZ.St.blk {W : World} {b n : Nat} {s : S59 → Int} (h : qCZ.St W b n s) : ∃ es c, W.heap[b]? = some (.map es c) := by
 obtain ⟨D, ⟨es, c, hb, _⟩, _⟩ := h.own
 exact ⟨es, c, hb⟩
structure qCZ.Env (W : World) (bS bN bW bM : Nat) (gp : Addr) : Prop where
 s : W.heap[bS]? = some (.cells #[.map (some bM)] 117 (0, 0))
 x : W.heap[bN]? = some (.cells #[.func (.func 19) #[] #[.pointer (some gp)]] 62 (0, 0))
 k : W.heap[bW]? = some (.cells #[.func (.func 50) #[] #[.pointer (some ⟨bS, 0, none⟩), .pointer (some ⟨bN, 0, none⟩), .pointer (some ⟨bW, 0, none⟩)]] 118 (0, 0))
theorem qCZ.Env.kept {W W' : World} {bS bN bW bM n : Nat} {gp : Addr} {s : S59 → Int} (h : qCZ.Env W bS bN bW bM gp) (hs : qCZ.St W bM n s) (hg : W.grownBy W' (some bM)) : qCZ.Env W' bS bN bW bM gp := by
 obtain ⟨es, c, hb⟩ := hs.blk
 exact ⟨qAF h.s hg (fun e => by have := zy e; subst this; have := hb.symm.trans h.s; cases this), qAF h.x hg (fun e => by have := zy e; subst this; have := hb.symm.trans h.x; cases this), qAF h.k hg (fun e => by have := zy e; subst this; have := hb.symm.trans h.k; cases this)⟩
structure qCZ.Ctx (w : World) (next : S59 → List S59) (U : List S59) (gp : Addr) : Prop where
 cl : ∀ x, ∀ y ∈ next x, y ∈ U
 ok : ∀ x ∈ U, (x.f0.size ≤ maxLen ∧ x.f1.size ≤ maxLen)
 nx : ∀ W, Below w.heap.size w W → ∀ x ∈ U, Calls Tryz.prog 19 #[.agg #[.string x.f0, .string x.f1], .pointer (some gp)] W fun e W' => ∃ A c, e = .returned (.slice A (next x).length c) ∧ (next x).length ≤ c ∧ Kd.C k59 W' A (next x).length (next x) ∧ Below W.heap.size W W'
theorem qCZ.cell_kept {W W' : World} {b n : Nat} {s : S59 → Int} (h : qCZ.St W b n s) (hg : W.grownBy W' (some b)) {a : Addr} {v : Value} (hc : W.cell? a = some v) : W'.cell? a = some v := by
 obtain ⟨es, c, hb⟩ := h.blk
 have hlt := World.block_lt_of_cell? W a hc
 have hne : a.block ≠ b := fun e => by simp [World.cell?, e, hb] at hc
 have := hg.block a.block hlt (fun e => hne (zy e))
 simpa [World.cell?, this] using hc
abbrev qCZ.Res (U : List S59) (next : S59 → List S59) (bM M : Nat) (s : S59 → Int) (x : S59) (W : World) (e : Ending) (W' : World) : Prop := ∃ b, e = .returned (.bool b) ∧ W.grownBy W' (some bM) ∧ (b = true → Dfs.Cyc next x) ∧
   (b = false → ∃ (t : S59 → Int) (n' : Nat), qCZ.St W' bM n' t ∧ n' + 2 * Dfs.zeros U t ≤ M ∧ Dfs.Inv next t ∧ Dfs.Post s t ∧ t x = 2)
theorem qCZ.walkA (next : S59 → List S59) (U : List S59) (gp : Addr) (bS bN bW bM : Nat) (s : S59 → Int) (n M : Nat) (x : S59) (W : World) (hM : n + 2 * Dfs.zeros U s ≤ M) (HE : qCZ.Env W bS bN bW bM gp) (HS : qCZ.St W bM n s) (hI : Dfs.Inv next s) (hP : Dfs.Path next s x) (hx : (x.f0.size ≤ maxLen ∧ x.f1.size ≤ maxLen)) (h0 : s x ≠ 0) :
  Calls Tryz.prog 50 #[.agg #[.string x.f0, .string x.f1], .pointer (some ⟨bS, 0, none⟩), .pointer (some ⟨bN, 0, none⟩), .pointer (some ⟨bW, 0, none⟩)] W fun e W' => qCZ.Res U next bM M s x W e W' := by
 have hgb : W.grownBy (W.alloc (.cells #[.string x.f0, .string x.f1] 59)) (some bM) := World.grownBy_alloc W _ (some bM)
 have HS1 := HS.kept (row := none) (World.grownBy_alloc W (.cells #[.string x.f0, .string x.f1] 59) none) (by simp)
 have hS : ((W.alloc (.cells #[.string x.f0, .string x.f1] 59))).cell? ⟨bS, 0, none⟩ = some (.map (some bM)) := (qA1 (HE.kept HS hgb).s 0).trans rfl
 have hl := HS1.look hx
 have HS' := zq HS1
 have HG := zq hgb
 have HI := zq hI
 clear HS1 hgb hI HE
 have hv := HI.out.val x
 by_cases h1 : s x = 1
 rotate_left
 ·have h2 : s x = 2 := by omega
  have H2 := zq h2
  rw [h2] at hl
  clear hP h1 h0 hv h2
  go_enter Tryz.func50, Tryz.ntmps50
  go_wp2_with fail
  go_ret
  exact ⟨false, by simp, HG.out, (fun h => by cases h), fun _ => ⟨s, n, HS'.out, hM, HI.out, Dfs.Post.refl s, H2.out⟩⟩
 obtain ⟨z, hz, r⟩ := hP x h1
 have HCy := zq (show Dfs.Cyc next x from ⟨x, z, Dfs.Reach.refl x, hz, r⟩)
 rw [h1] at hl
 clear hP h1 h0 hv hz r
 go_enter Tryz.func50, Tryz.ntmps50
 go_wp2_with fail
 go_ret
 exact ⟨true, by simp, HG.out, fun _ => HCy.out, (fun h => by cases h)⟩
theorem qCZ.walk (w : World) (next : S59 → List S59) (U : List S59) (gp : Addr) (X : qCZ.Ctx w next U gp) (bS bN bW bM : Nat) (hM0 : w.heap.size ≤ bM) : ∀ (m : Nat) (s : S59 → Int) (n M : Nat) (x : S59) (W : World), Dfs.zeros U s ≤ m → M < maxLen → n + 2 * Dfs.zeros U s ≤ M → qCZ.Env W bS bN bW bM gp → qCZ.St W bM n s → Below w.heap.size w W → Dfs.Inv next s → Dfs.Path next s x → x ∈ U →
  Calls Tryz.prog 50 #[.agg #[.string x.f0, .string x.f1], .pointer (some ⟨bS, 0, none⟩), .pointer (some ⟨bN, 0, none⟩), .pointer (some ⟨bW, 0, none⟩)] W fun e W' => qCZ.Res U next bM M s x W e W' := by
 intro m
 induction m with
 | zero =>
  intro s n M x W hm hM hn HE HS hB hI hP hx
  refine qCZ.walkA next U gp bS bN bW bM s n M x W hn HE HS hI hP (X.ok x hx) (fun h0 => ?_)
  have := Dfs.zeros_lt U hx h0 (v := 1) (by decide)
  omega
 | succ m ih =>
  intro s n M x W hm hM hn HE HS hB hI hP hx
  by_cases h0 : s x = 0
  case neg => exact qCZ.walkA next U gp bS bN bW bM s n M x W hn HE HS hI hP (X.ok x hx) h0
  have hz1 := Dfs.zeros_lt U hx h0 (v := 1) (by decide)
  have hxo := X.ok x hx
  have hgb : W.grownBy (W.alloc (.cells #[.string x.f0, .string x.f1] 59)) (some bM) := World.grownBy_alloc W _ (some bM)
  have HE1 := HE.kept HS hgb
  have HS1 := HS.kept (row := none) (World.grownBy_alloc W (.cells #[.string x.f0, .string x.f1] 59) none) (by simp)
  have hS : ((W.alloc (.cells #[.string x.f0, .string x.f1] 59))).cell? ⟨bS, 0, none⟩ = some (.map (some bM)) := (qA1 HE1.s 0).trans rfl
  have hl := HS1.look hxo
  rw [h0] at hl
  obtain ⟨W2, hup, HS2, hg2⟩ := HS1.put (by omega : n < maxLen) hxo (v := 1) (by decide)
  have HE2 := HE1.kept HS1 hg2
  have hg02 := hgb.trans hg2
  have hB2 : Below w.heap.size w W2 := qBI hB (some bM) hB.size hg02 (fun k e => by obtain rfl := zy e; exact hM0)
  have hK2 : W2.heap[W.heap.size]? = some (.cells #[.string x.f0, .string x.f1] 59 (0, 0)) := qAF (heap_alloc_new W _) hg2 (by have := HS.own; obtain ⟨D, own, _⟩ := this; have := own.lt; simp; omega)
  have hx20 : W2.cell? ⟨W.heap.size, 0, none⟩ = some (.string x.f0) := (qA1 hK2 0).trans rfl
  have hx21 : W2.cell? ⟨W.heap.size, 1, none⟩ = some (.string x.f1) := (qA1 hK2 1).trans rfl
  have HK2 := zq hK2
  have hbM : bM ≠ W.heap.size := by have := HS.own; obtain ⟨D, own, _⟩ := this; have := own.lt; omega
  clear hK2
  have hN2 : W2.cell? ⟨bN, 0, none⟩ = some (.func (.func 19) #[] #[.pointer (some gp)]) := (qA1 HE2.x 0).trans rfl
  have HXN := zq (X.nx W2 hB2 x hx)
  have HI1 := zq (Dfs.begun hI h0)
  have HP := zq hP
  have H0 := zq h0
  have HS2' := zq HS2
  have HE2' := zq HE2
  have HG02 := zq hg02
  have HB2 := zq hB2
  have HX := zq X
  have HIH := zq ih
  clear ih X HS HE HE1 HS1 HS2 HE2 hg2 hgb hg02 hB2 hI hP h0 hB
  go_enter Tryz.func50, Tryz.ntmps50
  go_wp2_with fail
  refine HXN.out.mono ?_
  rintro e W3 ⟨A, c, rfl, hlc, hC, hb3⟩
  have hg3 := qAN hb3 (some bM)
  have HS3 := zq (HS2'.out.kept (qAN hb3 none) (by simp))
  have HE3 := zq (HE2'.out.kept HS2'.out hg3)
  have HG03 := zq (HG02.out.trans hg3)
  have HB3 := zq (qA7 HB2.out hb3)
  have hlen := Kd.qE9 hC
  have HC := zq hC
  have HK3 := zq (qAF HK2.out (qAN hb3 none) (by simp))
  clear hx20 hx21 HK2 HXN hS hl hup hN2 hb3 hg3 hC HS2' HE2' HG02 HB2
  generalize hys : next x = ys at *
  have HYS := zq hys
  clear hys
  go_wp2_with fail
  go_loopw [22] (fun v22 wr => ∃ (i : Nat) (t : S59 → Int) (n' : Nat), i ≤ ys.length ∧ v22 = .int .i64 (i : Int) ∧ qA0 (W3.grownBy wr (some bM)) ∧ qA0 (qCZ.St wr bM n' t) ∧ qA0 (n' + 2 * Dfs.zeros U t ≤ M - 1 ∧ Dfs.Inv next t ∧ Dfs.Post (Dfs.upd s x 1) t) ∧ qA0 (∀ y, y ∈ ys.take i → t y = 2)) (fun v22 _ => ys.length - (RowKit.intOf v22).toNat)
  case atStart => exact ⟨0, Dfs.upd s x 1, n + 1, by omega, rfl, ⟨World.grownBy.refl _ _⟩, HS3, ⟨by omega, HI1.out, Dfs.Post.refl _⟩, ⟨fun y hy => by simp at hy⟩⟩
  obtain ⟨i, t, n', hi, rfl, HGr, HSt, HD, HA⟩ := hrel
  have HEr := zq (HE3.out.kept HS3.out HGr.out)
  have hsr : wr.cell? ⟨bS, 0, none⟩ = some (.map (some bM)) := (qA1 HEr.out.s 0).trans rfl
  have hkr : wr.cell? ⟨bW, 0, none⟩ = some (.func (.func 50) #[] #[.pointer (some ⟨bS, 0, none⟩), .pointer (some ⟨bN, 0, none⟩), .pointer (some ⟨bW, 0, none⟩)]) := (qA1 HEr.out.k 0).trans rfl
  have hkx := qAF HK3.out HGr.out (fun e => hbM (zy e).symm)
  have hxr0 : wr.cell? ⟨W.heap.size, 0, none⟩ = some (.string x.f0) := (qA1 hkx 0).trans rfl
  have hxr1 : wr.cell? ⟨W.heap.size, 1, none⟩ = some (.string x.f1) := (qA1 hkx 1).trans rfl
  clear hkx
  by_cases hlt : i < ys.length
  rotate_left
  ·obtain rfl : i = ys.length := by omega
   have hall : ∀ u, u ∈ next x → t u = 2 := fun u hu => HA.out u (by rw [List.take_length]; rw [HYS.out] at hu; exact hu)
   obtain ⟨d1, d2, d3⟩ := HD.out
   have h1x : t x = 1 := by rw [d3.keep x (by simp [Dfs.upd])]; simp [Dfs.upd]
   obtain ⟨W7, hup7, HS7, hg7⟩ := HSt.out.put (by omega : n' < maxLen) hxo (v := 2) (by decide)
   have hzt : Dfs.zeros U (Dfs.upd t x 2) ≤ Dfs.zeros U t := Dfs.zeros_le U fun u hu => by
    unfold Dfs.upd
    split
    ·decide
    ·exact hu
   have HEnd := zq (show ∃ (t' : S59 → Int) (n'' : Nat), qCZ.St W7 bM n'' t' ∧ n'' + 2 * Dfs.zeros U t' ≤ M ∧ Dfs.Inv next t' ∧ Dfs.Post s t' ∧ t' x = 2 from ⟨Dfs.upd t x 2, n' + 1, HS7, by omega, Dfs.ended d2 h1x hall, Dfs.post_end H0.out d3, by simp [Dfs.upd]⟩)
   have HG7 := zq ((HG03.out.trans HGr.out).trans hg7)
   clear HS7 hg7 d1 d2 d3 hall h1x hzt hkr
   go_wp2_with fail
   go_ret
   exact ⟨false, rfl, HG7.out, (fun h => by cases h), fun _ => HEnd.out⟩
  obtain ⟨ad, rfl, hx0, hx1⟩ := at_T59 HC.out (i : Int) (by omega) (by omega)
  simp only [Int.toNat_natCast] at hx0 hx1
  replace hx0 := qCZ.cell_kept HS3.out HGr.out hx0
  replace hx1 := qCZ.cell_kept HS3.out HGr.out hx1
  have hymem : qBB ys (i : Int) ∈ ys := by simp [qBB, hlt]
  have HY := zq (show ys[i]? = some (qBB ys (i : Int)) from by simp [qBB, hlt])
  generalize qBB ys (i : Int) = y at *
  have hkr2 : (wr.alloc (.cells #[.string y.f0, .string y.f1] 59)).cell? ⟨bW, 0, none⟩ = some (.func (.func 50) #[] #[.pointer (some ⟨bS, 0, none⟩), .pointer (some ⟨bN, 0, none⟩), .pointer (some ⟨bW, 0, none⟩)]) := (qA1 (HEr.out.kept HSt.out (World.grownBy_alloc wr (.cells #[.string y.f0, .string y.f1] 59) (some bM))).k 0).trans rfl
  have hy : y ∈ next x := by rw [HYS.out]; exact hymem
  have hyU := HX.out.cl x y hy
  have hs := Gen.qEC hlt hlen
  obtain ⟨d1, d2, d3⟩ := HD.out
  have hBr : Below w.heap.size w wr := qBI HB3.out (some bM) HB3.out.size HGr.out (fun k e => by obtain rfl := zy e; exact hM0)
  have hzt : Dfs.zeros U t ≤ Dfs.zeros U (Dfs.upd s x 1) := Dfs.zeros_le U fun u hu => by rw [d3.keep u hu]; exact hu
  have HCall := zq (HIH.out t n' (M - 1) y (wr.alloc (.cells #[.string y.f0, .string y.f1] 59)) (by omega) (by omega) d1 (HEr.out.kept HSt.out (World.grownBy_alloc wr _ (some bM))) (HSt.out.kept (row := none) (World.grownBy_alloc wr (.cells #[.string y.f0, .string y.f1] 59) none) (by simp)) (qAA hBr _) d2 (Dfs.path_next HP.out d3 hy) hyU)
  have HHy := zq hy
  clear hy hyU d1 d2 d3 hBr hzt hymem
  go_wp2_with fail
  refine HCall.out.mono ?_
  rintro e W5 ⟨b, rfl, hg5, ht, hf⟩
  cases b
  ·obtain ⟨t2, n2, e1, e2, e3, e4, e5⟩ := hf rfl
   have HG5 := zq ((HGr.out.trans ((World.grownBy_alloc wr _ (some bM)) : wr.grownBy (wr.alloc (.cells #[.string y.f0, .string y.f1] 59)) (some bM))).trans hg5)
   have HS5 := zq e1
   have HD5 := zq (And.intro e2 (And.intro e3 (HD.out.2.2.trans e4)))
   have HA5 : qA0 (∀ u, u ∈ ys.take (i + 1) → t2 u = 2) := ⟨fun u hu => by
    rw [List.take_add_one, HY.out] at hu
    rcases List.mem_append.1 hu with h | h
    ·rw [e4.keep u (by rw [HA.out u h]; decide)]; exact HA.out u h
    ·have : u = y := by simpa using h
     rw [this]; exact e5⟩
   clear hg5 ht hf e1 e2 e3 e4 e5
   go_wp2_with fail
   go_roundw
   case rel => exact ⟨i + 1, t2, n2, by omega, by first | rfl | (simp; done) | rw [Int.natCast_add]; rfl, HG5, HS5, HD5, HA5⟩
   case measure => simp [RowKit.intOf]; omega
  ·have HG5 := zq ((HG03.out.trans HGr.out).trans (((World.grownBy_alloc wr _ (some bM)) : wr.grownBy (wr.alloc (.cells #[.string y.f0, .string y.f1] 59)) (some bM)).trans hg5))
   have HCy := zq (Dfs.Cyc.step HHy.out (ht rfl))
   clear hg5 ht hf
   go_wp2_with fail
   go_ret
   exact ⟨true, rfl, HG5.out, fun _ => HCy.out, (fun h => by cases h)⟩
theorem qCZ.idx (A : Option Addr) (c : Nat) (l : List S59) (g1 : Addr) (g2 : Addr) (g3 : Addr) (J T : Nat → World → Prop) (hJ : ∀ k W, J k W → Kd.C k59 W A l.length l) (hl : l.length ≤ c)
  (hcall : ∀ k W , k < l.length → J k W → Calls Tryz.prog 50 #[.agg #[.string (l.getD k z59).f0, .string (l.getD k z59).f1], .pointer (some g1), .pointer (some g2), .pointer (some g3)] W fun e W' => (e = .returned (.bool true) ∧ T k W') ∨ (e = .returned (.bool false) ∧ J (k + 1) W')) (w : World) (h0 : J 0 w) :
  Calls Tryz.prog 75 #[.slice A l.length c, .func (.func 50) #[] #[.pointer (some g1), .pointer (some g2), .pointer (some g3)]] w fun e W' => (∃ k : Nat, k < l.length ∧ e = .returned (.int .i64 (k : Int)) ∧ T k W') ∨ (e = .returned (.int .i64 (-1)) ∧ J l.length W') := by
 have hm := Kd.qE9 (hJ 0 w h0)
 have H0 := zq h0
 clear h0
 go_enter Tryz.func75, Tryz.ntmps75
 go_wp2
 go_loopw [5, 8] (fun _ i wr => ∃ k : Nat, k ≤ l.length ∧ i = .int .i64 k ∧ qA0 (J k wr)) (fun _ i _ => l.length - (intOf i).toNat)
 case atStart => exact ⟨0, Nat.zero_le _, rfl, H0⟩
 obtain ⟨k, hk, rfl, HJ⟩ := hrel
 by_cases hlt : k < l.length
 rotate_left
 ·obtain rfl : k = l.length := by omega
  go_wp2_with fail
  go_ret
  exact .inr ⟨rfl, HJ.out⟩
 have hC := hJ k wr HJ.out
 obtain ⟨ad, rfl, hx0, hx1⟩ := at_T59 hC (k : Int) (by omega) (by omega)
 have e_ : qBB l (k : Int) = l.getD k z59 := by simp [qBB]
 rw [e_] at hx0 hx1
 simp only [Int.toNat_natCast] at hx0 hx1
 clear hC e_
 have HC := zq (hcall k wr  hlt HJ.out)
 clear hcall
 generalize l.getD k z59 = y at *
 go_wp2_with fail
 refine HC.out.mono ?_
 rintro e w' (⟨rfl, ht⟩ | ⟨rfl, hj⟩)
 ·have HT := zq ht
  clear ht
  go_wp2_with fail
  go_ret
  exact .inl ⟨k, hlt, rfl, HT.out⟩
 ·have HJ2 := zq hj
  clear hj
  go_wp2_with fail
  go_roundw
  case rel => exact ⟨k + 1, by omega, by go_num, HJ2⟩
  case measure => simp [intOf]; omega
theorem qCZ.contains (A : Option Addr) (c : Nat) (l : List S59) (g1 : Addr) (g2 : Addr) (g3 : Addr) (J T : Nat → World → Prop) (hJ : ∀ k W, J k W → Kd.C k59 W A l.length l) (hl : l.length ≤ c)
  (hcall : ∀ k W, k < l.length → J k W → Calls Tryz.prog 50 #[.agg #[.string (l.getD k z59).f0, .string (l.getD k z59).f1], .pointer (some g1), .pointer (some g2), .pointer (some g3)] W fun e W' => (e = .returned (.bool true) ∧ T k W') ∨ (e = .returned (.bool false) ∧ J (k + 1) W')) (w : World) (h0 : J 0 w) :
  Calls Tryz.prog 51 #[.slice A l.length c, .func (.func 50) #[] #[.pointer (some g1), .pointer (some g2), .pointer (some g3)]] w fun e W' => (e = .returned (.bool true) ∧ ∃ k : Nat, k < l.length ∧ T k W') ∨ (e = .returned (.bool false) ∧ J l.length W') := by
 have HI := zq (qCZ.idx A c l g1 g2 g3 J T hJ hl hcall w h0)
 clear hcall hJ h0
 go_enter Tryz.func51, Tryz.ntmps51
 go_wp2_with fail
 refine HI.out.mono ?_
 rintro e w' (⟨k, hk, rfl, ht⟩ | ⟨rfl, hj⟩)
 ·have HT := zq ht
  clear ht
  go_wp2_with fail
  go_ret
  exact .inl ⟨by simp, k, hk, HT.out⟩
 ·have HJ := zq hj
  clear hj
  go_wp2_with fail
  go_ret
  exact .inr ⟨by simp, HJ.out⟩
open Classical in
theorem qCZ.search (A0 : Option Addr) (c0 : Nat) (all : List S59) (w : World) (next : S59 → List S59) (U : List S59) (gp : Addr) (hC : Kd.C k59 w A0 all.length all) (hl : all.length ≤ c0) (X : qCZ.Ctx w next U gp) (hall : ∀ x ∈ all, x ∈ U) (hU : 2 * U.length < maxLen) :
  Calls Tryz.prog 18 #[.slice A0 all.length c0, .func (.func 19) #[] #[.pointer (some gp)]] w fun e w' => e = .returned (.bool (decide (∃ x, x ∈ all ∧ Dfs.Cyc next x))) ∧ Below w.heap.size w w' := by
 have hmm := @run_makeMap Tryz.prog
 go_enter Tryz.func18, Tryz.ntmps18
 go_wp2_with fail
 generalize hW4 : (((w.alloc (.cells #[.func (.func 19) #[] #[.pointer (some gp)]] 62)).alloc (.map #[] 0)).alloc (.cells #[.map (some (w.heap.size + 1))] 117)).alloc (.cells #[.func (.func 50) #[] #[.pointer (some ⟨w.heap.size + 1 + 1, 0, none⟩), .pointer (some ⟨w.heap.size, 0, none⟩), .pointer (some ⟨w.heap.size + 1 + 1 + 1, 0, none⟩)]] 118) = W4
 have hB4 : Below w.heap.size w W4 := by rw [← hW4]; exact qAA (qAA (qAA (qAA (Below.refl _ _) _) _) _) _
 have hE4 : qCZ.Env W4 (w.heap.size + 1 + 1) w.heap.size (w.heap.size + 1 + 1 + 1) (w.heap.size + 1) gp := by
  rw [← hW4]
  refine ⟨?_, qAF (qAF (qAF (heap_alloc_new w _) (World.grownBy_alloc _ _ none) (by simp)) (World.grownBy_alloc _ _ none) (by simp)) (World.grownBy_alloc _ _ none) (by simp), ?_⟩
  ·have h := heap_alloc_new ((w.alloc (.cells #[.func (.func 19) #[] #[.pointer (some gp)]] 62)).alloc (.map #[] 0)) (.cells #[.map (some (w.heap.size + 1))] 117)
   rw [show ((w.alloc (.cells #[.func (.func 19) #[] #[.pointer (some gp)]] 62)).alloc (.map #[] 0)).heap.size = w.heap.size + 1 + 1 from by simp] at h
   exact qAF h (World.grownBy_alloc _ _ none) (by simp)
  ·have h := heap_alloc_new (((w.alloc (.cells #[.func (.func 19) #[] #[.pointer (some gp)]] 62)).alloc (.map #[] 0)).alloc (.cells #[.map (some (w.heap.size + 1))] 117)) (.cells #[.func (.func 50) #[] #[.pointer (some ⟨w.heap.size + 1 + 1, 0, none⟩), .pointer (some ⟨w.heap.size, 0, none⟩), .pointer (some ⟨w.heap.size + 1 + 1 + 1, 0, none⟩)]] 118)
   rw [show (((w.alloc (.cells #[.func (.func 19) #[] #[.pointer (some gp)]] 62)).alloc (.map #[] 0)).alloc (.cells #[.map (some (w.heap.size + 1))] 117)).heap.size = w.heap.size + 1 + 1 + 1 from by simp] at h
   exact h
 have hS4 : qCZ.St W4 (w.heap.size + 1) 0 (fun _ => 0) := by
  rw [← hW4]
  have h1 : qCZ.St ((w.alloc (.cells #[.func (.func 19) #[] #[.pointer (some gp)]] 62)).alloc (.map #[] 0)) (w.heap.size + 1) 0 (fun _ => 0) := by
   have h0 := World.ownsMap_made (H := Unit) (w.alloc (.cells #[.func (.func 19) #[] #[.pointer (some gp)]] 62)) Tryz.prog 59 (plainElem Tryz.prog 3)
   rw [show (w.alloc (.cells #[.func (.func 19) #[] #[.pointer (some gp)]] 62)).heap.size = w.heap.size + 1 from by simp] at h0
   exact ⟨_, h0, fun x _ => rfl⟩
  exact (h1.kept (World.grownBy_alloc _ _ none) (by simp)).kept (World.grownBy_alloc _ _ none) (by simp)
 clear hW4
 refine (qCZ.contains A0 c0 all ⟨w.heap.size + 1 + 1, 0, none⟩ ⟨w.heap.size, 0, none⟩ ⟨w.heap.size + 1 + 1 + 1, 0, none⟩
  (fun k W => ∃ (s : S59 → Int) (n : Nat), qCZ.Env W (w.heap.size + 1 + 1) w.heap.size (w.heap.size + 1 + 1 + 1) (w.heap.size + 1) gp ∧ qCZ.St W (w.heap.size + 1) n s ∧ Below w.heap.size w W ∧ Dfs.Inv next s ∧ (∀ y, s y ≠ 1) ∧ n + 2 * Dfs.zeros U s ≤ 2 * U.length ∧ ∀ x, x ∈ all.take k → s x = 2)
  (fun _ W => (∃ x, x ∈ all ∧ Dfs.Cyc next x) ∧ Below w.heap.size w W) (fun k W ⟨_, _, _, _, hb, _⟩ => Kd.qAB hC hb) hl ?_ W4 ?_).mono ?_
 ·rintro k W hk ⟨s, n, h1, h2, h3, h4, h5, h6, h7⟩
  have hm : all.getD k z59 ∈ all := by rw [List.getD_eq_getElem?_getD, List.getElem?_eq_getElem hk]; exact List.getElem_mem _
  have hg : all[k]? = some (all.getD k z59) := by rw [List.getD_eq_getElem?_getD, List.getElem?_eq_getElem hk]; rfl
  refine (qCZ.walk w next U gp X _ _ _ _ (by omega) (Dfs.zeros U s) s n (2 * U.length) _ W (Nat.le_refl _) hU h6 h1 h2 h3 h4 (fun y hy => absurd hy (h5 y)) (hall _ hm)).mono ?_
  rintro e W' ⟨b, rfl, hgr, ht, hf⟩
  have hb' := qBI h3 (some (w.heap.size + 1)) h3.size hgr (fun k e => by obtain rfl := zy e; omega)
  cases b
  ·obtain ⟨t, n', e1, e2, e3, e4, e5⟩ := hf rfl
   refine .inr ⟨rfl, t, n', h1.kept h2 hgr, e1, hb', e3, fun y hy => h5 y (e4.ones y hy), e2, fun u hu => ?_⟩
   rw [List.take_add_one, hg] at hu
   rcases List.mem_append.1 hu with h | h
   ·rw [e4.keep u (by rw [h7 u h]; decide)]; exact h7 u h
   ·have : u = all.getD k z59 := by simpa using h
    rw [this]; exact e5
  ·exact .inl ⟨rfl, ⟨_, hm, ht rfl⟩, hb'⟩
 ·refine ⟨fun _ => 0, 0, hE4, hS4, hB4, ⟨fun _ => .inl rfl, fun x h => by simp at h⟩, fun y h => by simp at h, ?_, fun x hx => by simp at hx⟩
  have : Dfs.zeros U (fun _ : S59 => (0 : Int)) ≤ U.length := List.countP_le_length
  omega
 ·rintro e W' (⟨rfl, k, hk, hT, hb⟩ | ⟨rfl, s, n, h1, h2, h3, h4, h5, h6, h7⟩)
  ·have HD := zq (decide_eq_true hT)
   have HB := zq hb
   clear hT hb
   go_wp2_with fail
   go_ret
   exact ⟨by rw [HD.out]; rfl, HB.out⟩
  ·have hno : ¬ ∃ x, x ∈ all ∧ Dfs.Cyc next x := fun ⟨x, hx, hc⟩ => (h4.done x (h7 x (by rw [List.take_length]; exact hx))).1 hc
   have HD := zq (decide_eq_false hno)
   have HB := zq h3
   clear hno h1 h2 h3 h4 h5 h6 h7
   go_wp2_with fail
   go_ret
   exact ⟨by rw [HD.out]; rfl, HB.out⟩
theorem put_block {α : Type} [Inhabited α] (enc : α → Value) (w : World) (n : Nat) (os : Array Obj) (g e : Nat) (cur : Array Value) (d : Array α) (hb : w.heap[g]? = some (.cells cur e (0, 0))) :
  (Sort.grow (Sort.putRow enc (Sort.ahead w n) g 0 d) os).heap[g]? = some (.cells (Sort.putCells enc 0 d cur) e (0, 0)) := by
 have hg := Gen.qAT hb
 rw [Sort.heap_grow_old _ _ (by simpa using hg)]
 simp only [Sort.putRow, Sort.mapBlock, Array.getElem?_modify, Sort.heap_ahead]
 rw [if_pos trivial, hb]
 rfl
theorem qB2 {α : Type} [Inhabited α] (enc : α → Value) (w : World) (n : Nat) (os : Array Obj) (g k : Nat) (d : Array α) (hk : k < w.heap.size) (hne : k ≠ g) :
  (Sort.grow (Sort.putRow enc (Sort.ahead w n) g 0 d) os).heap[k]? = w.heap[k]? := by
 rw [Sort.heap_grow_old _ _ (by simpa using hk)]
 simp only [Sort.putRow, Sort.mapBlock, Array.getElem?_modify, Sort.heap_ahead]
 rw [if_neg (by omega)]
theorem put_cells {α : Type} [Inhabited α] (enc : α → Value) (cur : Array Value) (ys : List α) (h : ys.length ≤ cur.size) :
  (Sort.putCells enc 0 ys.toArray cur).size = cur.size ∧ (Sort.putCells enc 0 ys.toArray cur).toList.take ys.length = ys.map enc := by
 refine ⟨by simp [Sort.putCells], ?_⟩
 apply List.ext_getElem?
 intro j
 by_cases hj : j < ys.length
 ·rw [List.getElem?_take_of_lt hj]
  simp [Sort.putCells, hj, show j < cur.size from by omega]
 ·rw [List.getElem?_eq_none (by simp; omega), List.getElem?_eq_none (by simp; omega)]
def toB (l : List ByteArray) : List (List UInt8) := l.map fun s => s.data.toList
def ofB (l : List (List UInt8)) : List ByteArray := l.map fun b => ⟨b.toArray⟩
theorem encs_ofB (l : List (List UInt8)) : encs Value.string (ofB l) = l.map encStr := by
 unfold ofB encs
 rw [List.map_map]
 rfl
theorem qFI (l : List ByteArray) : (toB l).length = l.length := by simp [toB]
theorem ofB_len (l : List (List UInt8)) : (ofB l).length = l.length := by simp [ofB]
def qD3.s (l : List ByteArray) : List ByteArray := ofB ((toB l).mergeSort fun x y => decide (x ≤ y))
def qD3.f (l0 : List ByteArray) : Option (List ByteArray) := if l0.length < 4611686018427387904 then some (qD3.s l0) else none
theorem qD3.len (l : List ByteArray) : (qD3.s l).length = l.length := by simp [qD3.s, ofB_len, qFI]
theorem holds_strs {w : World} {g : Nat} {cur : Array Value} {l0 : List ByteArray} (hb : w.heap[g]? = some (.cells cur 9 (0, 0))) (htake : cur.toList.take (l0.length * 1) = encs Value.string l0) : Sort.Holds encStr w g 0 (toB l0).toArray := by
 intro j hj
 have hj' : j < l0.length := by simpa [toB] using hj
 refine ⟨?_, by simp [World.frozen?, hb]⟩
 have h1 : (cur.toList.take (l0.length * 1))[j]? = (encs Value.string l0)[j]? := by rw [htake]
 rw [List.getElem?_take_of_lt (by omega)] at h1
 simp [World.cell?, hb]
 simpa [encs, hj', toB] using h1
theorem qD3.calls (P0_ : Nat → Prop) (u9000_ : Value) (l0 : List ByteArray) (r : List ByteArray) (w0 w : World) (hB : Below w0.heap.size w0 w) (ho0 : Kd.R Kd.string 9 w w0.heap.size P0_ u9000_ l0) (h : qD3.f l0 = some r) :
  Calls Tryz.prog 76 #[u9000_] w fun e w' => e = .returned (.tuple #[]) ∧ Kd.R Kd.string 9 w' w0.heap.size (fun k_ => (P0_ k_ ∨ w.heap.size ≤ k_)) u9000_ r ∧ Below w0.heap.size w0 w' ∧ Kept w w' (fun k_ => P0_ k_) := by
 unfold qD3.f at h
 by_cases hsz : l0.length < 4611686018427387904
 case neg => rw [if_neg hsz] at h; cases h
 rw [if_pos hsz] at h
 obtain rfl := zy h
 clear h
 have hown := Kd.own_of_R ho0
 have hok := ho0.1
 obtain ⟨hlen, hcase⟩ := hown
 rcases hcase with ⟨rfl, h0⟩ | ⟨g, cap, cur, rfl, hg, hb, hnc, hcm, hcs, htake⟩
 ·have e0 : l0 = [] := List.length_eq_zero_iff.1 h0
  subst e0
  refine (Tryz.slices_Sort_string_none none 0 w).mono ?_
  rintro e w' ⟨rfl, rfl⟩
  exact ⟨rfl, by simpa [qD3.s, ofB, toB] using Kd.R_nil _ _ _ _ _, hB, Kept.refl _ _⟩
 ·have hgl := Gen.qAT hb
  have hH := holds_strs hb htake
  have hcall := Tryz.slices_Sort_string g 0 cap (toB l0) w hH hgl (by rw [qFI]; exact hsz)
  rw [qFI] at hcall
  refine hcall.mono ?_
  rintro e w' ⟨rfl, n, os, rfl⟩
  have hl := qD3.len l0
  generalize hs : (toB l0).mergeSort (fun x y => decide (x ≤ y)) = bs
  have hbl : bs.length = l0.length := by rw [← hs, List.length_mergeSort, qFI]
  have hrs : qD3.s l0 = ofB bs := by unfold qD3.s; rw [hs]
  obtain ⟨p1, p2⟩ := put_cells encStr cur bs (by omega)
  have hb' := put_block encStr w n os g 9 cur bs.toArray hb
  rw [hrs]
  refine ⟨rfl, ?_, ?_, ?_, ?_⟩
  ·refine Kd.R_of_own (h1 := fun _ => rfl) ⟨?_, .inr ⟨g, cap, _, by rw [ofB_len, hbl], hg, hb', by rw [ofB_len]; omega, hcm, by omega, ?_⟩⟩ ?_
   ·simp [encs]
   ·rw [Nat.mul_one, ofB_len, encs_ofB]; exact p2
   ·intro k hk; exact .inl (hok k hk)
  ·exact ⟨hB.os, hB.tape, hB.output, by have := hB.size; simp; omega, fun k hk => by rw [qB2 _ _ _ _ _ _ _ (by have := hB.size; omega) (by omega)]; exact hB.block k hk⟩
  ·simp
  ·intro k hk hn
   exact qB2 _ _ _ _ _ _ _ hk (fun e => hn (hok k (by simp [Value.ownBlock, e])))
def qCW.s (l : List ByteArray) : List ByteArray := ofB (Lib.compact (toB l))
def qCW.f (l0 : List ByteArray) : Option (List ByteArray) := if l0.length < 4611686018427387904 then some (qCW.s l0) else none
theorem qCW.calls (P0_ : Nat → Prop) (u9000_ : Value) (l0 : List ByteArray) (r : List ByteArray) (w0 w : World) (hB : Below w0.heap.size w0 w) (ho0 : Kd.R Kd.string 9 w w0.heap.size P0_ u9000_ l0) (h : qCW.f l0 = some r) :
  Calls Tryz.prog 77 #[u9000_] w fun e w' => ∃ v0_ : Value, e = .returned (v0_) ∧ Kd.R Kd.string 9 w' w0.heap.size (fun k_ => (P0_ k_ ∨ w.heap.size ≤ k_)) v0_ r ∧ Below w0.heap.size w0 w' ∧ Kept w w' (fun k_ => P0_ k_) := by
 unfold qCW.f at h
 by_cases hsz : l0.length < 4611686018427387904
 case neg => rw [if_neg hsz] at h; cases h
 rw [if_pos hsz] at h
 obtain rfl := zy h
 clear h
 have hown := Kd.own_of_R ho0
 have hok := ho0.1
 obtain ⟨hlen, hcase⟩ := hown
 rcases hcase with ⟨rfl, h0⟩ | ⟨g, cap, cur, rfl, hg, hb, hnc, hcm, hcs, htake⟩
 ·have e0 : l0 = [] := List.length_eq_zero_iff.1 h0
  subst e0
  refine (Tryz.slices_Compact_string_empty none 0 w).mono ?_
  rintro e w' ⟨rfl, rfl⟩
  exact ⟨_, rfl, Kd.R_nil _ _ _ _ _, hB, Kept.refl _ _⟩
 ·have hgl := Gen.qAT hb
  have hH := holds_strs hb htake
  have hcl : (Lib.compact (toB l0)).length ≤ l0.length := by have := Lib.compact_length_le (toB l0); rwa [qFI] at this
  have hcall := Tryz.slices_Compact_string g 0 cap (toB l0) w hH (by rw [qFI]; omega) (by rw [qFI]; exact hnc)
  rw [qFI] at hcall
  refine hcall.mono ?_
  rintro e w' ⟨rfl, n, rfl⟩
  unfold qCW.s
  generalize Lib.compact (toB l0) = cs at hcl ⊢
  generalize hz : cs ++ List.replicate (l0.length - cs.length) ([] : List UInt8) = zs
  have hzl : zs.length = l0.length := by rw [← hz]; simp; omega
  obtain ⟨p1, p2⟩ := put_cells encStr cur zs (by omega)
  have hb' := put_block encStr w n #[] g 9 cur zs.toArray hb
  rw [Sort.grow_empty] at hb'
  have ho : ∀ k, k < w.heap.size → k ≠ g → (Sort.putRow encStr (Sort.ahead w n) g 0 zs.toArray).heap[k]? = w.heap[k]? := fun k hk hne => by
   have := qB2 encStr w n #[] g k zs.toArray hk hne
   rwa [Sort.grow_empty] at this
  refine ⟨_, rfl, ?_, ?_, ?_, ?_⟩
  ·refine Kd.R_of_own (h1 := fun _ => rfl) ⟨?_, .inr ⟨g, cap, _, by rw [ofB_len], hg, hb', by rw [ofB_len]; omega, hcm, by omega, ?_⟩⟩ ?_
   ·simp [encs]
   ·rw [Nat.mul_one, ofB_len, encs_ofB]
    have e : (Sort.putCells encStr 0 zs.toArray cur).toList.take cs.length = (((Sort.putCells encStr 0 zs.toArray cur).toList.take zs.length).take cs.length) := by
     rw [List.take_take, Nat.min_eq_left (by omega)]
    rw [e, p2, ← hz]
    simp
   ·intro k hk; exact .inl (hok k hk)
  ·exact ⟨hB.os, hB.tape, hB.output, by have := hB.size; simp; omega, fun k hk => by rw [ho _ (by have := hB.size; omega) (by omega)]; exact hB.block k hk⟩
  ·simp
  ·intro k hk hn
   exact ho k hk (fun e => hn (hok k (by simp [Value.ownBlock, e])))
mutual
def qAL.l0 : Nat → List ByteArray → List ByteArray → List (S79) → Int → Int → Option (List ByteArray × List ByteArray)
 | 0, _, _, _, _, _ => none
 | k + 1, x4, x5, x8, x9, x10 => if x10 < x9 then (if 0 ≤ x10 then (if x10 < (x8.length : Int) then (if ((qA3 x8 x10).f0) = 1 then (qAL.j1 k x4 x5 x8 x9 x10 ((qA3 x8 x10).f0) (((qA3 x8 x10).f0) == 1) ((qA3 x8 x10).f0) ((qA3 x8 x10).f1) ((qA3 x8 x10).f2) ((qA3 x8 x10).f3) ((qA3 x8 x10).f4)) else (if ((qA3 x8 x10).f0) = 2 then (qAL.j1 k x4 x5 x8 x9 x10 ((qA3 x8 x10).f0) (((qA3 x8 x10).f0) == 2) ((qA3 x8 x10).f0) ((qA3 x8 x10).f1) ((qA3 x8 x10).f2) ((qA3 x8 x10).f3) ((qA3 x8 x10).f4)) else (qAL.j1 k x4 x5 x8 x9 x10 ((qA3 x8 x10).f0) (((qA3 x8 x10).f0) == 3) ((qA3 x8 x10).f0) ((qA3 x8 x10).f1) ((qA3 x8 x10).f2) ((qA3 x8 x10).f3) ((qA3 x8 x10).f4)))) else (none)) else (none)) else ((qD3.f x4).bind fun t386 => ((qD3.f x5).bind fun t387 => ((qCW.f t386).bind fun t388 => ((qCW.f t387).bind fun t391 => (some (t388, t391))))))
def qAL.j1 : Nat → List ByteArray → List ByteArray → List (S79) → Int → Int → Int → Bool → Int → List Int → Int → Int → ByteArray → Option (List ByteArray × List ByteArray)
 | 0, _, _, _, _, _, _, _, _, _, _, _, _ => none
 | k + 1, x4, x5, x8, x9, x10, x15, x16, x380000, x380001, x380002, x380003, x380004 => if x16 = true then (if x4.length < 8796093022208 then (qAL.l0 k (x4 ++ [x380004]) x5 x8 x9 (wrap64 (x10 + 1))) else (none)) else (if x15 = 16 then (if x5.length < 8796093022208 then (qAL.l0 k x4 (x5 ++ [x380004]) x8 x9 (wrap64 (x10 + 1))) else (none)) else (qAL.l0 k x4 x5 x8 x9 (wrap64 (x10 + 1))))
end
def qAL.f (k : Nat) (l0 : List (S79)) : Option (List ByteArray × List ByteArray) := qAL.l0 k ([] : List ByteArray) ([] : List ByteArray) l0 (l0.length : Int) 0
theorem qAL.qBT : ∀ k, (∀ y0 y1 y2 y3 y4, LeO (qAL.l0 k y0 y1 y2 y3 y4) (qAL.l0 (k + 1) y0 y1 y2 y3 y4)) ∧ (∀ y0 y1 y2 y3 y4 y5 y6 y7 y8 y9 y10 y11, LeO (qAL.j1 k y0 y1 y2 y3 y4 y5 y6 y7 y8 y9 y10 y11) (qAL.j1 (k + 1) y0 y1 y2 y3 y4 y5 y6 y7 y8 y9 y10 y11))
 | 0 => ⟨fun _ _ _ _ _ r h => by simp [qAL.l0] at h, fun _ _ _ _ _ _ _ _ _ _ _ _ r h => by simp [qAL.j1] at h⟩
 | k + 1 => by
  obtain ⟨ih0, ih1⟩ := qAL.qBT k
  refine ⟨?_, ?_⟩
  ·intro y0 y1 y2 y3 y4
   unfold qAL.l0
   exact zm
  ·intro y0 y1 y2 y3 y4 y5 y6 y7 y8 y9 y10 y11
   unfold qAL.j1
   exact zm
theorem qAL.mono : ∀ a0 k, LeO (qAL.f k a0) (qAL.f (k + 1) a0) := by
 intro a0 k
 obtain ⟨ih0, ih1⟩ := qAL.qBT k
 unfold qAL.f
 exact zm
theorem qAL.calls (k : Nat) (A0 : Option Addr) (c0 : Nat) (l0 : List (S79)) (r1 : List ByteArray) (r2 : List ByteArray) (w : World) (hr0 : Kd.C k79 w A0 l0.length l0) (hc0 : l0.length ≤ c0) (h : qAL.f k l0 = some (r1, r2)) :
  Calls Tryz.prog 52 #[.slice A0 l0.length c0] w fun e w' => ∃ v0_ v1_ : Value, e = .returned (.tuple #[v0_, v1_]) ∧ Kd.R Kd.string 9 w' w.heap.size (fun k_ => some k_ ≠ (v1_ : Value).ownBlock) v0_ r1 ∧ Kd.R Kd.string 9 w' w.heap.size (fun k_ => some k_ ≠ (v0_ : Value).ownBlock) v1_ r2 ∧ Below w.heap.size w w' := by
 have hu79 := Tryz.underlying79
 have HR0 := zq hr0
 have HC0 := zq hc0
 clear hr0 hc0
 have HB := zq (Below.refl w.heap.size w)
 have H := h
 unfold qAL.f at H
 clear h
 have H' := zq H
 clear H
 go_enter Tryz.func52, Tryz.ntmps52
 go_wp2
 go_loopg [4, 5, 10] k (fun kq v4 v5 v10 w' => ∃ (x4_1 : List ByteArray) (x5_1 : List ByteArray) (x10_1 : Int), v10 = .int .i64 x10_1 ∧ qA0 (qAL.l0 kq x4_1 x5_1 l0 (l0.length : Int) x10_1 = some (r1, r2)) ∧ qA0 (kq ≤ k) ∧ qA0 (Kd.R Kd.string 9 w' w.heap.size (fun k_ => some k_ ≠ (v5 : Value).ownBlock) v4 x4_1) ∧ qA0 (Kd.R Kd.string 9 w' w.heap.size (fun k_ => some k_ ≠ (v4 : Value).ownBlock) v5 x5_1) ∧ qA0 (Below w.heap.size w w'))
 case atStart => exact ⟨(([] : List ByteArray)), (([] : List ByteArray)), (0), zs, H', ⟨Nat.le_refl _⟩, ⟨by first | exact Kd.R_nil _ _ _ _ _ | exact Kd.N_nil _ _ _ _ _ | exact Kd.V_nil _ _ _ _ _ | exact Kd.Q_nil _ _ _ _ _ | exact Kd.S_nil _ _ _ _ _⟩, ⟨by first | exact Kd.R_nil _ _ _ _ _ | exact Kd.N_nil _ _ _ _ _ | exact Kd.V_nil _ _ _ _ _ | exact Kd.Q_nil _ _ _ _ _ | exact Kd.S_nil _ _ _ _ _⟩, ⟨zb⟩⟩
 clear H'
 obtain ⟨x4_1, x5_1, x10_1, rfl, HA, HK1, HO_4, HO_5, HB⟩ := hrel
 obtain _ | k1 := gk
 ·exact absurd HA.out (by simp [qAL.l0])
 have H := HA.out
 clear HA
 simp only [qAL.l0] at H
 obtain ⟨-, c2b0, H⟩ | ⟨-, c2b0, H⟩ := y3 H
 rotate_left
 ·replace H := zi H
  obtain ⟨t386, A180, H⟩ := H
  have A18 := zq A180
  clear A180
  replace H := zi H
  obtain ⟨t387, A190, H⟩ := H
  have A19 := zq A190
  clear A190
  replace H := zi H
  obtain ⟨t388, A200, H⟩ := H
  have A20 := zq A200
  clear A200
  replace H := zi H
  obtain ⟨t391, A210, H⟩ := H
  have A21 := zq A210
  clear A210
  simp only [Option.some.injEq, Prod.mk.injEq] at H
  obtain ⟨rfl, rfl⟩ := H
  obtain ⟨Ao22, co22, eo22⟩ := Kd.qBX HO_4.out
  subst eo22
  go_wp2_with (first | ((with_reducible refine qCV (f := 76) rfl ?_); refine qBY (some 34) Tryz.func76 #[.slice Ao22 x4_1.length co22] ?_; (with_reducible refine (qD3.calls (fun k_ => some k_ = (.slice Ao22 x4_1.length co22 : Value).ownBlock) (.slice Ao22 x4_1.length co22) x4_1 t386 w _ ?side1 ?side2 A18.out).mono ?_); (case side1 => repeat (first | (with_reducible first | exact HB.out | apply qAA | apply qA8 | apply qBP) | exact HB.out)); (case side2 => exact Kd.qFO rfl HO_4.out); rintro e w23 ⟨rfl, hy0, hb, hkp⟩; refine ⟨_, rfl, ?_⟩; replace HO_4 := zq (Kd.R_reok rfl hy0 (fun k_ e_ => HO_4.out.1 k_ e_)); replace HO_5 := zq (Kd.qB3 (ok' := fun k_ => some k_ ≠ (.slice Ao22 x4_1.length co22 : Value).ownBlock) (Kd.R_keptB (HO_5.out) hkp (fun k_ hk_ hs_ => (hk_) hs_)) (fun k_ hk_ => hk_.1)); replace HB := zq (hb); (try clear hb); (try clear hkp); (try clear hy0); obtain ⟨Ao24, co24, eo24⟩ := Kd.qBX HO_5.out; subst eo24) | ((with_reducible refine qCV (f := 76) rfl ?_); refine qBY (some 36) Tryz.func76 #[.slice Ao24 x5_1.length co24] ?_; (with_reducible refine (qD3.calls (fun k_ => some k_ = (.slice Ao24 x5_1.length co24 : Value).ownBlock) (.slice Ao24 x5_1.length co24) x5_1 t387 w _ ?side1 ?side2 A19.out).mono ?_); (case side1 => repeat (first | (with_reducible first | exact HB.out | apply qAA | apply qA8 | apply qBP) | exact HB.out)); (case side2 => exact Kd.qFO rfl HO_5.out); rintro e w25 ⟨rfl, hy0, hb, hkp⟩; refine ⟨_, rfl, ?_⟩; replace HO_4 := zq (Kd.qB3 (ok' := fun k_ => some k_ ≠ (.slice Ao24 x5_1.length co24 : Value).ownBlock) (Kd.R_keptB (HO_4.out) hkp (fun k_ hk_ hs_ => (hk_) hs_)) (fun k_ hk_ => hk_.1)); replace HO_5 := zq (Kd.R_reok rfl hy0 (fun k_ e_ => HO_5.out.1 k_ e_)); replace HB := zq (hb); (try clear hb); (try clear hkp); (try clear hy0)) | ((with_reducible refine qCV (f := 77) rfl ?_); refine qBY (some 38) Tryz.func77 #[.slice Ao22 x4_1.length co22] ?_; (with_reducible refine (qCW.calls (fun k_ => some k_ = (.slice Ao22 x4_1.length co22 : Value).ownBlock) (.slice Ao22 x4_1.length co22) t386 t388 w _ ?side1 ?side2 A20.out).mono ?_); (case side1 => repeat (first | (with_reducible first | exact HB.out | apply qAA | apply qA8 | apply qBP) | exact HB.out)); (case side2 => exact Kd.qFO rfl HO_4.out); rintro e w26 ⟨v389, rfl, ho0, hb, hkp⟩; refine ⟨_, rfl, ?_⟩; have HO390 := zq (Kd.qB3 (ok' := fun k_ => some k_ ≠ (.slice Ao24 x5_1.length co24 : Value).ownBlock) ho0 (fun k_ hk_ => Or.elim hk_ (fun hs_ => fun e_ => (((HO_5.out).1 k_ e_.symm)) hs_) (fun hn_ => (Kd.fresh' (Kd.R_lt (by (with_reducible repeat refine sR ?_); exact HO_5.out)) k_ hn_)))); replace HO_5 := zq (Kd.qB3 (ok' := fun k_ => some k_ ≠ (v389 : Value).ownBlock) (Kd.R_keptB (HO_5.out) hkp (fun k_ hk_ hs_ => (hk_) hs_)) (fun k_ hk_ => fun e_ => Or.elim (ho0.1 k_ e_.symm) (fun hs_ => hk_.2.1 hs_) (fun hn_ => Nat.not_le.2 hk_.2.2 hn_))); replace HB := zq (hb); clear HO_4; (try clear hb); (try clear hkp); (try clear ho0)) | ((with_reducible refine qCV (f := 77) rfl ?_); refine qBY (some 40) Tryz.func77 #[.slice Ao24 x5_1.length co24] ?_; (with_reducible refine (qCW.calls (fun k_ => some k_ = (.slice Ao24 x5_1.length co24 : Value).ownBlock) (.slice Ao24 x5_1.length co24) t387 t391 w _ ?side1 ?side2 A21.out).mono ?_); (case side1 => repeat (first | (with_reducible first | exact HB.out | apply qAA | apply qA8 | apply qBP) | exact HB.out)); (case side2 => exact Kd.qFO rfl HO_5.out); rintro e w27 ⟨v392, rfl, ho0, hb, hkp⟩; refine ⟨_, rfl, ?_⟩; have HO393 := zq (Kd.qB3 (ok' := fun k_ => some k_ ≠ (v389 : Value).ownBlock) ho0 (fun k_ hk_ => Or.elim hk_ (fun hs_ => fun e_ => (((HO390.out).1 k_ e_.symm)) hs_) (fun hn_ => (Kd.fresh' (Kd.R_lt (by (with_reducible repeat refine sR ?_); exact HO390.out)) k_ hn_)))); replace HO390 := zq (Kd.qB3 (ok' := fun k_ => some k_ ≠ (v392 : Value).ownBlock) (Kd.R_keptB (HO390.out) hkp (fun k_ hk_ hs_ => (hk_) hs_)) (fun k_ hk_ => fun e_ => Or.elim (ho0.1 k_ e_.symm) (fun hs_ => hk_.2.1 hs_) (fun hn_ => Nat.not_le.2 hk_.2.2 hn_))); replace HB := zq (hb); clear HO_5; (try clear hb); (try clear hkp); (try clear ho0)))
  go_ret2
  exact ⟨_, _, zf, by (with_reducible repeat refine sR ?_); exact HO390.out, by (with_reducible repeat refine sR ?_); exact HO393.out, zb⟩
 obtain ⟨-, c3b0, H⟩ := y1 H
 obtain ⟨-, c4b0, H⟩ := y1 H
 have HC5 := zq H
 clear H
 obtain ⟨p378, q378, ad378, A378_1, c378_1, e378, hx378_0, hx378_1, hx378_2, hx378_3, hx378_4, hl378_1, hi378_1⟩ := yp (at_T79 HR0.out x10_1)
 cases e378
 (try replace hx378_0 := zh hx378_0)
 replace hx378_1 := zh hx378_1
 replace hx378_2 := zh hx378_2
 replace hx378_3 := zh hx378_3
 replace hx378_4 := zh hx378_4
 have HR378_1 := zq hi378_1
 have HC378_1 := zq hl378_1
 clear hi378_1 hl378_1
 go_upto_if 16 with (((with_reducible refine qAS (N := 7) rfl ?_); refine boxZ 7 #[.int .i64 0, .slice none 0 0, .int .i64 0, .int .i64 0, .string (⟨#[]⟩ : ByteArray)] 79 ?_; intro gb379 hg w6 hbox hb; have BK379 := zq (hbox); have GW379 := zg w gb379; have GE379 := zg w gb379; replace HO_4 := zq (Kd.qBM (by (with_reducible repeat refine sR ?_); exact HO_4.out) hb); replace HO_5 := zq (Kd.qBM (by (with_reducible repeat refine sR ?_); exact HO_5.out) hb); replace HB := zB hb; clear hb hbox hg; have hcz7 := bc5 BK379.out))
 go_cut [16] (fun v16 wc => ∃ (kq : Nat) (x16_4 : Bool), v16 = .bool x16_4 ∧ qA0 (qAL.j1 kq x4_1 x5_1 l0 (l0.length : Int) x10_1 ((qA3 l0 x10_1).f0) x16_4 ((qA3 l0 x10_1).f0) ((qA3 l0 x10_1).f1) ((qA3 l0 x10_1).f2) ((qA3 l0 x10_1).f3) ((qA3 l0 x10_1).f4) = some (r1, r2)) ∧ qA0 (kq ≤ k1) ∧ qA0 (Kd.R Kd.string 9 wc w.heap.size (fun k_ => some k_ ≠ (u5 : Value).ownBlock) u4 x4_1) ∧ qA0 (Kd.R Kd.string 9 wc w.heap.size (fun k_ => some k_ ≠ (u4 : Value).ownBlock) u5 x5_1) ∧ qA0 (wc.heap[gb379]? = some (.cells #[.int .i64 ((qA3 l0 x10_1).f0), (.slice A378_1 ((qA3 l0 x10_1).f1).length c378_1), .int .i64 ((qA3 l0 x10_1).f2), .int .i64 ((qA3 l0 x10_1).f3), .string ((qA3 l0 x10_1).f4)] 79 (0, 0))) ∧ qA0 (Below w.heap.size w wc))
 case first =>
  have H := HC5.out
  clear HC5
  obtain ⟨-, c8b0, c8b1, H⟩ | ⟨c8, c8b0, c8b1, H⟩ := y4 H
  ·(first | rw [c8b0] | (simp only [qCI, qCO]; rw [c8b0]) | skip)
   have H' := zq H
   clear H
   go_wp2
   go_meet
   case rel => exact ⟨_, ((((qA3 l0 x10_1).f0) == 1)), zs, H', ⟨by have := HK1.out; first | omega | exact Nat.le_refl _⟩, ⟨by (with_reducible repeat refine sR ?_); exact Kd.qB3 (Kd.qAW (Kd.qAW (Kd.qAW (Kd.qAW (Kd.qAW (Kd.qBW HO_4.out BK379.out (by decide)) (fun _ hk => hk.2) _) (fun _ hk => hk.2) _) (fun _ hk => hk.2) _) (fun _ hk => hk.2) _) (fun _ hk => hk.2) _) (fun _ hk => hk.1)⟩, ⟨by (with_reducible repeat refine sR ?_); exact Kd.qB3 (Kd.qAW (Kd.qAW (Kd.qAW (Kd.qAW (Kd.qAW (Kd.qBW HO_5.out BK379.out (by decide)) (fun _ hk => hk.2) _) (fun _ hk => hk.2) _) (fun _ hk => hk.2) _) (fun _ hk => hk.2) _) (fun _ hk => hk.2) _) (fun _ hk => hk.1)⟩, ⟨zp5 BK379⟩, ⟨zb⟩⟩
  (first | rw [c8b0] | (simp only [qCI, qCO]; rw [c8b0]) | skip)
  obtain ⟨-, c9b0, c9b1, H⟩ | ⟨c9, c9b0, c9b1, H⟩ := y4 H
  rotate_left
  ·have H' := zq H
   clear H
   go_wp2
   go_meet
   case rel => exact ⟨_, ((((qA3 l0 x10_1).f0) == 3)), zs, H', ⟨by have := HK1.out; first | omega | exact Nat.le_refl _⟩, ⟨by (with_reducible repeat refine sR ?_); exact Kd.qB3 (Kd.qAW (Kd.qAW (Kd.qAW (Kd.qAW (Kd.qAW (Kd.qBW HO_4.out BK379.out (by decide)) (fun _ hk => hk.2) _) (fun _ hk => hk.2) _) (fun _ hk => hk.2) _) (fun _ hk => hk.2) _) (fun _ hk => hk.2) _) (fun _ hk => hk.1)⟩, ⟨by (with_reducible repeat refine sR ?_); exact Kd.qB3 (Kd.qAW (Kd.qAW (Kd.qAW (Kd.qAW (Kd.qAW (Kd.qBW HO_5.out BK379.out (by decide)) (fun _ hk => hk.2) _) (fun _ hk => hk.2) _) (fun _ hk => hk.2) _) (fun _ hk => hk.2) _) (fun _ hk => hk.2) _) (fun _ hk => hk.1)⟩, ⟨zp5 BK379⟩, ⟨zb⟩⟩
  have H' := zq H
  clear H
  go_wp2
  go_meet
  case rel => exact ⟨_, ((((qA3 l0 x10_1).f0) == 2)), zs, H', ⟨by have := HK1.out; first | omega | exact Nat.le_refl _⟩, ⟨by (with_reducible repeat refine sR ?_); exact Kd.qB3 (Kd.qAW (Kd.qAW (Kd.qAW (Kd.qAW (Kd.qAW (Kd.qBW HO_4.out BK379.out (by decide)) (fun _ hk => hk.2) _) (fun _ hk => hk.2) _) (fun _ hk => hk.2) _) (fun _ hk => hk.2) _) (fun _ hk => hk.2) _) (fun _ hk => hk.1)⟩, ⟨by (with_reducible repeat refine sR ?_); exact Kd.qB3 (Kd.qAW (Kd.qAW (Kd.qAW (Kd.qAW (Kd.qAW (Kd.qBW HO_5.out BK379.out (by decide)) (fun _ hk => hk.2) _) (fun _ hk => hk.2) _) (fun _ hk => hk.2) _) (fun _ hk => hk.2) _) (fun _ hk => hk.2) _) (fun _ hk => hk.1)⟩, ⟨zp5 BK379⟩, ⟨zb⟩⟩
 clear HC5 c2b0 c3b0 c4b0 hcz7 hx378_0 hx378_1 hx378_2 hx378_3 hx378_4 p378 q378
 obtain ⟨kq, x16_4, rfl, HA, HJ4, HO_4, HO_5, BK379, HB⟩ := hcut
 obtain _ | kj4 := kq
 ·exact absurd HA.out (by simp [qAL.j1])
 have H := HA.out
 clear HA
 simp only [qAL.j1] at H
 by_cases c10 : x16_4 = true
 ·subst c10
  rw [if_pos rfl] at H
  obtain ⟨c11, -, H⟩ := y1 H
  have LMc11 := zq c11
  clear c11
  obtain ⟨y380, hy_⟩ : ∃ y_ : List ByteArray, y_ = (x4_1 ++ [((qA3 l0 x10_1).f4)]) := ⟨_, rfl⟩
  replace H : (qAL.l0 kj4 y380 x5_1 l0 (l0.length : Int) (wrap64 (x10_1 + 1))) = some (r1, r2) := zr
  have Ny380 := zq hy_
  clear hy_
  have H' := zq H
  clear H
  have hcz12 := bc5 BK379.out
  go_wp2_with (((with_reducible refine qDV (b := .append) (xs := #[.tmp 20, .tmp 23]) rfl ?_); at_builtin; refine Kd.R_append Kd.string (w0 := w) w.heap.size rfl (.tmp 20) (.tmp 23) 65 9 (.string ⟨#[]⟩) 16 rfl Tryz.underlying65 info9 rfl (by decide) (by omega) u4 x4_1 ((qA3 l0 x10_1).f4) [.string ((qA3 l0 x10_1).f4)] (fun k_ => some k_ ≠ (u5 : Value).ownBlock) (fun _ => False) rfl rfl ?aP (fun _ hk => hk.elim) ?aF ?aO ?aB ?aS ?aL ?_; (case aP => exact rfl); (case aB => exact zb); (case aF => exact (fun k_ hk => Kd.fresh' (Kd.R_lt (by (with_reducible repeat refine sR ?_); exact HO_5.out)) k_ hk)); (case aO => exact (by (with_reducible repeat refine sR ?_); exact HO_4.out)); (case aS => exact (qAH zb)); (case aL => have := LMc11.out; omega); intro v381 w13 ho hb hg hat; rw [← Ny380.out] at ho; have HO382 := zq (ho); replace HO_5 := zq (Kd.R_after (ok := (fun _ => True)) (by (with_reducible repeat refine sR ?_); exact Kd.qB3 HO_5.out (fun _ hk => ⟨trivial, hk⟩)) hg hat); replace BK379 := zq (qAF (g := gb379) (o := .cells #[.int .i64 ((qA3 l0 x10_1).f0), .slice A378_1 ((qA3 l0 x10_1).f1).length c378_1, .int .i64 ((qA3 l0 x10_1).f2), .int .i64 ((qA3 l0 x10_1).f3), .string ((qA3 l0 x10_1).f4)] 79 (0, 0)) (zk BK379) hg (Kd.R_ne HO_4.out BK379.out (by decide))); replace HB := zq (hb); clear HO_4; clear ho hb hg hat))
  go_roundg kj4
  case measure => have := HK1.out; have := HJ4.out; omega
  case rel => exact ⟨(y380), (x5_1), (wrap64 (x10_1 + 1)), zs, H', ⟨by have := HK1.out; have := HJ4.out; omega⟩, zR HO382, ⟨by (with_reducible repeat refine sR ?_); exact Kd.qB3 HO_5.out (fun _ hk => hk.2)⟩, ⟨zb⟩⟩
 replace c10 := Bool.eq_false_iff.mpr c10
 subst c10
 rw [zj] at H
 obtain ⟨-, c14b0, c14b1, H⟩ | ⟨c14, c14b0, c14b1, H⟩ := y4 H
 rotate_left
 ·have H' := zq H
  clear H
  go_wp2
  go_roundg kj4
  case measure => have := HK1.out; have := HJ4.out; omega
  case rel => exact ⟨(x4_1), (x5_1), (wrap64 (x10_1 + 1)), zs, H', ⟨by have := HK1.out; have := HJ4.out; omega⟩, zR HO_4, zR HO_5, ⟨zb⟩⟩
 obtain ⟨c15, -, H⟩ := y1 H
 have LMc15 := zq c15
 clear c15
 obtain ⟨y383, hy_⟩ : ∃ y_ : List ByteArray, y_ = (x5_1 ++ [((qA3 l0 x10_1).f4)]) := ⟨_, rfl⟩
 replace H : (qAL.l0 kj4 x4_1 y383 l0 (l0.length : Int) (wrap64 (x10_1 + 1))) = some (r1, r2) := zr
 have Ny383 := zq hy_
 clear hy_
 have H' := zq H
 clear H
 have hcz16 := bc5 BK379.out
 go_wp2_with (((with_reducible refine qDV (b := .append) (xs := #[.tmp 27, .tmp 30]) rfl ?_); at_builtin; refine Kd.R_append Kd.string (w0 := w) w.heap.size rfl (.tmp 27) (.tmp 30) 65 9 (.string ⟨#[]⟩) 16 rfl Tryz.underlying65 info9 rfl (by decide) (by omega) u5 x5_1 ((qA3 l0 x10_1).f4) [.string ((qA3 l0 x10_1).f4)] (fun k_ => some k_ ≠ (u4 : Value).ownBlock) (fun _ => False) rfl rfl ?aP (fun _ hk => hk.elim) ?aF ?aO ?aB ?aS ?aL ?_; (case aP => exact rfl); (case aB => exact zb); (case aF => exact (fun k_ hk => Kd.fresh' (Kd.R_lt (by (with_reducible repeat refine sR ?_); exact HO_4.out)) k_ hk)); (case aO => exact (by (with_reducible repeat refine sR ?_); exact HO_5.out)); (case aS => exact (qAH zb)); (case aL => have := LMc15.out; omega); intro v384 w17 ho hb hg hat; rw [← Ny383.out] at ho; have HO385 := zq (ho); replace HO_4 := zq (Kd.R_after (ok := (fun _ => True)) (by (with_reducible repeat refine sR ?_); exact Kd.qB3 HO_4.out (fun _ hk => ⟨trivial, hk⟩)) hg hat); replace BK379 := zq (qAF (g := gb379) (o := .cells #[.int .i64 ((qA3 l0 x10_1).f0), .slice A378_1 ((qA3 l0 x10_1).f1).length c378_1, .int .i64 ((qA3 l0 x10_1).f2), .int .i64 ((qA3 l0 x10_1).f3), .string ((qA3 l0 x10_1).f4)] 79 (0, 0)) (zk BK379) hg (Kd.R_ne HO_5.out BK379.out (by decide))); replace HB := zq (hb); clear HO_5; clear ho hb hg hat))
 go_roundg kj4
 case measure => have := HK1.out; have := HJ4.out; omega
 case rel => exact ⟨(x4_1), (y383), (wrap64 (x10_1 + 1)), zs, H', ⟨by have := HK1.out; have := HJ4.out; omega⟩, ⟨by (with_reducible repeat refine sR ?_); exact Kd.qB3 HO_4.out (fun _ hk => hk.2)⟩, zR HO385, ⟨zb⟩⟩
theorem encs_app (l ys : List ByteArray) : encs Value.string (l ++ ys) = encs Value.string l ++ encs Value.string ys := by simp [encs]
theorem info9x : (Tryz.prog.info? 9).map (fun i => (i.zero, i.size, i.bytes)) = some (some (.string ⟨#[]⟩), 1, 16) := by kernel_rfl
theorem looks_app (W : World) (base base' : Nat) (v u : Value) (l ys : List ByteArray) (HO : W.ownsRow base 9 1 v l.length (encs Value.string l)) (HU : W.ownsRow base' 9 1 u ys.length (encs Value.string ys)) (hbase : base ≤ W.heap.size) (hl : (l.length + ys.length) * 16 ≤ 140737488355328) :
  ∃ v1 w1, (Builtin.append_ #[65, 65] 65 #[v, u]).run Tryz.prog W = .ok v1 w1 ∧ w1.ownsRow base 9 1 v1 (l ++ ys).length (encs Value.string (l ++ ys)) ∧ W.grownBy w1 v.ownBlock ∧ (v1.ownBlock = v.ownBlock ∨ v1.ownBlock = some W.heap.size) := by
 obtain ⟨i0, hi, hz0, hz1, hz2⟩ := info_parts info9x
 have hlu := HU.1
 rcases HU.2 with ⟨rfl, hn⟩ | ⟨g, cap, cur, rfl, hg, hb, hnc, hcm, hcs, htake⟩
 ·have h0 : ys = [] := List.length_eq_zero_iff.1 hn
  subst h0
  refine ⟨v, W, ?_, by simpa using HO, World.grownBy.refl W _, .inl rfl⟩
  rcases HO.2 with ⟨rfl, hn⟩ | ⟨g, cap, cur, rfl, _, _, hnc, _⟩
  ·simp [Builtin.append_, run_underlying Tryz.underlying65, sizeOf, typeInfo, hi, Builtin.lenOf, Builtin.firstCells]
  ·simp [Builtin.append_, run_underlying Tryz.underlying65, sizeOf, typeInfo, hi, Builtin.lenOf, Builtin.firstCells, hnc, storeCells]
 ·have hcells : ∀ j q, (encs Value.string ys)[j]? = some q → W.cell? ((⟨g, 0, none⟩ : Addr).add j) = some q := fun j q hq => by
   have hj : j < (encs Value.string ys).length := by
    rcases Nat.lt_or_ge j (encs Value.string ys).length with h | h
    ·exact h
    ·rw [List.getElem?_eq_none h] at hq; cases hq
   have h1 : (cur.toList.take (ys.length * 1))[j]? = some q := by rw [htake]; exact hq
   rw [List.getElem?_take_of_lt (by omega)] at h1
   rw [add_plain, cell_of_row W g j cur 9 (0, 0) hb]
   simpa using h1
  obtain ⟨v1, w1, hr, h2, h3, _, h5⟩ := run_append_own_at (P := Tryz.prog) W base 65 65 9 i0 (.string ⟨#[]⟩) 1 16 Tryz.underlying65 hi hz0 hz1 hz2 rfl (by decide) v l.length (encs Value.string l) HO ⟨g, 0, none⟩ ys.length cap (encs Value.string ys) (by simp [encs]) hcells
   (fun q hq => by simp only [encs, List.mem_map] at hq; obtain ⟨z, _, rfl⟩ := hq; rfl) (by simp only [maxLen]; omega) hl hbase
  exact ⟨v1, w1, hr, by rw [encs_app, List.length_append]; exact h2, h3, h5⟩
theorem step_app {ops : Array Oper} {o : Oper} {a : Act} {K : Act → World → Prop} {Q : Exit → Act → World → Prop} {E : Prop} {W w1 : World} {v1 : Value} (hgd : o.guard = none) (s x : Operand) (t : TypeId) (ho : o.op = .call { callee := .builtin .append, args := #[s, x], argTypes := #[t, t] }) (hty : o.type = t)
  (v u : Value) (hs : a.eval s = v) (hx : a.eval x = u) (hr : (Builtin.append_ #[t, t] t #[v, u]).run Tryz.prog W = .ok v1 w1) (h : K (a.put o.dst v1) w1) :
  if Region.wanted o (yielded ops a.tmps) = true then Oper.wp Tryz.prog o a W K Q else E := by
 have hw : Region.wanted o (yielded ops a.tmps) = true := by simp [Region.wanted, hgd]
 rw [if_pos hw]
 unfold Oper.wp execOp
 simp only [ho, resolve, invoke, builtin, Sem.run_bind, Sem.run_pure, Result.andThen_ok, List.map_toArray, List.map_cons, List.map_nil, hs, hx, hty, hr]
 exact h
def sliR : Value → Option (DataW Unit × List MemPlace)
 | .slice none 0 0 => some (.nil, [])
 | .slice (some ⟨p, 0, none⟩) n c => some (.agg [.lit (.int .i64 p), .lit (.int .i64 n), .lit (.int .i64 c)], [])
 | _ => none
def encV : Value → DataW Unit
 | .slice (some a) n c => .agg [.lit (.int .i64 a.block), .lit (.int .i64 n), .lit (.int .i64 c)]
 | _ => .nil
theorem sliR_of {v : Value} {base n : Nat} {xs : List Value} {W : World} (h : W.ownsRow base 9 1 v n xs) : sliR v = some (encV v, []) := by
 rcases h.2 with ⟨rfl, _⟩ | ⟨g, cap, cur, rfl, _⟩ <;> rfl
theorem sliR_inj {v u : Value} {D : DataW Unit} {ps qs : List MemPlace} (hv : sliR v = some (D, ps)) (hu : sliR u = some (D, qs)) : v = u := by
 unfold sliR at hv hu
 split at hv
 ·split at hu
  ·rfl
  ·simp only [Option.some.injEq, Prod.mk.injEq] at hv hu; rw [← hv.1] at hu; cases hu.1
  ·cases hu
 ·split at hu
  ·simp only [Option.some.injEq, Prod.mk.injEq] at hv hu; rw [← hv.1] at hu; cases hu.1
  ·simp only [Option.some.injEq, Prod.mk.injEq] at hv hu
   have := hv.1.trans hu.1.symm
   simp only [DataW.agg.injEq, List.cons.injEq, DataW.lit.injEq, Lit.int.injEq, true_and, and_true] at this
   obtain ⟨h1, h2, h3⟩ := this
   rw [Int.ofNat.inj h1, Int.ofNat.inj h2, Int.ofNat.inj h3]
  ·cases hu
 ·cases hv
def qEQ (P : List (ByteArray × List ByteArray)) (s : ByteArray) : List ByteArray := (P.filter fun p => decide (p.1 = s)).flatMap fun p => p.2
theorem lookN_snoc (P : List (ByteArray × List ByteArray)) (k s : ByteArray) (l : List ByteArray) : qEQ (P ++ [(k, l)]) s = if k = s then qEQ P s ++ l else qEQ P s := by
 unfold qEQ
 rw [List.filter_append, List.flatMap_append]
 by_cases h : k = s <;> simp [h]
structure LM (w0 W : World) (b : Nat) (P : List (ByteArray × List ByteArray)) (g : ByteArray → Value) : Prop where
 below : Below w0.heap.size w0 W
 hb : w0.heap.size ≤ b
 own : ∃ n D, n ≤ P.length ∧ W.ownsMap Tryz.prog 9 sliR b n D ∧ ∀ (s : ByteArray) (zd : DataW Unit), s.size ≤ maxLen → D.atKey (.string s.data.toList) zd = if s ∈ P.map (·.1) then encV (g s) else zd
 rows : ∀ s, W.ownsRow w0.heap.size 9 1 (g s) (qEQ P s).length (encs Value.string (qEQ P s))
 out : ∀ s, s ∉ P.map (·.1) → g s = .slice none 0 0
 inj : ∀ s s' k, s ≠ s' → (g s).ownBlock = some k → (g s').ownBlock ≠ some k
theorem LM.blk {w0 W : World} {b : Nat} {P : List (ByteArray × List ByteArray)} {g : ByteArray → Value} (h : LM w0 W b P g) : ∃ es c, W.heap[b]? = some (.map es c) := by
 obtain ⟨n, D, _, ⟨es, c, hb, _⟩, _⟩ := h.own
 exact ⟨es, c, hb⟩
theorem qD5 {W : World} {base n : Nat} {v : Value} {xs : List Value} (h : W.ownsRow base 9 1 v n xs) {k : Nat} (hk : v.ownBlock = some k) : base ≤ k ∧ ∃ cells, W.heap[k]? = some (.cells cells 9 (0, 0)) := by
 rcases h.2 with ⟨rfl, _⟩ | ⟨g, cap, cur, rfl, hg, hb, _⟩
 ·simp [Value.ownBlock] at hk
 ·have : g = k := by simpa [Value.ownBlock] using hk
  subst this
  exact ⟨hg, cur, hb⟩
theorem LM.keep {w0 W W' : World} {b : Nat} {P : List (ByteArray × List ByteArray)} {g : ByteArray → Value} (h : LM w0 W b P g) (hB : Below W.heap.size W W') : LM w0 W' b P g := by
 obtain ⟨n, D, hn, own, at_⟩ := h.own
 exact ⟨qA7 h.below hB, h.hb, ⟨n, D, hn, own.kept (qAN hB none) (by simp), at_⟩, fun s => qCY (h.rows s) (fun k hk => by obtain ⟨_, cells, hc⟩ := qD5 (h.rows s) hk; exact hB.block k (Gen.qAT hc)), h.out, h.inj⟩
theorem LM.made (w0 W : World) (h : Below w0.heap.size w0 W) : LM w0 (W.alloc (.map #[] 0)) W.heap.size [] (fun _ => .slice none 0 0) :=
 ⟨qAA h _, h.size, ⟨0, _, Nat.le_refl _, World.ownsMap_made W _ _ _, fun s zd _ => rfl⟩, fun s => own_nil _ _ _ _, fun _ _ => rfl, fun _ _ _ _ e => by cases e⟩
theorem LM.look_at {w0 W W' : World} {b : Nat} {P : List (ByteArray × List ByteArray)} {g : ByteArray → Value} (h : LM w0 W b P g) (he : W'.heap[b]? = W.heap[b]?) {s : ByteArray} (hs : s.size ≤ maxLen) : (Instr.lookup 63 (.map (some b)) (.string s) false).run Tryz.prog W' = .ok (g s) W' := by
 obtain ⟨n, D, _, ⟨es, cl, hb, F, hs', hD⟩, at_⟩ := h.own
 have own : W'.ownsMap Tryz.prog 9 sliR b n D := ⟨es, cl, he.trans hb, F, hs', hD⟩
 obtain ⟨v, ps, hrun, hR⟩ := own.lookup keyed9 Tryz.underlying63 (z := .slice none 0 0) (Tryz.zeroValue65 W') (zd := .nil) (zp := []) rfl (WideMaps.keyOf_string_mk Tryz.underlying9 hs)
 rw [at_ s .nil hs] at hR
 rw [hrun]
 congr 1
 by_cases e : s ∈ P.map (·.1)
 ·rw [if_pos e] at hR
  exact sliR_inj hR (sliR_of (h.rows s))
 rw [if_neg e] at hR
 rw [h.out s e]
 exact sliR_inj hR (show sliR (.slice none 0 0) = some (.nil, []) from rfl)
theorem LM.look {w0 W : World} {b : Nat} {P : List (ByteArray × List ByteArray)} {g : ByteArray → Value} (h : LM w0 W b P g) {s : ByteArray} (hs : s.size ≤ maxLen) : (Instr.lookup 63 (.map (some b)) (.string s) false).run Tryz.prog W = .ok (g s) W := h.look_at rfl hs
theorem LM.put {w0 W0 W1 W2 : World} {b : Nat} {P : List (ByteArray × List ByteArray)} {g : ByteArray → Value} (h : LM w0 W0 b P g) (hl : P.length < maxLen) {s : ByteArray} (hs : s.size ≤ maxLen) (c t : List ByteArray) {v1 v2 : Value}
  (g1 : W0.grownBy W1 (g s).ownBlock) (b1 : v1.ownBlock = (g s).ownBlock ∨ v1.ownBlock = some W0.heap.size) (g2 : W1.grownBy W2 v1.ownBlock) (b2 : v2.ownBlock = v1.ownBlock ∨ v2.ownBlock = some W1.heap.size) (o2 : W2.ownsRow w0.heap.size 9 1 v2 (qEQ P s ++ c ++ t).length (encs Value.string (qEQ P s ++ c ++ t))) :
  ∃ W3, (Instr.mapUpdate 63 (.map (some b)) (.string s) v2).run Tryz.prog W2 = .ok () W3 ∧ LM w0 W3 b (P ++ [(s, c ++ t)]) (fun x => if x = s then v2 else g x) ∧ W2.grownBy W3 (some b) := by
 obtain ⟨n, D, hn, own, at_⟩ := h.own
 obtain ⟨es, cl, hblk⟩ := h.blk
 have hlt : b < W0.heap.size := Gen.qAT hblk
 have hz1 := g1.size
 have hz2 := g2.size
 have hne0 : some b ≠ (g s).ownBlock := fun e => by
  obtain ⟨_, cells, hc⟩ := qD5 (h.rows s) e.symm
  rw [hblk] at hc; cases hc
 have hne1 : some b ≠ v1.ownBlock := by
  rcases b1 with e | e
  ·rw [e]; exact hne0
  ·rw [e]; intro e; have := zy e; omega
 have own2 := (own.kept g1 hne0).kept g2 hne1
 obtain ⟨W3, hrun, ho, hg3⟩ := own2.update keyed9 Tryz.underlying63 (Nat.lt_of_le_of_lt hn hl) (WideMaps.keyOf_string_mk Tryz.underlying9 hs) (val := v2) (d := encV v2) (ps := []) (sliR_of o2)
 have hblk2 : W2.heap[b]? = some (.map es cl) := by rw [g2.block b (by omega) hne1, g1.block b hlt hne0]; exact hblk
 have far : ∀ k, k < W0.heap.size → some k ≠ (g s).ownBlock → k ≠ b → W3.heap[k]? = W0.heap[k]? := fun k hk h0 hb => by
  have h1 : some k ≠ v1.ownBlock := by
   rcases b1 with e | e
   ·rw [e]; exact h0
   ·rw [e]; intro e; have := zy e; omega
  rw [hg3.block k (by omega) (fun e => hb (zy e)), g2.block k (by omega) h1, g1.block k hk h0]
 refine ⟨W3, hrun, ⟨?_, h.hb, ⟨n + 1, _, by simp; omega, ho, fun x zd hx => ?_⟩, fun x => ?_, fun x hx => ?_, fun x y k hxy hk hk' => ?_⟩, hg3⟩
 ·have s1 := qBI h.below (g s).ownBlock h.below.size g1 (fun k e => (qD5 (h.rows s) e).1)
  have s2 := qBI s1 v1.ownBlock s1.size g2 (fun k e => by
   rcases b1 with e' | e'
   ·rw [e'] at e; exact (qD5 (h.rows s) e).1
   ·rw [e'] at e; have := zy e; have := h.below.size; omega)
  exact qBI s2 (some b) s2.size hg3 (fun k e => by obtain rfl := zy e; exact h.hb)
 ·by_cases e : x = s
  ·subst e
   rw [Maps.atKey_put_same own.isMap (show WideAt.IsKeyLit (.string x.data.toList) from trivial)]
   simp
  ·have hm : x ∈ (P ++ [(s, c ++ t)]).map (·.1) ↔ x ∈ P.map (·.1) := by rw [List.map_append, List.mem_append]; simp [e]
   rw [Maps.atKey_put_other (fun e' => e (str_inj (by injection e'))), at_ x zd hx]
   simp only [hm, if_neg e]
 ·rw [lookN_snoc]
  by_cases e : x = s
  ·subst e
   rw [if_pos rfl, if_pos rfl, ← List.append_assoc]
   exact qCY o2 (fun k hk => by
    obtain ⟨_, cells, hc⟩ := qD5 o2 hk
    exact hg3.block k (Gen.qAT hc) (fun e => by obtain rfl := zy e; rw [hblk2] at hc; cases hc))
  ·rw [if_neg e, if_neg (fun e' => e e'.symm)]
   exact qCY (h.rows x) (fun k hk => by
    obtain ⟨_, cells, hc⟩ := qD5 (h.rows x) hk
    exact far k (Gen.qAT hc) (fun e' => h.inj x s k e hk e'.symm) (fun e' => by subst e'; rw [hblk] at hc; cases hc))
 ·have e : x ≠ s := fun e => hx (by simp [e])
  rw [if_neg e]
  exact h.out x (fun hm => hx (by simp only [List.map_append, List.mem_append]; exact .inl hm))
 ·have key : ∀ z k, z ≠ s → (g z).ownBlock = some k → v2.ownBlock ≠ some k := fun z k hz hk hv => by
   obtain ⟨_, cells, hc⟩ := qD5 (h.rows z) hk
   have hkl := Gen.qAT hc
   have h0 : (g s).ownBlock ≠ some k := h.inj z s k hz hk
   rcases b2 with e | e
   ·rcases b1 with e1 | e1
    ·rw [e, e1] at hv; exact h0 hv
    ·rw [e, e1] at hv; have := zy hv; omega
   ·rw [e] at hv; have := zy hv; omega
  by_cases e1 : x = s <;> by_cases e2 : y = s
  ·exact hxy (e1.trans e2.symm)
  ·simp only [if_pos e1, if_neg e2] at hk hk'
   exact key y k e2 hk' hk
  ·simp only [if_neg e1, if_pos e2] at hk hk'
   exact key x k e1 hk hk'
  ·simp only [if_neg e1, if_neg e2] at hk hk'
   exact h.inj x y k hxy hk hk'
def qE6 : List S55 → List (ByteArray × List ByteArray) → Option (List (ByteArray × List ByteArray))
 | [], P => some P
 | x :: r, P => if P.length < 1000000 then (if x.f1.size ≤ maxLen then (Gen.lim fun k => qAL.f k x.f2).bind fun c => (Gen.lim fun k => qAL.f k x.f3).bind fun t => if ((qEQ P x.f1).length + c.1.length + t.1.length) * 16 ≤ 140737488355328 then qE6 r (P ++ [(x.f1, c.1 ++ t.1)]) else none else none) else none
def qCG.go : List S49 → List (ByteArray × List ByteArray) → Option (List (ByteArray × List ByteArray))
 | [], P => some P
 | a :: r, P => (qE6 a.f5 P).bind (qCG.go r)
def qCG.f (l0 : List S49) : Option (List (ByteArray × List ByteArray)) := qCG.go l0 []
theorem qCG.walk (A0 : Option Addr) (c0 : Nat) (l0 : List (S49)) (r : List (ByteArray × List ByteArray)) (w : World) (hr0 : Kd.C k49 w A0 l0.length l0) (hc0 : l0.length ≤ c0) (h : qCG.f l0 = some r) :
  Calls Tryz.prog 20 #[.slice A0 l0.length c0] w fun e w' => ∃ g, e = .returned (.map (some w.heap.size)) ∧ LM w w' w.heap.size r g := by
 have HR := zq hr0
 have HC := zq hc0
 have H0 := zq h
 have hm : l0.length ≤ 9223372036854775807 := Kd.qE9 hr0
 clear hr0 hc0 h
 have HP := zq (LM.made w w (Below.refl _ _))
 have hmm := @run_makeMap Tryz.prog
 go_enter Tryz.func20, Tryz.ntmps20
 go_wp2_with fail
 generalize w.alloc (.map #[] 0) = W0 at HP ⊢
 go_loopw [15] (fun v15 wr => ∃ (i : Nat) (P : List (ByteArray × List ByteArray)) (g : ByteArray → Value), i ≤ l0.length ∧ v15 = .int .i64 (i : Int) ∧ qA0 (qCG.go (l0.drop i) P = some r) ∧ qA0 (LM w wr w.heap.size P g)) (fun v15 _ => l0.length - (RowKit.intOf v15).toNat)
 case atStart => exact ⟨0, [], _, by omega, rfl, ⟨by simpa [qCG.f] using H0.out⟩, HP⟩
 clear H0 HP
 obtain ⟨i, P, g, hi, rfl, HG, HP⟩ := hrel
 by_cases hlt : i < l0.length
 rotate_left
 ·obtain rfl : i = l0.length := by omega
  have hr : r = P := by have := HG.out; rw [List.drop_length] at this; simp only [qCG.go] at this; exact (zy this).symm
  subst hr
  go_wp2_with fail
  go_ret
  exact ⟨g, rfl, HP.out⟩
 obtain ⟨ad, A3, c3, A4, c4, A5, c5, e0, hx0, hx1, hx2, hx3, hx4, hx5, hl3, hi3, hl4, hi4, hl5, hi5⟩ := qEY HR.out (i : Int) (by omega) (by omega)
 cases e0
 simp only [Int.toNat_natCast] at hx0 hx1 hx2 hx3 hx4 hx5
 have hB := HP.out.below
 replace hx0 := (hB.cell (World.block_lt_of_cell? w _ hx0)).trans hx0
 replace hx1 := (hB.cell (World.block_lt_of_cell? w _ hx1)).trans hx1
 replace hx2 := (hB.cell (World.block_lt_of_cell? w _ hx2)).trans hx2
 replace hx3 := (hB.cell (World.block_lt_of_cell? w _ hx3)).trans hx3
 replace hx4 := (hB.cell (World.block_lt_of_cell? w _ hx4)).trans hx4
 replace hx5 := (hB.cell (World.block_lt_of_cell? w _ hx5)).trans hx5
 have hd : l0.drop i = qA4 l0 (i : Int) :: l0.drop (i + 1) := by rw [List.drop_eq_getElem_cons hlt]; simp [qA4, hlt]
 have hG := HG.out
 rw [hd] at hG
 generalize qA4 l0 (i : Int) = a at *
 simp only [qCG.go] at hG
 have HG1 := zq hG
 have HI5 := zq (And.intro hl5 hi5)
 have hm5 := Kd.qE9 hi5
 have HS := zq (Gen.qEC hlt hm)
 clear hG HG hd hl3 hi3 hl4 hi4 hl5 hi5 hB
 obtain ⟨wo, rfl⟩ : ∃ wo : World, wo = wr := ⟨_, rfl⟩
 generalize hW1 : wo.alloc (.cells #[.string a.f0, .int .i64 a.f1, .int .i64 a.f2, .slice A3 a.f3.length c3, .slice A4 a.f4.length c4, .slice A5 a.f5.length c5] 49) = W1
 have hB1 : Below wo.heap.size wo W1 := by rw [← hW1]; exact qAA (Below.refl _ _) _
 have HW1 := zq hW1
 have HP1 := zq (HP.out.keep hB1)
 have hk5 : W1.cell? ⟨wo.heap.size, 5, none⟩ = some (.slice A5 a.f5.length c5) := by rw [← hW1]; simp
 clear hW1 hB1 HP
 go_wp2_with fail
 rw [HW1.out]
 clear HW1 hx0 hx1 hx2 hx3 hx4 hx5 hk5
 go_loopw [22] (fun v22 wx => ∃ (j : Nat) (P' : List (ByteArray × List ByteArray)) (g' : ByteArray → Value), j ≤ a.f5.length ∧ v22 = .int .i64 (j : Int) ∧ qA0 ((qE6 (a.f5.drop j) P').bind (qCG.go (l0.drop (i + 1))) = some r) ∧ qA0 (LM w wx w.heap.size P' g')) (fun v22 _ => a.f5.length - (RowKit.intOf v22).toNat)
 case atStart => exact ⟨0, P, g, by omega, rfl, ⟨by simpa using HG1.out⟩, HP1⟩
 clear HG1 HP1
 obtain ⟨j, P', g', hj, rfl, HG2, HP2⟩ := hrel
 by_cases hjl : j < a.f5.length
 rotate_left
 ·obtain rfl : j = a.f5.length := by omega
  have HG3 := zq (by have := HG2.out; rw [List.drop_length] at this; simpa [qE6] using this)
  have hs := HS.out
  clear HG2 hj
  go_wp2_with fail
  go_roundw
  case rel => exact ⟨i + 1, P', g', by omega, by first | rfl | (simp; done) | rw [Int.natCast_add]; rfl, HG3, HP2⟩
  case measure => simp [RowKit.intOf]; omega
 obtain ⟨ad5, B2, d2, B3, d3, B4, d4, e5, y0, y1, y2, y3, y4, y5, hl2, hi2, hl3, hi3, hl4, hi4⟩ := at_T55 HI5.out.2 (j : Int) (by omega) (by omega)
 cases e5
 simp only [Int.toNat_natCast] at y0 y1 y2 y3 y4 y5
 have hB := HP2.out.below
 replace y0 := (hB.cell (World.block_lt_of_cell? w _ y0)).trans y0
 replace y1 := (hB.cell (World.block_lt_of_cell? w _ y1)).trans y1
 replace y2 := (hB.cell (World.block_lt_of_cell? w _ y2)).trans y2
 replace y3 := (hB.cell (World.block_lt_of_cell? w _ y3)).trans y3
 replace y4 := (hB.cell (World.block_lt_of_cell? w _ y4)).trans y4
 replace y5 := (hB.cell (World.block_lt_of_cell? w _ y5)).trans y5
 have hd : a.f5.drop j = qAY a.f5 (j : Int) :: a.f5.drop (j + 1) := by rw [List.drop_eq_getElem_cons hjl]; simp [qAY, hjl]
 have hG := HG2.out
 rw [hd] at hG
 generalize qAY a.f5 (j : Int) = x at hG y0 y1 y2 y3 y4 y5 hl2 hi2 hl3 hi3 hl4 hi4
 simp only [qE6] at hG
 by_cases g1 : P'.length < 1000000
 case neg => rw [if_neg g1] at hG; cases hG
 rw [if_pos g1] at hG
 by_cases g2 : x.f1.size ≤ maxLen
 case neg => rw [if_neg g2] at hG; cases hG
 rw [if_pos g2] at hG
 obtain ⟨q, hq, hK⟩ := Option.bind_eq_some_iff.mp hG
 obtain ⟨⟨c1, c2⟩, hc, hq⟩ := Option.bind_eq_some_iff.mp hq
 obtain ⟨⟨t1, t2⟩, ht, hq⟩ := Option.bind_eq_some_iff.mp hq
 by_cases g3 : ((qEQ P' x.f1).length + c1.length + t1.length) * 16 ≤ 140737488355328
 case neg => rw [if_neg (by simpa using g3)] at hq; cases hq
 rw [if_pos (by simpa using g3)] at hq
 have HGn := zq (show (qE6 (a.f5.drop (j + 1)) (P' ++ [(x.f1, c1 ++ t1)])).bind (qCG.go (l0.drop (i + 1))) = some r from Option.bind_eq_some_iff.mpr ⟨q, hq, hK⟩)
 obtain ⟨n1, hn1⟩ := Gen.lim_some hc
 obtain ⟨n2, hn2⟩ := Gen.lim_some ht
 have HCc := zq hn1
 have HCt := zq hn2
 have HI2 := zq (And.intro hl2 hi2)
 have HI3 := zq (And.intro hl3 hi3)
 have HS2 := zq (Gen.qEC hjl hm5)
 clear hq hc ht hn1 hn2 hK hG HG2 hd hB hl2 hi2 hl3 hi3 hl4 hi4
 obtain ⟨wi, rfl⟩ : ∃ wi : World, wi = wr := ⟨_, rfl⟩
 generalize hW5 : wi.alloc (.cells #[.string x.f0, .string x.f1, .slice B2 x.f2.length d2, .slice B3 x.f3.length d3, .slice B4 x.f4.length d4, .int .i64 x.f5] 55) = W5
 have hB5 : Below wi.heap.size wi W5 := by rw [← hW5]; exact qAA (Below.refl _ _) _
 have k1 : W5.cell? ⟨wi.heap.size, 1, none⟩ = some (.string x.f1) := by rw [← hW5]; simp
 have k2 : W5.cell? ⟨wi.heap.size, 2, none⟩ = some (.slice B2 x.f2.length d2) := by rw [← hW5]; simp
 have k3 : W5.cell? ⟨wi.heap.size, 3, none⟩ = some (.slice B3 x.f3.length d3) := by rw [← hW5]; simp
 have HW5 := zq hW5
 have HP5 := zq (HP2.out.keep hB5)
 have hwi : w.heap.size < wi.heap.size := by obtain ⟨_, _, hb⟩ := HP2.out.blk; exact Gen.qAT hb
 have h56 : wi.heap.size < W5.heap.size := by rw [← hW5]; simp
 have HKG := zq (fun k (hk : (g' x.f1).ownBlock = some k) => by obtain ⟨_, cells, hc⟩ := qD5 (HP2.out.rows x.f1) hk; exact (Gen.qAT hc : k < wi.heap.size))
 clear hW5 hB5 HP2
 go_wp2_with fail
 rw [HW5.out]
 clear y0 y1 y2 y3 y4 y5 HW5
 refine (qAL.calls n1 B2 d2 x.f2 c1 c2 W5 (Kd.qAB HI2.out.2 HP5.out.below) HI2.out.1 HCc.out).mono ?_
 rintro e W6 ⟨v0, v1, rfl, hr0, _, hb6⟩
 have HO0 := zq (Kd.own_of_R hr0)
 have HP6 := zq (HP5.out.keep hb6)
 replace k1 := qA2 hb6 k1
 replace k3 := qA2 hb6 k3
 have hz6 : W5.heap.size ≤ W6.heap.size := hb6.size
 clear hr0 hb6 HP5 k2
 go_wp2_with fail
 refine (qAL.calls n2 B3 d3 x.f3 t1 t2 W6 (Kd.qAB HI3.out.2 HP6.out.below) HI3.out.1 HCt.out).mono ?_
 rintro e W7 ⟨u0, u1, rfl, hr1, _, hb7⟩
 have HO1 := zq (Kd.own_of_R hr1)
 have HO0' := zq (qCY HO0.out (fun k hk => by obtain ⟨_, cells, hc⟩ := qD5 HO0.out hk; exact hb7.block k (Gen.qAT hc)))
 have HP7 := zq (HP6.out.keep hb7)
 replace k1 := qA2 hb7 k1
 have hz7 : W6.heap.size ≤ W7.heap.size := hb7.size
 clear hr1 hb7 HP6 k3 HO0
 have HP8 := HP7.out.keep (W' := W7.drew) (qA8 (Below.refl _ _) 1)
 have hsz : x.f1.size ≤ maxLen := g2
 have hlk := HP8.look hsz
 have O0 : W7.drew.ownsRow W5.heap.size 9 1 v0 c1.length (encs Value.string c1) := HO0'.out
 have O1 : W7.drew.ownsRow W6.heap.size 9 1 u0 t1.length (encs Value.string t1) := HO1.out
 obtain ⟨v1, W8, hr1, o1, gr1, bl1⟩ := looks_app W7.drew w.heap.size W5.heap.size (g' x.f1) v0 (qEQ P' x.f1) c1 (HP8.rows x.f1) O0 HP8.below.size (by omega)
 obtain ⟨es, cl, hblk⟩ := HP8.blk
 have hzd : W7.drew.heap.size = W7.heap.size := rfl
 have nb0 : ∀ k, (g' x.f1).ownBlock = some k → k ≠ w.heap.size := fun k hk e => by obtain ⟨_, cells, hc⟩ := qD5 (HP8.rows x.f1) hk; rw [e] at hc; rw [hblk] at hc; cases hc
 have nb1 : ∀ k, v1.ownBlock = some k → k ≠ w.heap.size ∧ k ≠ wi.heap.size := fun k hk => by
  rcases bl1 with e | e
  ·rw [e] at hk; exact ⟨nb0 k hk, by have := HKG.out k hk; omega⟩
  ·rw [e] at hk; have := zy hk; omega
 have kd1 : W7.drew.cell? ⟨wi.heap.size, 1, none⟩ = some (.string x.f1) := k1
 have k8 : W8.cell? ⟨wi.heap.size, 1, none⟩ = some (.string x.f1) := (gr1.cell_far ⟨wi.heap.size, 1, none⟩ (by simp only; omega) (fun e => by have := HKG.out _ e.symm; simp only at this; omega)).trans kd1
 have hb8 : W8.heap[w.heap.size]? = W7.drew.heap[w.heap.size]? := gr1.block _ (by omega) (fun e => nb0 _ e.symm rfl)
 have hlk8 := HP8.look_at hb8 hsz
 have O1' : W8.ownsRow W6.heap.size 9 1 u0 t1.length (encs Value.string t1) := qCY O1 (fun k hk => by
  obtain ⟨hk6, cells, hc⟩ := qD5 O1 hk
  exact gr1.block k (Gen.qAT hc) (fun e => by have := HKG.out k e.symm; omega))
 have hz8 := gr1.size
 obtain ⟨v2, W9, hr2, o2, gr2, bl2⟩ := looks_app W8 w.heap.size W6.heap.size v1 u0 (qEQ P' x.f1 ++ c1) t1 o1 O1' (by omega) (by rw [List.length_append]; omega)
 have k9 : W9.cell? ⟨wi.heap.size, 1, none⟩ = some (.string x.f1) := (gr2.cell_far ⟨wi.heap.size, 1, none⟩ (by simp only; omega) (fun e => by have := nb1 _ e.symm; simp only at this; omega)).trans k8
 have hb9 : W9.heap[w.heap.size]? = W7.drew.heap[w.heap.size]? := (gr2.block _ (by omega) (fun e => (nb1 _ e.symm).1 rfl)).trans hb8
 have hlk9 := HP8.look_at hb9 hsz
 obtain ⟨W10, hup, hP10, gr3⟩ := HP8.put (by simp only [maxLen]; omega) hsz c1 t1 gr1 bl1 gr2 bl2 o2
 have k10 : W10.cell? ⟨wi.heap.size, 1, none⟩ = some (.string x.f1) := (gr3.cell_far ⟨wi.heap.size, 1, none⟩ (by have := gr2.size; simp only; omega) (by simp; omega)).trans k9
 have HP10 := zq hP10
 have HR1 := zq hr1
 have HR2 := zq hr2
 clear hP10 hr1 hr2 o1 o2 gr1 gr2 bl1 bl2 O0 O1 O1' HP8 hblk nb0 nb1 hb8 hb9 hzd hz8 k1
 go_wp2_with fail
 go_region_held3 (fun w' => w'.cell? ⟨wi.heap.size, 1, none⟩ = some (.string x.f1))
  (first | exact kd1 | exact k8 | exact k9 | exact k10 | go_keep | assumption)
  (first | (refine step_app rfl _ _ 65 rfl rfl (g' x.f1) v0 rfl rfl HR1.out ?_) | (refine step_app rfl _ _ 65 rfl rfl v1 u0 rfl rfl HR2.out ?_))
 have hs := HS2.out
 clear hlk hlk8 hlk9 hup k8 k9 k10 kd1
 go_wp2_with fail
 go_roundw
 case rel => exact ⟨j + 1, P' ++ [(x.f1, c1 ++ t1)], _, by omega, by first | rfl | (simp; done) | rw [Int.natCast_add]; rfl, HGn, HP10⟩
 case measure => simp [RowKit.intOf]; omega
structure qD1.St (W : World) (b n : Nat) (s : ByteArray → Int) : Prop where
 own : ∃ D, W.ownsMap (H := Unit) Tryz.prog 9 (plainElem Tryz.prog 3) b n D ∧ ∀ x : ByteArray, x.size ≤ maxLen → D.atKey (.string x.data.toList) (.lit (.int .i64 0)) = .lit (.int .i64 (s x))
theorem qD1.St.look {W : World} {b n : Nat} {s : ByteArray → Int} (h : qD1.St W b n s) {x : ByteArray} (hx : x.size ≤ maxLen) : (Instr.lookup 122 (.map (some b)) (.string x) false).run Tryz.prog W = .ok (.int .i64 (s x)) W := by
 obtain ⟨D, own, at_⟩ := h.own
 obtain ⟨c, hrun, hat, _⟩ := own.lookup_int keyed9 Tryz.underlying122 Tryz.underlying3 (Tryz.zeroValue3 W) (WideMaps.keyOf_string_mk Tryz.underlying9 hx)
 rw [at_ x hx] at hat
 have hat2 := (Lit.int.inj (DataW.lit.inj hat)).2
 rw [hrun, ← hat2]
theorem qD1.St.put {W : World} {b n : Nat} {s : ByteArray → Int} (h : qD1.St W b n s) (hn : n < maxLen) {x : ByteArray} (hx : x.size ≤ maxLen) {v : Int} (hv : (Lit.int .i64 v).wf = true) :
  ∃ W2, (Instr.mapUpdate 122 (.map (some b)) (.string x) (.int .i64 v)).run Tryz.prog W = .ok () W2 ∧ qD1.St W2 b (n + 1) (Dfs.upd s x v) ∧ W.grownBy W2 (some b) := by
 obtain ⟨D, own, at_⟩ := h.own
 obtain ⟨W2, hrun, ho, hg⟩ := own.update keyed9 Tryz.underlying122 hn (WideMaps.keyOf_string_mk Tryz.underlying9 hx) (val := .int .i64 v) (d := .lit (.int .i64 v)) (ps := []) (plainElem_int Tryz.underlying3 hv)
 refine ⟨W2, hrun, ⟨_, ho, fun y hy => ?_⟩, hg⟩
 by_cases e : y = x
 ·subst e
  rw [Maps.atKey_put_same own.isMap (keyed9.key (WideMaps.keyOf_string_mk Tryz.underlying9 hy))]
  simp [Dfs.upd]
 ·rw [Maps.atKey_put_other (fun e' => e (str_inj (by injection e'))), at_ y hy]
  simp [Dfs.upd, e]
theorem qD1.St.kept {W W' : World} {b n : Nat} {s : ByteArray → Int} {row : Option Nat} (h : qD1.St W b n s) (hg : W.grownBy W' row) (hne : some b ≠ row) : qD1.St W' b n s := by
 obtain ⟨D, own, at_⟩ := h.own
 exact ⟨D, own.kept hg hne, at_⟩
theorem qD1.St.blk {W : World} {b n : Nat} {s : ByteArray → Int} (h : qD1.St W b n s) : ∃ es c, W.heap[b]? = some (.map es c) := by
 obtain ⟨D, ⟨es, c, hb, _⟩, _⟩ := h.own
 exact ⟨es, c, hb⟩
structure qD1.Env (W : World) (bS bN bW bM : Nat) (gp : Addr) : Prop where
 s : W.heap[bS]? = some (.cells #[.map (some bM)] 122 (0, 0))
 x : W.heap[bN]? = some (.cells #[.func (.func 22) #[] #[.pointer (some gp)]] 67 (0, 0))
 k : W.heap[bW]? = some (.cells #[.func (.func 53) #[] #[.pointer (some ⟨bS, 0, none⟩), .pointer (some ⟨bN, 0, none⟩), .pointer (some ⟨bW, 0, none⟩)]] 109 (0, 0))
theorem qD1.Env.kept {W W' : World} {bS bN bW bM n : Nat} {gp : Addr} {s : ByteArray → Int} (h : qD1.Env W bS bN bW bM gp) (hs : qD1.St W bM n s) (hg : W.grownBy W' (some bM)) : qD1.Env W' bS bN bW bM gp := by
 obtain ⟨es, c, hb⟩ := hs.blk
 exact ⟨qAF h.s hg (fun e => by have := zy e; subst this; have := hb.symm.trans h.s; cases this), qAF h.x hg (fun e => by have := zy e; subst this; have := hb.symm.trans h.x; cases this), qAF h.k hg (fun e => by have := zy e; subst this; have := hb.symm.trans h.k; cases this)⟩
structure qD1.Ctx (w : World) (next : ByteArray → List ByteArray) (U : List ByteArray) (gp : Addr) : Prop where
 cl : ∀ x, ∀ y ∈ next x, y ∈ U
 ok : ∀ x ∈ U, x.size ≤ maxLen
 nx : ∀ W, Below w.heap.size w W → ∀ x ∈ U, Calls Tryz.prog 22 #[.string x, .pointer (some gp)] W fun e W' => ∃ A c, e = .returned (.slice A (next x).length c) ∧ (next x).length ≤ c ∧ Kd.C Kd.string W' A (next x).length (next x) ∧ Below W.heap.size W W'
theorem qD1.cell_kept {W W' : World} {b n : Nat} {s : ByteArray → Int} (h : qD1.St W b n s) (hg : W.grownBy W' (some b)) {a : Addr} {v : Value} (hc : W.cell? a = some v) : W'.cell? a = some v := by
 obtain ⟨es, c, hb⟩ := h.blk
 have hlt := World.block_lt_of_cell? W a hc
 have hne : a.block ≠ b := fun e => by simp [World.cell?, e, hb] at hc
 have := hg.block a.block hlt (fun e => hne (zy e))
 simpa [World.cell?, this] using hc
abbrev qD1.Res (U : List ByteArray) (next : ByteArray → List ByteArray) (bM M : Nat) (s : ByteArray → Int) (x : ByteArray) (W : World) (e : Ending) (W' : World) : Prop := ∃ b, e = .returned (.bool b) ∧ W.grownBy W' (some bM) ∧ (b = true → Dfs.Cyc next x) ∧
   (b = false → ∃ (t : ByteArray → Int) (n' : Nat), qD1.St W' bM n' t ∧ n' + 2 * Dfs.zeros U t ≤ M ∧ Dfs.Inv next t ∧ Dfs.Post s t ∧ t x = 2)
theorem qD1.walkA (next : ByteArray → List ByteArray) (U : List ByteArray) (gp : Addr) (bS bN bW bM : Nat) (s : ByteArray → Int) (n M : Nat) (x : ByteArray) (W : World) (hM : n + 2 * Dfs.zeros U s ≤ M) (HE : qD1.Env W bS bN bW bM gp) (HS : qD1.St W bM n s) (hI : Dfs.Inv next s) (hP : Dfs.Path next s x) (hx : x.size ≤ maxLen) (h0 : s x ≠ 0) :
  Calls Tryz.prog 53 #[.string x, .pointer (some ⟨bS, 0, none⟩), .pointer (some ⟨bN, 0, none⟩), .pointer (some ⟨bW, 0, none⟩)] W fun e W' => qD1.Res U next bM M s x W e W' := by
 have hgb : W.grownBy W (some bM) := World.grownBy.refl W _
 have HS1 := HS.kept (row := none) (World.grownBy.refl W _) (by simp)
 have hS : (W).cell? ⟨bS, 0, none⟩ = some (.map (some bM)) := (qA1 (HE.kept HS hgb).s 0).trans rfl
 have hl := HS1.look hx
 have HS' := zq HS1
 have HG := zq hgb
 have HI := zq hI
 clear HS1 hgb hI HE
 have hv := HI.out.val x
 by_cases h1 : s x = 1
 rotate_left
 ·have h2 : s x = 2 := by omega
  have H2 := zq h2
  rw [h2] at hl
  clear hP h1 h0 hv h2
  go_enter Tryz.func53, Tryz.ntmps53
  go_wp2_with fail
  go_ret
  exact ⟨false, by simp, HG.out, (fun h => by cases h), fun _ => ⟨s, n, HS'.out, hM, HI.out, Dfs.Post.refl s, H2.out⟩⟩
 obtain ⟨z, hz, r⟩ := hP x h1
 have HCy := zq (show Dfs.Cyc next x from ⟨x, z, Dfs.Reach.refl x, hz, r⟩)
 rw [h1] at hl
 clear hP h1 h0 hv hz r
 go_enter Tryz.func53, Tryz.ntmps53
 go_wp2_with fail
 go_ret
 exact ⟨true, by simp, HG.out, fun _ => HCy.out, (fun h => by cases h)⟩
theorem qD1.walk (w : World) (next : ByteArray → List ByteArray) (U : List ByteArray) (gp : Addr) (X : qD1.Ctx w next U gp) (bS bN bW bM : Nat) (hM0 : w.heap.size ≤ bM) : ∀ (m : Nat) (s : ByteArray → Int) (n M : Nat) (x : ByteArray) (W : World), Dfs.zeros U s ≤ m → M < maxLen → n + 2 * Dfs.zeros U s ≤ M → qD1.Env W bS bN bW bM gp → qD1.St W bM n s → Below w.heap.size w W → Dfs.Inv next s → Dfs.Path next s x → x ∈ U →
  Calls Tryz.prog 53 #[.string x, .pointer (some ⟨bS, 0, none⟩), .pointer (some ⟨bN, 0, none⟩), .pointer (some ⟨bW, 0, none⟩)] W fun e W' => qD1.Res U next bM M s x W e W' := by
 intro m
 induction m with
 | zero =>
  intro s n M x W hm hM hn HE HS hB hI hP hx
  refine qD1.walkA next U gp bS bN bW bM s n M x W hn HE HS hI hP (X.ok x hx) (fun h0 => ?_)
  have := Dfs.zeros_lt U hx h0 (v := 1) (by decide)
  omega
 | succ m ih =>
  intro s n M x W hm hM hn HE HS hB hI hP hx
  by_cases h0 : s x = 0
  case neg => exact qD1.walkA next U gp bS bN bW bM s n M x W hn HE HS hI hP (X.ok x hx) h0
  have hz1 := Dfs.zeros_lt U hx h0 (v := 1) (by decide)
  have hxo := X.ok x hx
  have hgb : W.grownBy W (some bM) := World.grownBy.refl W _
  have HE1 := HE.kept HS hgb
  have HS1 := HS.kept (row := none) (World.grownBy.refl W _) (by simp)
  have hS : (W).cell? ⟨bS, 0, none⟩ = some (.map (some bM)) := (qA1 HE1.s 0).trans rfl
  have hl := HS1.look hxo
  rw [h0] at hl
  obtain ⟨W2, hup, HS2, hg2⟩ := HS1.put (by omega : n < maxLen) hxo (v := 1) (by decide)
  have HE2 := HE1.kept HS1 hg2
  have hg02 := hgb.trans hg2
  have hB2 : Below w.heap.size w W2 := qBI hB (some bM) hB.size hg02 (fun k e => by obtain rfl := zy e; exact hM0)
  have hN2 : W2.cell? ⟨bN, 0, none⟩ = some (.func (.func 22) #[] #[.pointer (some gp)]) := (qA1 HE2.x 0).trans rfl
  have HXN := zq (X.nx W2 hB2 x hx)
  have HI1 := zq (Dfs.begun hI h0)
  have HP := zq hP
  have H0 := zq h0
  have HS2' := zq HS2
  have HE2' := zq HE2
  have HG02 := zq hg02
  have HB2 := zq hB2
  have HX := zq X
  have HIH := zq ih
  clear ih X HS HE HE1 HS1 HS2 HE2 hg2 hgb hg02 hB2 hI hP h0 hB
  go_enter Tryz.func53, Tryz.ntmps53
  go_wp2_with fail
  refine HXN.out.mono ?_
  rintro e W3 ⟨A, c, rfl, hlc, hC, hb3⟩
  have hg3 := qAN hb3 (some bM)
  have HS3 := zq (HS2'.out.kept (qAN hb3 none) (by simp))
  have HE3 := zq (HE2'.out.kept HS2'.out hg3)
  have HG03 := zq (HG02.out.trans hg3)
  have HB3 := zq (qA7 HB2.out hb3)
  have hlen := Kd.qE9 hC
  have HC := zq hC
  clear HXN hS hl hup hN2 hb3 hg3 hC HS2' HE2' HG02 HB2
  generalize hys : next x = ys at *
  have HYS := zq hys
  clear hys
  go_wp2_with fail
  go_loopw [22] (fun v22 wr => ∃ (i : Nat) (t : ByteArray → Int) (n' : Nat), i ≤ ys.length ∧ v22 = .int .i64 (i : Int) ∧ qA0 (W3.grownBy wr (some bM)) ∧ qA0 (qD1.St wr bM n' t) ∧ qA0 (n' + 2 * Dfs.zeros U t ≤ M - 1 ∧ Dfs.Inv next t ∧ Dfs.Post (Dfs.upd s x 1) t) ∧ qA0 (∀ y, y ∈ ys.take i → t y = 2)) (fun v22 _ => ys.length - (RowKit.intOf v22).toNat)
  case atStart => exact ⟨0, Dfs.upd s x 1, n + 1, by omega, rfl, ⟨World.grownBy.refl _ _⟩, HS3, ⟨by omega, HI1.out, Dfs.Post.refl _⟩, ⟨fun y hy => by simp at hy⟩⟩
  obtain ⟨i, t, n', hi, rfl, HGr, HSt, HD, HA⟩ := hrel
  have HEr := zq (HE3.out.kept HS3.out HGr.out)
  have hsr : wr.cell? ⟨bS, 0, none⟩ = some (.map (some bM)) := (qA1 HEr.out.s 0).trans rfl
  have hkr : wr.cell? ⟨bW, 0, none⟩ = some (.func (.func 53) #[] #[.pointer (some ⟨bS, 0, none⟩), .pointer (some ⟨bN, 0, none⟩), .pointer (some ⟨bW, 0, none⟩)]) := (qA1 HEr.out.k 0).trans rfl
  by_cases hlt : i < ys.length
  rotate_left
  ·obtain rfl : i = ys.length := by omega
   have hall : ∀ u, u ∈ next x → t u = 2 := fun u hu => HA.out u (by rw [List.take_length]; rw [HYS.out] at hu; exact hu)
   obtain ⟨d1, d2, d3⟩ := HD.out
   have h1x : t x = 1 := by rw [d3.keep x (by simp [Dfs.upd])]; simp [Dfs.upd]
   obtain ⟨W7, hup7, HS7, hg7⟩ := HSt.out.put (by omega : n' < maxLen) hxo (v := 2) (by decide)
   have hzt : Dfs.zeros U (Dfs.upd t x 2) ≤ Dfs.zeros U t := Dfs.zeros_le U fun u hu => by
    unfold Dfs.upd
    split
    ·decide
    ·exact hu
   have HEnd := zq (show ∃ (t' : ByteArray → Int) (n'' : Nat), qD1.St W7 bM n'' t' ∧ n'' + 2 * Dfs.zeros U t' ≤ M ∧ Dfs.Inv next t' ∧ Dfs.Post s t' ∧ t' x = 2 from ⟨Dfs.upd t x 2, n' + 1, HS7, by omega, Dfs.ended d2 h1x hall, Dfs.post_end H0.out d3, by simp [Dfs.upd]⟩)
   have HG7 := zq ((HG03.out.trans HGr.out).trans hg7)
   clear HS7 hg7 d1 d2 d3 hall h1x hzt hkr
   go_wp2_with fail
   go_ret
   exact ⟨false, rfl, HG7.out, (fun h => by cases h), fun _ => HEnd.out⟩
  obtain ⟨ad, cs_, rfl, hcl_, hk_, hcell_⟩ := Kd.C_get HC.out (⟨#[]⟩ : ByteArray) (i : Int) (by omega) (by omega)
  have h1_ : cs_ = [.string (ys.getD i ⟨#[]⟩)] := hk_
  have hx0 := hcell_ 0 (.string (ys.getD i ⟨#[]⟩)) (by rw [h1_]; rfl)
  rw [show (i : Int).toNat * (Kd.string).sz + 0 = i from by simp [show (Kd.string).sz = 1 from rfl]] at hx0
  clear hcell_ hk_ h1_ hcl_
  replace hx0 := qD1.cell_kept HS3.out HGr.out hx0
  have hymem : ys.getD i ⟨#[]⟩ ∈ ys := by rw [List.getD_eq_getElem?_getD, List.getElem?_eq_getElem hlt]; exact List.getElem_mem _
  have HY := zq (show ys[i]? = some (ys.getD i ⟨#[]⟩) from by rw [List.getD_eq_getElem?_getD, List.getElem?_eq_getElem hlt]; rfl)
  generalize ys.getD i ⟨#[]⟩ = y at *
  have hy : y ∈ next x := by rw [HYS.out]; exact hymem
  have hyU := HX.out.cl x y hy
  have hs := Gen.qEC hlt hlen
  obtain ⟨d1, d2, d3⟩ := HD.out
  have hBr : Below w.heap.size w wr := qBI HB3.out (some bM) HB3.out.size HGr.out (fun k e => by obtain rfl := zy e; exact hM0)
  have hzt : Dfs.zeros U t ≤ Dfs.zeros U (Dfs.upd s x 1) := Dfs.zeros_le U fun u hu => by rw [d3.keep u hu]; exact hu
  have HCall := zq (HIH.out t n' (M - 1) y wr (by omega) (by omega) d1 (HEr.out.kept HSt.out (World.grownBy.refl wr _)) (HSt.out.kept (row := none) (World.grownBy.refl wr _) (by simp)) hBr d2 (Dfs.path_next HP.out d3 hy) hyU)
  have HHy := zq hy
  clear hy hyU d1 d2 d3 hBr hzt hymem
  go_wp2_with fail
  refine HCall.out.mono ?_
  rintro e W5 ⟨b, rfl, hg5, ht, hf⟩
  cases b
  ·obtain ⟨t2, n2, e1, e2, e3, e4, e5⟩ := hf rfl
   have HG5 := zq ((HGr.out.trans ((World.grownBy.refl wr _) : wr.grownBy wr (some bM))).trans hg5)
   have HS5 := zq e1
   have HD5 := zq (And.intro e2 (And.intro e3 (HD.out.2.2.trans e4)))
   have HA5 : qA0 (∀ u, u ∈ ys.take (i + 1) → t2 u = 2) := ⟨fun u hu => by
    rw [List.take_add_one, HY.out] at hu
    rcases List.mem_append.1 hu with h | h
    ·rw [e4.keep u (by rw [HA.out u h]; decide)]; exact HA.out u h
    ·have : u = y := by simpa using h
     rw [this]; exact e5⟩
   clear hg5 ht hf e1 e2 e3 e4 e5
   go_wp2_with fail
   go_roundw
   case rel => exact ⟨i + 1, t2, n2, by omega, by first | rfl | (simp; done) | rw [Int.natCast_add]; rfl, HG5, HS5, HD5, HA5⟩
   case measure => simp [RowKit.intOf]; omega
  ·have HG5 := zq ((HG03.out.trans HGr.out).trans (((World.grownBy.refl wr _) : wr.grownBy wr (some bM)).trans hg5))
   have HCy := zq (Dfs.Cyc.step HHy.out (ht rfl))
   clear hg5 ht hf
   go_wp2_with fail
   go_ret
   exact ⟨true, rfl, HG5.out, fun _ => HCy.out, (fun h => by cases h)⟩
theorem qD1.idx (A : Option Addr) (c : Nat) (l : List ByteArray) (g1 : Addr) (g2 : Addr) (g3 : Addr) (J T : Nat → World → Prop) (hJ : ∀ k W, J k W → Kd.C Kd.string W A l.length l) (hl : l.length ≤ c)
  (hcall : ∀ k W , k < l.length → J k W → Calls Tryz.prog 53 #[.string (l.getD k (⟨#[]⟩ : ByteArray)), .pointer (some g1), .pointer (some g2), .pointer (some g3)] W fun e W' => (e = .returned (.bool true) ∧ T k W') ∨ (e = .returned (.bool false) ∧ J (k + 1) W')) (w : World) (h0 : J 0 w) :
  Calls Tryz.prog 78 #[.slice A l.length c, .func (.func 53) #[] #[.pointer (some g1), .pointer (some g2), .pointer (some g3)]] w fun e W' => (∃ k : Nat, k < l.length ∧ e = .returned (.int .i64 (k : Int)) ∧ T k W') ∨ (e = .returned (.int .i64 (-1)) ∧ J l.length W') := by
 have hm := Kd.qE9 (hJ 0 w h0)
 have H0 := zq h0
 clear h0
 go_enter Tryz.func78, Tryz.ntmps78
 go_wp2
 go_loopw [5, 8] (fun _ i wr => ∃ k : Nat, k ≤ l.length ∧ i = .int .i64 k ∧ qA0 (J k wr)) (fun _ i _ => l.length - (intOf i).toNat)
 case atStart => exact ⟨0, Nat.zero_le _, rfl, H0⟩
 obtain ⟨k, hk, rfl, HJ⟩ := hrel
 by_cases hlt : k < l.length
 rotate_left
 ·obtain rfl : k = l.length := by omega
  go_wp2_with fail
  go_ret
  exact .inr ⟨rfl, HJ.out⟩
 have hC := hJ k wr HJ.out
 obtain ⟨ad, cs_, rfl, hcl_, hk_, hcell_⟩ := Kd.C_get hC (⟨#[]⟩ : ByteArray) (k : Int) (by omega) (by omega)
 have h1_ : cs_ = [.string (l.getD k (⟨#[]⟩ : ByteArray))] := hk_
 have hx0 := hcell_ 0 (.string (l.getD k (⟨#[]⟩ : ByteArray))) (by rw [h1_]; rfl)
 rw [show (k : Int).toNat * (Kd.string).sz + 0 = k from by simp [show (Kd.string).sz = 1 from rfl]] at hx0
 clear hcell_ hk_ h1_ hcl_ hC
 have HC := zq (hcall k wr  hlt HJ.out)
 clear hcall
 generalize l.getD k (⟨#[]⟩ : ByteArray) = y at *
 go_wp2_with fail
 refine HC.out.mono ?_
 rintro e w' (⟨rfl, ht⟩ | ⟨rfl, hj⟩)
 ·have HT := zq ht
  clear ht
  go_wp2_with fail
  go_ret
  exact .inl ⟨k, hlt, rfl, HT.out⟩
 ·have HJ2 := zq hj
  clear hj
  go_wp2_with fail
  go_roundw
  case rel => exact ⟨k + 1, by omega, by go_num, HJ2⟩
  case measure => simp [intOf]; omega
theorem qD1.contains (A : Option Addr) (c : Nat) (l : List ByteArray) (g1 : Addr) (g2 : Addr) (g3 : Addr) (J T : Nat → World → Prop) (hJ : ∀ k W, J k W → Kd.C Kd.string W A l.length l) (hl : l.length ≤ c)
  (hcall : ∀ k W, k < l.length → J k W → Calls Tryz.prog 53 #[.string (l.getD k (⟨#[]⟩ : ByteArray)), .pointer (some g1), .pointer (some g2), .pointer (some g3)] W fun e W' => (e = .returned (.bool true) ∧ T k W') ∨ (e = .returned (.bool false) ∧ J (k + 1) W')) (w : World) (h0 : J 0 w) :
  Calls Tryz.prog 54 #[.slice A l.length c, .func (.func 53) #[] #[.pointer (some g1), .pointer (some g2), .pointer (some g3)]] w fun e W' => (e = .returned (.bool true) ∧ ∃ k : Nat, k < l.length ∧ T k W') ∨ (e = .returned (.bool false) ∧ J l.length W') := by
 have HI := zq (qD1.idx A c l g1 g2 g3 J T hJ hl hcall w h0)
 clear hcall hJ h0
 go_enter Tryz.func54, Tryz.ntmps54
 go_wp2_with fail
 refine HI.out.mono ?_
 rintro e w' (⟨k, hk, rfl, ht⟩ | ⟨rfl, hj⟩)
 ·have HT := zq ht
  clear ht
  go_wp2_with fail
  go_ret
  exact .inl ⟨by simp, k, hk, HT.out⟩
 ·have HJ := zq hj
  clear hj
  go_wp2_with fail
  go_ret
  exact .inr ⟨by simp, HJ.out⟩
open Classical in
theorem qD1.search (A0 : Option Addr) (c0 : Nat) (all : List ByteArray) (w : World) (next : ByteArray → List ByteArray) (U : List ByteArray) (gp : Addr) (hC : Kd.C Kd.string w A0 all.length all) (hl : all.length ≤ c0) (X : qD1.Ctx w next U gp) (hall : ∀ x ∈ all, x ∈ U) (hU : 2 * U.length < maxLen) :
  Calls Tryz.prog 21 #[.slice A0 all.length c0, .func (.func 22) #[] #[.pointer (some gp)]] w fun e w' => e = .returned (.bool (decide (∃ x, x ∈ all ∧ Dfs.Cyc next x))) ∧ Below w.heap.size w w' := by
 have hmm := @run_makeMap Tryz.prog
 go_enter Tryz.func21, Tryz.ntmps21
 go_wp2_with fail
 generalize hW4 : (((w.alloc (.cells #[.func (.func 22) #[] #[.pointer (some gp)]] 67)).alloc (.map #[] 0)).alloc (.cells #[.map (some (w.heap.size + 1))] 122)).alloc (.cells #[.func (.func 53) #[] #[.pointer (some ⟨w.heap.size + 1 + 1, 0, none⟩), .pointer (some ⟨w.heap.size, 0, none⟩), .pointer (some ⟨w.heap.size + 1 + 1 + 1, 0, none⟩)]] 109) = W4
 have hB4 : Below w.heap.size w W4 := by rw [← hW4]; exact qAA (qAA (qAA (qAA (Below.refl _ _) _) _) _) _
 have hE4 : qD1.Env W4 (w.heap.size + 1 + 1) w.heap.size (w.heap.size + 1 + 1 + 1) (w.heap.size + 1) gp := by
  rw [← hW4]
  refine ⟨?_, qAF (qAF (qAF (heap_alloc_new w _) (World.grownBy_alloc _ _ none) (by simp)) (World.grownBy_alloc _ _ none) (by simp)) (World.grownBy_alloc _ _ none) (by simp), ?_⟩
  ·have h := heap_alloc_new ((w.alloc (.cells #[.func (.func 22) #[] #[.pointer (some gp)]] 67)).alloc (.map #[] 0)) (.cells #[.map (some (w.heap.size + 1))] 122)
   rw [show ((w.alloc (.cells #[.func (.func 22) #[] #[.pointer (some gp)]] 67)).alloc (.map #[] 0)).heap.size = w.heap.size + 1 + 1 from by simp] at h
   exact qAF h (World.grownBy_alloc _ _ none) (by simp)
  ·have h := heap_alloc_new (((w.alloc (.cells #[.func (.func 22) #[] #[.pointer (some gp)]] 67)).alloc (.map #[] 0)).alloc (.cells #[.map (some (w.heap.size + 1))] 122)) (.cells #[.func (.func 53) #[] #[.pointer (some ⟨w.heap.size + 1 + 1, 0, none⟩), .pointer (some ⟨w.heap.size, 0, none⟩), .pointer (some ⟨w.heap.size + 1 + 1 + 1, 0, none⟩)]] 109)
   rw [show (((w.alloc (.cells #[.func (.func 22) #[] #[.pointer (some gp)]] 67)).alloc (.map #[] 0)).alloc (.cells #[.map (some (w.heap.size + 1))] 122)).heap.size = w.heap.size + 1 + 1 + 1 from by simp] at h
   exact h
 have hS4 : qD1.St W4 (w.heap.size + 1) 0 (fun _ => 0) := by
  rw [← hW4]
  have h1 : qD1.St ((w.alloc (.cells #[.func (.func 22) #[] #[.pointer (some gp)]] 67)).alloc (.map #[] 0)) (w.heap.size + 1) 0 (fun _ => 0) := by
   have h0 := World.ownsMap_made (H := Unit) (w.alloc (.cells #[.func (.func 22) #[] #[.pointer (some gp)]] 67)) Tryz.prog 9 (plainElem Tryz.prog 3)
   rw [show (w.alloc (.cells #[.func (.func 22) #[] #[.pointer (some gp)]] 67)).heap.size = w.heap.size + 1 from by simp] at h0
   exact ⟨_, h0, fun x _ => rfl⟩
  exact (h1.kept (World.grownBy_alloc _ _ none) (by simp)).kept (World.grownBy_alloc _ _ none) (by simp)
 clear hW4
 refine (qD1.contains A0 c0 all ⟨w.heap.size + 1 + 1, 0, none⟩ ⟨w.heap.size, 0, none⟩ ⟨w.heap.size + 1 + 1 + 1, 0, none⟩
  (fun k W => ∃ (s : ByteArray → Int) (n : Nat), qD1.Env W (w.heap.size + 1 + 1) w.heap.size (w.heap.size + 1 + 1 + 1) (w.heap.size + 1) gp ∧ qD1.St W (w.heap.size + 1) n s ∧ Below w.heap.size w W ∧ Dfs.Inv next s ∧ (∀ y, s y ≠ 1) ∧ n + 2 * Dfs.zeros U s ≤ 2 * U.length ∧ ∀ x, x ∈ all.take k → s x = 2)
  (fun _ W => (∃ x, x ∈ all ∧ Dfs.Cyc next x) ∧ Below w.heap.size w W) (fun k W ⟨_, _, _, _, hb, _⟩ => Kd.qAB hC hb) hl ?_ W4 ?_).mono ?_
 ·rintro k W hk ⟨s, n, h1, h2, h3, h4, h5, h6, h7⟩
  have hm : all.getD k (⟨#[]⟩ : ByteArray) ∈ all := by rw [List.getD_eq_getElem?_getD, List.getElem?_eq_getElem hk]; exact List.getElem_mem _
  have hg : all[k]? = some (all.getD k (⟨#[]⟩ : ByteArray)) := by rw [List.getD_eq_getElem?_getD, List.getElem?_eq_getElem hk]; rfl
  refine (qD1.walk w next U gp X _ _ _ _ (by omega) (Dfs.zeros U s) s n (2 * U.length) _ W (Nat.le_refl _) hU h6 h1 h2 h3 h4 (fun y hy => absurd hy (h5 y)) (hall _ hm)).mono ?_
  rintro e W' ⟨b, rfl, hgr, ht, hf⟩
  have hb' := qBI h3 (some (w.heap.size + 1)) h3.size hgr (fun k e => by obtain rfl := zy e; omega)
  cases b
  ·obtain ⟨t, n', e1, e2, e3, e4, e5⟩ := hf rfl
   refine .inr ⟨rfl, t, n', h1.kept h2 hgr, e1, hb', e3, fun y hy => h5 y (e4.ones y hy), e2, fun u hu => ?_⟩
   rw [List.take_add_one, hg] at hu
   rcases List.mem_append.1 hu with h | h
   ·rw [e4.keep u (by rw [h7 u h]; decide)]; exact h7 u h
   ·have : u = all.getD k (⟨#[]⟩ : ByteArray) := by simpa using h
    rw [this]; exact e5
  ·exact .inl ⟨rfl, ⟨_, hm, ht rfl⟩, hb'⟩
 ·refine ⟨fun _ => 0, 0, hE4, hS4, hB4, ⟨fun _ => .inl rfl, fun x h => by simp at h⟩, fun y h => by simp at h, ?_, fun x hx => by simp at hx⟩
  have : Dfs.zeros U (fun _ : ByteArray => (0 : Int)) ≤ U.length := List.countP_le_length
  omega
 ·rintro e W' (⟨rfl, k, hk, hT, hb⟩ | ⟨rfl, s, n, h1, h2, h3, h4, h5, h6, h7⟩)
  ·have HD := zq (decide_eq_true hT)
   have HB := zq hb
   clear hT hb
   go_wp2_with fail
   go_ret
   exact ⟨by rw [HD.out]; rfl, HB.out⟩
  ·have hno : ¬ ∃ x, x ∈ all ∧ Dfs.Cyc next x := fun ⟨x, hx, hc⟩ => (h4.done x (h7 x (by rw [List.take_length]; exact hx))).1 hc
   have HD := zq (decide_eq_false hno)
   have HB := zq h3
   clear hno h1 h2 h3 h4 h5 h6 h7
   go_wp2_with fail
   go_ret
   exact ⟨by rw [HD.out]; rfl, HB.out⟩
end
end Go.Proofs.YtfnejdbjekkadaaGreat.PRatePuts
end
