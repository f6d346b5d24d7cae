/- A part of the proof of RateFinds: texts that were printed, words, walks. No condition. -/
import Derived.Test.YtnliaialemfcaaaC3
import Derived.Test.YtnliaialemfcaaaProg
import Derived.Shelf.Small.Bits
import Derived.Shelf.Strconv.Itoa0
import Derived.Shelf.Sort.Plain
import Derived.Shelf.Slices.CompactS
import Derived.Shelf.Slices.Cells
import Derived.Shelf.Slices.In.SortNone
import Derived.Handy
import Derived.Maps.OwnOps
import Derived.Maps.RangeWalk
import Derived.Laws.EntriesVeiled
import Derived.DeepKeys4
import Derived.MapViews
import Derived.Deep.RegionHeld3
import Derived.Maps.AppendAt
set_option linter.unusedVariables false
set_option linter.unusedSimpArgs false
section
namespace Go.Proofs
open Go.Shelf
def Try.lays190_ren : Go.Shelf.Ren := ⟨fun | 190 => 60 | 125 => 77 | 258 => 76 | 128 => 93 | 129 => 94 | 302 => 85 | 303 => 86 | 304 => 87 | 305 => 88 | 306 => 89 | 307 => 90 | 308 => 65 | 309 => 91 | 310 => 92 | 333 => 96 | 329 => 97 | 330 => 98 | 334 => 99 | 335 => 100 | 336 => 78 | 344 => 101 | n => n, fun | 31 => 64 | 9 => 9 | 3 => 3 | 46 => 128 | 0 => 0 | 51 => 152 | 53 => 154 | 4 => 4 | 183 => 146 | 182 => 145 | 131 => 111 | 5 => 5 | 218 => 156 | 222 => 71 | 228 => 161 | 229 => 108 | n => n, fun | n => n⟩
theorem Try.lays190 : Go.Proofs.Lays.n190 Try.prog Try.lays190_ren := {
 mixed := by kernel_rfl
 f125 := Try.func77.trans (congrArg some (by kernel_rfl))
 f128 := Try.func93.trans (congrArg some (by kernel_rfl))
 f129 := Try.func94.trans (congrArg some (by kernel_rfl))
 f190 := Try.func60.trans (congrArg some (by kernel_rfl))
 f258 := Try.func76.trans (congrArg some (by kernel_rfl))
 f302 := Try.func85.trans (congrArg some (by kernel_rfl))
 f303 := Try.func86.trans (congrArg some (by kernel_rfl))
 f304 := Try.func87.trans (congrArg some (by kernel_rfl))
 f305 := Try.func88.trans (congrArg some (by kernel_rfl))
 f306 := Try.func89.trans (congrArg some (by kernel_rfl))
 f307 := Try.func90.trans (congrArg some (by kernel_rfl))
 f308 := Try.func65.trans (congrArg some (by kernel_rfl))
 f309 := Try.func91.trans (congrArg some (by kernel_rfl))
 f310 := Try.func92.trans (congrArg some (by kernel_rfl))
 f329 := Try.func97.trans (congrArg some (by kernel_rfl))
 f330 := Try.func98.trans (congrArg some (by kernel_rfl))
 f333 := Try.func96.trans (congrArg some (by kernel_rfl))
 f334 := Try.func99.trans (congrArg some (by kernel_rfl))
 f335 := Try.func100.trans (congrArg some (by kernel_rfl))
 f336 := Try.func78.trans (congrArg some (by kernel_rfl))
 f344 := Try.func101.trans (congrArg some (by kernel_rfl))
 t0 := Try.underlying0
 a0 := Try.isAgg0
 z0 := Try.sizeOf0
 v0 := Try.zeroValue0
 t3 := Try.underlying3
 a3 := Try.isAgg3
 z3 := Try.sizeOf3
 v3 := Try.zeroValue3
 t4 := Try.underlying4
 a4 := Try.isAgg4
 z4 := Try.sizeOf4
 v4 := Try.zeroValue4
 t5 := Try.underlying5
 a5 := Try.isAgg5
 z5 := Try.sizeOf5
 v5 := Try.zeroValue5
 t9 := Try.underlying9
 a9 := Try.isAgg9
 z9 := Try.sizeOf9
 v9 := Try.zeroValue9
 t31 := Try.underlying64
 a31 := Try.isAgg64
 z31 := Try.sizeOf64
 v31 := Try.zeroValue64
 t46 := Try.underlying128
 a46 := Try.isAgg128
 z46 := Try.sizeOf128
 v46 := Try.zeroValue128
 t51 := Try.underlying152
 a51 := Try.isAgg152
 z51 := Try.sizeOf152
 v51 := Try.zeroValue152
 t53 := Try.underlying154
 a53 := Try.isAgg154
 z53 := Try.sizeOf154
 v53 := Try.zeroValue154
 t131 := Try.underlying111
 a131 := Try.isAgg111
 z131 := Try.sizeOf111
 v131 := Try.zeroValue111
 t182 := Try.underlying145
 a182 := Try.isAgg145
 z182 := Try.sizeOf145
 v182 := Try.zeroValue145
 t183 := Try.underlying146
 a183 := Try.isAgg146
 z183 := Try.sizeOf146
 v183 := Try.zeroValue146
 t218 := Try.underlying156
 a218 := Try.isAgg156
 z218 := Try.sizeOf156
 v218 := Try.zeroValue156
 t222 := Try.underlying71
 a222 := Try.isAgg71
 z222 := Try.sizeOf71
 v222 := Try.zeroValue71
 t228 := Try.underlying161
 a228 := Try.isAgg161
 z228 := Try.sizeOf161
 v228 := Try.zeroValue161
 t229 := Try.underlying108
 a229 := Try.isAgg108
 z229 := Try.sizeOf108
 v229 := Try.zeroValue108 }
open Go.Sort Go.RowKit in
theorem Try.slices_Sort_string (blk off cap : Nat) (ss : List (List UInt8)) (w : World) (hH : Holds encStr w blk off ss.toArray) (hblk : blk < w.heap.size) (hsz : ss.length < 4611686018427387904) :
  Calls Try.prog 60 #[.slice (some ⟨blk, off, none⟩) ss.length cap] w fun e w' =>
   e = .returned (.tuple #[]) ∧ ∃ n os, w' = grow (putRow encStr (Sort.ahead w n) blk off (ss.mergeSort fun x y => decide (x ≤ y)).toArray) os := Any.slices_Sort_string Try.lays190 blk off cap ss w hH hblk hsz
def Try.lays194_ren : Go.Shelf.Ren := ⟨fun | 194 => 61 | n => n, fun | 31 => 64 | 9 => 9 | 3 => 3 | 4 => 4 | 0 => 0 | n => n, fun | n => n⟩
theorem Try.lays194 : Go.Proofs.Lays.n194 Try.prog Try.lays194_ren := {
 mixed := by kernel_rfl
 f194 := Try.func61.trans (congrArg some (by kernel_rfl))
 t0 := Try.underlying0
 a0 := Try.isAgg0
 z0 := Try.sizeOf0
 v0 := Try.zeroValue0
 t3 := Try.underlying3
 a3 := Try.isAgg3
 z3 := Try.sizeOf3
 v3 := Try.zeroValue3
 t4 := Try.underlying4
 a4 := Try.isAgg4
 z4 := Try.sizeOf4
 v4 := Try.zeroValue4
 t9 := Try.underlying9
 a9 := Try.isAgg9
 z9 := Try.sizeOf9
 v9 := Try.zeroValue9
 t31 := Try.underlying64
 a31 := Try.isAgg64
 z31 := Try.sizeOf64
 v31 := Try.zeroValue64 }
open Go.RowKit Go.Lib Go.Sort in
theorem Try.slices_Compact_string (blk off cap : Nat) (zs : List (List UInt8)) (w : World) (hH : Holds encStr w blk off zs.toArray) (hsz : zs.length ≤ 9223372036854775807) (hcap : zs.length ≤ cap) :
  Calls Try.prog 61 #[.slice (some ⟨blk, off, none⟩) zs.length cap] w fun e w' => e = .returned (.slice (some ⟨blk, off, none⟩) (Lib.compact zs).length cap) ∧ ∃ q, w' = putRow encStr (Sort.ahead w q) blk off (Lib.compact zs ++ List.replicate (zs.length - (Lib.compact zs).length) []).toArray := Any.slices_Compact_string Try.lays194 blk off cap zs w hH hsz hcap
open Go.RowKit Go.Lib Go.Sort in
theorem Try.slices_Compact_string_empty (a : Option Addr) (cap : Nat) (w : World) :
  Calls Try.prog 61 #[.slice a 0 cap] w fun e w' => e = .returned (.slice a 0 cap) ∧ w' = w := Any.slices_Compact_string_empty Try.lays194 a cap w
open Go.RowKit Go.Sort in
theorem Try.slices_Sort_string_none (p : Option Addr) (cap : Nat) (w : World) :
  Calls Try.prog 60 #[.slice p 0 cap] w fun e w' => e = .returned (.tuple #[]) ∧ w' = w := Any.slices_Sort_string_none Try.lays190 p cap w
end Go.Proofs
end
section
namespace Go.Proofs.Ytnliaialemfcaaa.Dfs
variable {T : Type} {next : T → List T}
def reachN (next : T → List T) : Nat → T → T → Prop
 | 0, x, y => x = y
 | n + 1, x, z => ∃ y, y ∈ next x ∧ reachN next n y z
def Reach (next : T → List T) (x y : T) : Prop := ∃ n, reachN next n x y
def Cyc (next : T → List T) (x : T) : Prop := ∃ y z, Reach next x y ∧ z ∈ next y ∧ Reach next z y
theorem Reach.refl (x : T) : Reach next x x := ⟨0, rfl⟩
theorem Reach.step {x y z : T} (h : y ∈ next x) (r : Reach next y z) : Reach next x z := by
 obtain ⟨n, r⟩ := r
 exact ⟨n + 1, y, h, r⟩
theorem reachN_trans : ∀ (n : Nat) {x y z : T}, reachN next n x y → Reach next y z → Reach next x z
 | 0, x, y, z, h, r => by cases h; exact r
 | n + 1, x, y, z, ⟨u, hu, h⟩, r => Reach.step hu (reachN_trans n h r)
theorem Reach.trans {x y z : T} (h : Reach next x y) (r : Reach next y z) : Reach next x z := by
 obtain ⟨n, h⟩ := h
 exact reachN_trans n h r
theorem Cyc.step {x y : T} (h : y ∈ next x) (c : Cyc next y) : Cyc next x := by
 obtain ⟨u, z, r, hz, rz⟩ := c
 exact ⟨u, z, Reach.step h r, hz, rz⟩
structure Inv (next : T → List T) (s : T → Int) : Prop where
 val : ∀ x, s x = 0 ∨ s x = 1 ∨ s x = 2
 done : ∀ x, s x = 2 → ¬ Cyc next x ∧ ∀ y, y ∈ next x → s y = 2
def Path (next : T → List T) (s : T → Int) (x : T) : Prop := ∀ y, s y = 1 → ∃ z, z ∈ next y ∧ Reach next z x
structure Post (s t : T → Int) : Prop where
 keep : ∀ y, s y ≠ 0 → t y = s y
 ones : ∀ y, t y = 1 → s y = 1
theorem Post.refl (s : T → Int) : Post s s := ⟨fun _ _ => rfl, fun _ h => h⟩
theorem Post.trans {s t u : T → Int} (h : Post s t) (k : Post t u) : Post s u :=
 ⟨fun y hy => by have h1 := h.keep y hy; rw [k.keep y (by rw [h1]; exact hy), h1], fun y hy => h.ones y (k.ones y hy)⟩
def upd [DecidableEq T] (s : T → Int) (x : T) (v : Int) : T → Int := fun y => if y = x then v else s y
def zeros (U : List T) (s : T → Int) : Nat := U.countP fun x => s x == 0
theorem zeros_le (U : List T) {s t : T → Int} (h : ∀ y, s y ≠ 0 → t y ≠ 0) : zeros U t ≤ zeros U s :=
 List.countP_mono_left fun x _ hx => by
  rw [beq_iff_eq] at hx ⊢
  exact Decidable.byContradiction fun hn => h x hn hx
theorem zeros_lt [DecidableEq T] : ∀ (U : List T) {s : T → Int} {x : T}, x ∈ U → s x = 0 → ∀ {v : Int}, v ≠ 0 → zeros U (upd s x v) < zeros U s
 | [], s, x, h, _, v, _ => by cases h
 | u :: U, s, x, h, h0, v, hv => by
  have hle : zeros U (upd s x v) ≤ zeros U s := zeros_le U fun y hy => by
   unfold upd
   split
   ·exact hv
   ·exact hy
  unfold zeros at hle ⊢
  rw [List.countP_cons, List.countP_cons]
  by_cases e : u = x
  ·subst e
   have e1 : (upd s u v u == 0) = false := by simp [upd, hv]
   have e2 : (s u == 0) = true := by simp [h0]
   simp only [e1, e2]
   simp
   omega
  ·have hx : x ∈ U := by
    rcases List.mem_cons.1 h with h | h
    ·exact absurd h.symm e
    ·exact h
   have := zeros_lt U hx h0 hv
   unfold zeros at this
   have e1 : upd s x v u = s u := by simp [upd, e]
   rw [e1]
   omega
theorem begun [DecidableEq T] {s : T → Int} {x : T} (hI : Inv next s) (h0 : s x = 0) : Inv next (upd s x 1) := by
 refine ⟨fun y => ?_, fun y hy => ?_⟩
 ·unfold upd
  split
  ·exact .inr (.inl rfl)
  ·exact hI.val y
 ·have hyx : y ≠ x := fun e => by subst e; simp [upd] at hy
  have hy2 : s y = 2 := by simpa [upd, hyx] using hy
  refine ⟨(hI.done y hy2).1, fun z hz => ?_⟩
  have h2 := (hI.done y hy2).2 z hz
  have hzx : z ≠ x := fun e => by subst e; omega
  simpa [upd, hzx] using h2
theorem path_next [DecidableEq T] {s t : T → Int} {x y : T} (hP : Path next s x) (ht : Post (upd s x 1) t) (hy : y ∈ next x) : Path next t y := fun u hu => by
 have h1 := ht.ones u hu
 by_cases e : u = x
 ·subst e
  exact ⟨y, hy, Reach.refl y⟩
 ·rw [show upd s x 1 u = s u from by simp [upd, e]] at h1
  obtain ⟨z, hz, r⟩ := hP u h1
  exact ⟨z, hz, r.trans (Reach.step hy (Reach.refl y))⟩
theorem reachN_done {t : T → Int} (hI : Inv next t) : ∀ (n : Nat) {u v : T}, t u = 2 → reachN next n u v → t v = 2
 | 0, u, v, h, e => by cases e; exact h
 | n + 1, u, v, h, ⟨z, hz, r⟩ => reachN_done hI n ((hI.done u h).2 z hz) r
theorem ended [DecidableEq T] {t : T → Int} {x : T} (hI : Inv next t) (h1 : t x = 1) (hall : ∀ y, y ∈ next x → t y = 2) : Inv next (upd t x 2) := by
 have hno : ¬ Cyc next x := by
  rintro ⟨y, z, ⟨n, r⟩, hz, ⟨m, rz⟩⟩
  cases n with
  | zero =>
   cases r
   have := reachN_done hI m (hall z hz) rz
   omega
  | succ n =>
   obtain ⟨u, hu, r⟩ := r
   exact (hI.done u (hall u hu)).1 ⟨y, z, ⟨n, r⟩, hz, ⟨m, rz⟩⟩
 refine ⟨fun y => ?_, fun y hy => ?_⟩
 ·unfold upd
  split
  ·exact .inr (.inr rfl)
  ·exact hI.val y
 ·have key : ∀ z, t z = 2 → upd t x 2 z = 2 := fun z hz => by
   unfold upd
   split
   ·rfl
   ·exact hz
  by_cases e : y = x
  ·subst e
   exact ⟨hno, fun z hz => key z (hall z hz)⟩
  ·have hy2 : t y = 2 := by simpa [upd, e] using hy
   exact ⟨(hI.done y hy2).1, fun z hz => key z ((hI.done y hy2).2 z hz)⟩
theorem post_end [DecidableEq T] {s t : T → Int} {x : T} (h0 : s x = 0) (ht : Post (upd s x 1) t) : Post s (upd t x 2) := by
 refine ⟨fun y hy => ?_, fun y hy => ?_⟩
 ·have e : y ≠ x := fun e => by subst e; exact hy h0
  rw [show upd t x 2 y = t y from by simp [upd, e], ht.keep y (by simpa [upd, e] using hy)]
  simp [upd, e]
 ·have e : y ≠ x := fun e => by subst e; simp [upd] at hy
  have := ht.ones y (by simpa [upd, e] using hy)
  simpa [upd, e] using this
end Go.Proofs.Ytnliaialemfcaaa.Dfs
end
section
namespace Go.Proofs.Ytnliaialemfcaaa.PRateFinds
noncomputable section
open Go.RowKit Go.Proofs.YtnliaialemfcaaaW.PrintWords Go.Proofs.YtnliaialemfcaaaW.PrintLast Go.Proofs.YtnliaialemfcaaaW.PrintMore
theorem laidOut : laidOutB Try.prog = true := by kernel_rfl
theorem row58 : (58 : TypeId) < Try.prog.types.size := of_decide_eq_true (by kernel_rfl)
theorem wide58 : (match Try.prog.underlying 58 with | some (.array _ _) | some (.struct _) => true | _ => false) = true := by kernel_rfl
set_option maxRecDepth 100000 in
theorem keyed58 : Maps.Keyed Try.prog 58 := Maps.Keyed.of_law (deep_law_laid laidOut (m := 3) (by omega) row58 (by kernel_rfl) wide58)
theorem cells58 : Try.prog.cellsOf 58 = 2 := by kernel_rfl
theorem cells9 : Try.prog.cellsOf 9 = 1 := by kernel_rfl
theorem key58t : Try.prog.keyType 58 = true := by kernel_rfl
def keyL (x : S58) : Lit := .string (keyBytes [.string x.f0.data.toList, .string x.f1.data.toList])
set_option maxRecDepth 100000 in
theorem key58 (x : S58) (h : x.f0.size ≤ maxLen ∧ x.f1.size ≤ maxLen) : keyOf Try.prog 58 (.agg #[.string x.f0, .string x.f1]) = some (keyL x) := by
 obtain ⟨a, b⟩ := x
 obtain ⟨ha, hb⟩ := h
 have hu := Try.underlying58
 have hf : (Value.agg #[.string a, .string b]).formed Try.prog 58 = true := by simp [Value.formed, hu, cells58]
 obtain ⟨m, hm⟩ : ∃ m, Try.prog.types.size = m + 1 := by
  have h : (58 : Nat) < Try.prog.types.size := row58
  exact ⟨Try.prog.types.size - 1, by omega⟩
 have hc9 : ∀ q : ByteArray, q.size ≤ maxLen → Try.prog.keyLits (m + 1) 9 [.string q] = some [.string q.data.toList] := fun q hq => by
  unfold Program.keyLits
  simp [Try.underlying9, hq]
 have hk : Try.prog.keyLits (m + 1 + 1) 58 [.string a, .string b] = some [.string a.data.toList, .string b.data.toList] := by
  unfold Program.keyLits
  simp [hu, cells58, cells9, hc9 a ha, hc9 b hb]
 unfold keyOf keyL
 rw [hu]
 simp [key58t, hf, hm, hk, Value.cells]
theorem key58_inj {x y : S58} (hx : x.f0.size ≤ maxLen ∧ x.f1.size ≤ maxLen) (hy : y.f0.size ≤ maxLen ∧ y.f1.size ≤ maxLen) (e : keyL x = keyL y) : x = y := by
 have := keyed58.inj (key58 x hx) (e ▸ key58 y hy)
 obtain ⟨a, b⟩ := x
 obtain ⟨c, d⟩ := y
 simp at this
 rw [this.1, this.2]
instance decS58 : DecidableEq S58 := fun a b => if h : a.f0 = b.f0 ∧ a.f1 = b.f1 then isTrue (by cases a; cases b; simp at h; rw [h.1, h.2]) else isFalse (fun e => h (by rw [e]; exact ⟨rfl, rfl⟩))
structure qCV.St (W : World) (b n : Nat) (s : S58 → Int) : Prop where
 own : ∃ D, W.ownsMap (H := Unit) Try.prog 58 (plainElem Try.prog 3) b n D ∧ ∀ x : S58, (x.f0.size ≤ maxLen ∧ x.f1.size ≤ maxLen) → D.atKey (keyL x) (.lit (.int .i64 0)) = .lit (.int .i64 (s x))
set_option maxRecDepth 100000 in
theorem qCV.St.look {W : World} {b n : Nat} {s : S58 → Int} (h : qCV.St W b n s) {x : S58} (hx : (x.f0.size ≤ maxLen ∧ x.f1.size ≤ maxLen)) : (Instr.lookup 94 (.map (some b)) (.agg #[.string x.f0, .string x.f1]) false).run Try.prog W = .ok (.int .i64 (s x)) W := by
 obtain ⟨D, own, at_⟩ := h.own
 obtain ⟨c, hrun, hat, _⟩ := own.lookup_int keyed58 Try.underlying94 Try.underlying3 (Try.zeroValue3 W) (key58 x hx)
 rw [at_ x hx] at hat
 have hat2 := (Lit.int.inj (DataW.lit.inj hat)).2
 rw [hrun, ← hat2]
set_option maxRecDepth 100000 in
theorem qCV.St.put {W : World} {b n : Nat} {s : S58 → Int} (h : qCV.St W b n s) (hn : n < maxLen) {x : S58} (hx : (x.f0.size ≤ maxLen ∧ x.f1.size ≤ maxLen)) {v : Int} (hv : (Lit.int .i64 v).wf = true) :
  ∃ W2, (Instr.mapUpdate 94 (.map (some b)) (.agg #[.string x.f0, .string x.f1]) (.int .i64 v)).run Try.prog W = .ok () W2 ∧ qCV.St W2 b (n + 1) (Dfs.upd s x v) ∧ W.grownBy W2 (some b) := by
 obtain ⟨D, own, at_⟩ := h.own
 obtain ⟨W2, hrun, ho, hg⟩ := own.update keyed58 Try.underlying94 hn (key58 x hx) (val := .int .i64 v) (d := .lit (.int .i64 v)) (ps := []) (plainElem_int Try.underlying3 hv)
 refine ⟨W2, hrun, ⟨_, ho, fun y hy => ?_⟩, hg⟩
 by_cases e : y = x
 ·subst e
  rw [Maps.atKey_put_same own.isMap (keyed58.key (key58 y hy))]
  simp [Dfs.upd]
 ·rw [Maps.atKey_put_other (fun e' => e (key58_inj hy hx e')), at_ y hy]
  simp [Dfs.upd, e]
theorem qCV.St.kept {W W' : World} {b n : Nat} {s : S58 → Int} {row : Option Nat} (h : qCV.St W b n s) (hg : W.grownBy W' row) (hne : some b ≠ row) : qCV.St W' b n s := by
 obtain ⟨D, own, at_⟩ := h.own
 exact ⟨D, own.kept hg hne, at_⟩
theorem qCV.St.blk {W : World} {b n : Nat} {s : S58 → Int} (h : qCV.St W b n s) : ∃ es c, W.heap[b]? = some (.map es c) := by
 obtain ⟨D, ⟨es, c, hb, _⟩, _⟩ := h.own
 exact ⟨es, c, hb⟩
structure qCV.Env (W : World) (bS bN bW bM : Nat) (gp : Addr) : Prop where
 s : W.heap[bS]? = some (.cells #[.map (some bM)] 94 (0, 0))
 x : W.heap[bN]? = some (.cells #[.func (.func 17) #[] #[.pointer (some gp)]] 61 (0, 0))
 k : W.heap[bW]? = some (.cells #[.func (.func 32) #[] #[.pointer (some ⟨bS, 0, none⟩), .pointer (some ⟨bN, 0, none⟩), .pointer (some ⟨bW, 0, none⟩)]] 95 (0, 0))
theorem qCV.Env.kept {W W' : World} {bS bN bW bM n : Nat} {gp : Addr} {s : S58 → Int} (h : qCV.Env W bS bN bW bM gp) (hs : qCV.St W bM n s) (hg : W.grownBy W' (some bM)) : qCV.Env W' bS bN bW bM gp := by
 obtain ⟨es, c, hb⟩ := hs.blk
 exact ⟨qAN h.s hg (fun e => by have := Option.some.inj e; subst this; have := hb.symm.trans h.s; cases this), qAN h.x hg (fun e => by have := Option.some.inj e; subst this; have := hb.symm.trans h.x; cases this), qAN h.k hg (fun e => by have := Option.some.inj e; subst this; have := hb.symm.trans h.k; cases this)⟩
structure qCV.Ctx (w : World) (next : S58 → List S58) (U : List S58) (gp : Addr) : Prop where
 cl : ∀ x, ∀ y ∈ next x, y ∈ U
 ok : ∀ x ∈ U, (x.f0.size ≤ maxLen ∧ x.f1.size ≤ maxLen)
 nx : ∀ W, Below w.heap.size w W → ∀ x ∈ U, Calls Try.prog 17 #[.agg #[.string x.f0, .string x.f1], .pointer (some gp)] W fun e W' => ∃ A c, e = .returned (.slice A (next x).length c) ∧ (next x).length ≤ c ∧ Kd.C k58 W' A (next x).length (next x) ∧ Below W.heap.size W W'
theorem qCV.cell_kept {W W' : World} {b n : Nat} {s : S58 → Int} (h : qCV.St W b n s) (hg : W.grownBy W' (some b)) {a : Addr} {v : Value} (hc : W.cell? a = some v) : W'.cell? a = some v := by
 obtain ⟨es, c, hb⟩ := h.blk
 have hlt := World.block_lt_of_cell? W a hc
 have hne : a.block ≠ b := fun e => by simp [World.cell?, e, hb] at hc
 have := hg.block a.block hlt (fun e => hne (Option.some.inj e))
 simpa [World.cell?, this] using hc
abbrev qCV.Res (U : List S58) (next : S58 → List S58) (bM M : Nat) (s : S58 → Int) (x : S58) (W : World) (e : Ending) (W' : World) : Prop := ∃ b, e = .returned (.bool b) ∧ W.grownBy W' (some bM) ∧ (b = true → Dfs.Cyc next x) ∧
   (b = false → ∃ (t : S58 → Int) (n' : Nat), qCV.St W' bM n' t ∧ n' + 2 * Dfs.zeros U t ≤ M ∧ Dfs.Inv next t ∧ Dfs.Post s t ∧ t x = 2)
set_option maxRecDepth 100000 in
theorem qCV.walkA (next : S58 → List S58) (U : List S58) (gp : Addr) (bS bN bW bM : Nat) (s : S58 → Int) (n M : Nat) (x : S58) (W : World) (hM : n + 2 * Dfs.zeros U s ≤ M) (HE : qCV.Env W bS bN bW bM gp) (HS : qCV.St W bM n s) (hI : Dfs.Inv next s) (hP : Dfs.Path next s x) (hx : (x.f0.size ≤ maxLen ∧ x.f1.size ≤ maxLen)) (h0 : s x ≠ 0) :
  Calls Try.prog 32 #[.agg #[.string x.f0, .string x.f1], .pointer (some ⟨bS, 0, none⟩), .pointer (some ⟨bN, 0, none⟩), .pointer (some ⟨bW, 0, none⟩)] W fun e W' => qCV.Res U next bM M s x W e W' := by
 have hgb : W.grownBy (W.alloc (.cells #[.string x.f0, .string x.f1] 58)) (some bM) := World.grownBy_alloc W _ (some bM)
 have HS1 := HS.kept (row := none) (World.grownBy_alloc W (.cells #[.string x.f0, .string x.f1] 58) none) (by simp)
 have hS : ((W.alloc (.cells #[.string x.f0, .string x.f1] 58))).cell? ⟨bS, 0, none⟩ = some (.map (some bM)) := (qA4 (HE.kept HS hgb).s 0).trans rfl
 have hl := HS1.look hx
 have HS' := qA0.mk HS1
 have HG := qA0.mk hgb
 have HI := qA0.mk hI
 clear HS1 hgb hI HE
 have hv := HI.out.val x
 by_cases h1 : s x = 1
 ·obtain ⟨z, hz, r⟩ := hP x h1
  have HCy := qA0.mk (show Dfs.Cyc next x from ⟨x, z, Dfs.Reach.refl x, hz, r⟩)
  rw [h1] at hl
  clear hP h1 h0 hv hz r
  go_enter Try.func32, Try.ntmps32
  go_wp2_with fail
  go_ret
  exact ⟨true, by simp, HG.out, fun _ => HCy.out, (fun h => by cases h)⟩
 ·have h2 : s x = 2 := by omega
  have H2 := qA0.mk h2
  rw [h2] at hl
  clear hP h1 h0 hv h2
  go_enter Try.func32, Try.ntmps32
  go_wp2_with fail
  go_ret
  exact ⟨false, by simp, HG.out, (fun h => by cases h), fun _ => ⟨s, n, HS'.out, hM, HI.out, Dfs.Post.refl s, H2.out⟩⟩
set_option maxRecDepth 100000 in
set_option maxHeartbeats 4000000 in
theorem qCV.walk (w : World) (next : S58 → List S58) (U : List S58) (gp : Addr) (X : qCV.Ctx w next U gp) (bS bN bW bM : Nat) (hM0 : w.heap.size ≤ bM) : ∀ (m : Nat) (s : S58 → Int) (n M : Nat) (x : S58) (W : World), Dfs.zeros U s ≤ m → M < maxLen → n + 2 * Dfs.zeros U s ≤ M → qCV.Env W bS bN bW bM gp → qCV.St W bM n s → Below w.heap.size w W → Dfs.Inv next s → Dfs.Path next s x → x ∈ U →
  Calls Try.prog 32 #[.agg #[.string x.f0, .string x.f1], .pointer (some ⟨bS, 0, none⟩), .pointer (some ⟨bN, 0, none⟩), .pointer (some ⟨bW, 0, none⟩)] W fun e W' => qCV.Res U next bM M s x W e W' := by
 intro m
 induction m with
 | zero =>
  intro s n M x W hm hM hn HE HS hB hI hP hx
  refine qCV.walkA next U gp bS bN bW bM s n M x W hn HE HS hI hP (X.ok x hx) (fun h0 => ?_)
  have := Dfs.zeros_lt U hx h0 (v := 1) (by decide)
  omega
 | succ m ih =>
  intro s n M x W hm hM hn HE HS hB hI hP hx
  by_cases h0 : s x = 0
  case neg => exact qCV.walkA next U gp bS bN bW bM s n M x W hn HE HS hI hP (X.ok x hx) h0
  have hz1 := Dfs.zeros_lt U hx h0 (v := 1) (by decide)
  have hxo := X.ok x hx
  have hgb : W.grownBy (W.alloc (.cells #[.string x.f0, .string x.f1] 58)) (some bM) := World.grownBy_alloc W _ (some bM)
  have HE1 := HE.kept HS hgb
  have HS1 := HS.kept (row := none) (World.grownBy_alloc W (.cells #[.string x.f0, .string x.f1] 58) none) (by simp)
  have hS : ((W.alloc (.cells #[.string x.f0, .string x.f1] 58))).cell? ⟨bS, 0, none⟩ = some (.map (some bM)) := (qA4 HE1.s 0).trans rfl
  have hl := HS1.look hxo
  rw [h0] at hl
  obtain ⟨W2, hup, HS2, hg2⟩ := HS1.put (by omega : n < maxLen) hxo (v := 1) (by decide)
  have HE2 := HE1.kept HS1 hg2
  have hg02 := hgb.trans hg2
  have hB2 : Below w.heap.size w W2 := qBN hB (some bM) hB.size hg02 (fun k e => by obtain rfl := Option.some.inj e; exact hM0)
  have hK2 : W2.heap[W.heap.size]? = some (.cells #[.string x.f0, .string x.f1] 58 (0, 0)) := qAN (heap_alloc_new W _) hg2 (by have := HS.own; obtain ⟨D, own, _⟩ := this; have := own.lt; simp; omega)
  have hx20 : W2.cell? ⟨W.heap.size, 0, none⟩ = some (.string x.f0) := (qA4 hK2 0).trans rfl
  have hx21 : W2.cell? ⟨W.heap.size, 1, none⟩ = some (.string x.f1) := (qA4 hK2 1).trans rfl
  have HK2 := qA0.mk hK2
  have hbM : bM ≠ W.heap.size := by have := HS.own; obtain ⟨D, own, _⟩ := this; have := own.lt; omega
  clear hK2
  have hN2 : W2.cell? ⟨bN, 0, none⟩ = some (.func (.func 17) #[] #[.pointer (some gp)]) := (qA4 HE2.x 0).trans rfl
  have HXN := qA0.mk (X.nx W2 hB2 x hx)
  have HI1 := qA0.mk (Dfs.begun hI h0)
  have HP := qA0.mk hP
  have H0 := qA0.mk h0
  have HS2' := qA0.mk HS2
  have HE2' := qA0.mk HE2
  have HG02 := qA0.mk hg02
  have HB2 := qA0.mk hB2
  have HX := qA0.mk X
  have HIH := qA0.mk ih
  clear ih X HS HE HE1 HS1 HS2 HE2 hg2 hgb hg02 hB2 hI hP h0 hB
  go_enter Try.func32, Try.ntmps32
  go_wp2_with fail
  refine HXN.out.mono ?_
  rintro e W3 ⟨A, c, rfl, hlc, hC, hb3⟩
  have hg3 := qB4 hb3 (some bM)
  have HS3 := qA0.mk (HS2'.out.kept (qB4 hb3 none) (by simp))
  have HE3 := qA0.mk (HE2'.out.kept HS2'.out hg3)
  have HG03 := qA0.mk (HG02.out.trans hg3)
  have HB3 := qA0.mk (qA1 HB2.out hb3)
  have hlen := Kd.qEI hC
  have HC := qA0.mk hC
  have HK3 := qA0.mk (qAN HK2.out (qB4 hb3 none) (by simp))
  clear hx20 hx21 HK2 HXN hS hl hup hN2 hb3 hg3 hC HS2' HE2' HG02 HB2
  generalize hys : next x = ys at *
  have HYS := qA0.mk hys
  clear hys
  go_wp2_with fail
  go_loopw [22] (fun v22 wr => ∃ (i : Nat) (t : S58 → Int) (n' : Nat), i ≤ ys.length ∧ v22 = .int .i64 (i : Int) ∧ qA0 (W3.grownBy wr (some bM)) ∧ qA0 (qCV.St wr bM n' t) ∧ qA0 (n' + 2 * Dfs.zeros U t ≤ M - 1 ∧ Dfs.Inv next t ∧ Dfs.Post (Dfs.upd s x 1) t) ∧ qA0 (∀ y, y ∈ ys.take i → t y = 2)) (fun v22 _ => ys.length - (RowKit.intOf v22).toNat)
  case atStart => exact ⟨0, Dfs.upd s x 1, n + 1, by omega, rfl, ⟨World.grownBy.refl _ _⟩, HS3, ⟨by omega, HI1.out, Dfs.Post.refl _⟩, ⟨fun y hy => by simp at hy⟩⟩
  case round =>
   obtain ⟨i, t, n', hi, rfl, HGr, HSt, HD, HA⟩ := hrel
   have HEr := qA0.mk (HE3.out.kept HS3.out HGr.out)
   have hsr : wr.cell? ⟨bS, 0, none⟩ = some (.map (some bM)) := (qA4 HEr.out.s 0).trans rfl
   have hkr : wr.cell? ⟨bW, 0, none⟩ = some (.func (.func 32) #[] #[.pointer (some ⟨bS, 0, none⟩), .pointer (some ⟨bN, 0, none⟩), .pointer (some ⟨bW, 0, none⟩)]) := (qA4 HEr.out.k 0).trans rfl
   have hkx := qAN HK3.out HGr.out (fun e => hbM (Option.some.inj e).symm)
   have hxr0 : wr.cell? ⟨W.heap.size, 0, none⟩ = some (.string x.f0) := (qA4 hkx 0).trans rfl
   have hxr1 : wr.cell? ⟨W.heap.size, 1, none⟩ = some (.string x.f1) := (qA4 hkx 1).trans rfl
   clear hkx
   by_cases hlt : i < ys.length
   ·obtain ⟨ad, rfl, hx0, hx1⟩ := at_T58 HC.out (i : Int) (by omega) (by omega)
    simp only [Int.toNat_natCast] at hx0 hx1
    replace hx0 := qCV.cell_kept HS3.out HGr.out hx0
    replace hx1 := qCV.cell_kept HS3.out HGr.out hx1
    have hymem : qB5 ys (i : Int) ∈ ys := by simp [qB5, hlt]
    have HY := qA0.mk (show ys[i]? = some (qB5 ys (i : Int)) from by simp [qB5, hlt])
    generalize qB5 ys (i : Int) = y at *
    have hkr2 : (wr.alloc (.cells #[.string y.f0, .string y.f1] 58)).cell? ⟨bW, 0, none⟩ = some (.func (.func 32) #[] #[.pointer (some ⟨bS, 0, none⟩), .pointer (some ⟨bN, 0, none⟩), .pointer (some ⟨bW, 0, none⟩)]) := (qA4 (HEr.out.kept HSt.out (World.grownBy_alloc wr (.cells #[.string y.f0, .string y.f1] 58) (some bM))).k 0).trans rfl
    have hy : y ∈ next x := by rw [HYS.out]; exact hymem
    have hyU := HX.out.cl x y hy
    have hs := Gen.qDZ hlt hlen
    obtain ⟨d1, d2, d3⟩ := HD.out
    have hBr : Below w.heap.size w wr := qBN HB3.out (some bM) HB3.out.size HGr.out (fun k e => by obtain rfl := Option.some.inj e; exact hM0)
    have hzt : Dfs.zeros U t ≤ Dfs.zeros U (Dfs.upd s x 1) := Dfs.zeros_le U fun u hu => by rw [d3.keep u hu]; exact hu
    have HCall := qA0.mk (HIH.out t n' (M - 1) y (wr.alloc (.cells #[.string y.f0, .string y.f1] 58)) (by omega) (by omega) d1 (HEr.out.kept HSt.out (World.grownBy_alloc wr _ (some bM))) (HSt.out.kept (row := none) (World.grownBy_alloc wr (.cells #[.string y.f0, .string y.f1] 58) none) (by simp)) (qAG hBr _) d2 (Dfs.path_next HP.out d3 hy) hyU)
    have HHy := qA0.mk hy
    clear hy hyU d1 d2 d3 hBr hzt hymem
    go_wp2_with fail
    refine HCall.out.mono ?_
    rintro e W5 ⟨b, rfl, hg5, ht, hf⟩
    cases b
    ·obtain ⟨t2, n2, e1, e2, e3, e4, e5⟩ := hf rfl
     have HG5 := qA0.mk ((HGr.out.trans ((World.grownBy_alloc wr _ (some bM)) : wr.grownBy (wr.alloc (.cells #[.string y.f0, .string y.f1] 58)) (some bM))).trans hg5)
     have HS5 := qA0.mk e1
     have HD5 := qA0.mk (And.intro e2 (And.intro e3 (HD.out.2.2.trans e4)))
     have HA5 : qA0 (∀ u, u ∈ ys.take (i + 1) → t2 u = 2) := ⟨fun u hu => by
      rw [List.take_add_one, HY.out] at hu
      rcases List.mem_append.1 hu with h | h
      ·rw [e4.keep u (by rw [HA.out u h]; decide)]; exact HA.out u h
      ·have : u = y := by simpa using h
       rw [this]; exact e5⟩
     clear hg5 ht hf e1 e2 e3 e4 e5
     go_wp2_with fail
     go_roundw
     case rel => exact ⟨i + 1, t2, n2, by omega, by first | rfl | (simp; done) | rw [Int.natCast_add]; rfl, HG5, HS5, HD5, HA5⟩
     case measure => simp [RowKit.intOf]; omega
    ·have HG5 := qA0.mk ((HG03.out.trans HGr.out).trans (((World.grownBy_alloc wr _ (some bM)) : wr.grownBy (wr.alloc (.cells #[.string y.f0, .string y.f1] 58)) (some bM)).trans hg5))
     have HCy := qA0.mk (Dfs.Cyc.step HHy.out (ht rfl))
     clear hg5 ht hf
     go_wp2_with fail
     go_ret
     exact ⟨true, rfl, HG5.out, fun _ => HCy.out, (fun h => by cases h)⟩
   ·obtain rfl : i = ys.length := by omega
    have hall : ∀ u, u ∈ next x → t u = 2 := fun u hu => HA.out u (by rw [List.take_length]; rw [HYS.out] at hu; exact hu)
    obtain ⟨d1, d2, d3⟩ := HD.out
    have h1x : t x = 1 := by rw [d3.keep x (by simp [Dfs.upd])]; simp [Dfs.upd]
    obtain ⟨W7, hup7, HS7, hg7⟩ := HSt.out.put (by omega : n' < maxLen) hxo (v := 2) (by decide)
    have hzt : Dfs.zeros U (Dfs.upd t x 2) ≤ Dfs.zeros U t := Dfs.zeros_le U fun u hu => by
     unfold Dfs.upd
     split
     ·decide
     ·exact hu
    have HEnd := qA0.mk (show ∃ (t' : S58 → Int) (n'' : Nat), qCV.St W7 bM n'' t' ∧ n'' + 2 * Dfs.zeros U t' ≤ M ∧ Dfs.Inv next t' ∧ Dfs.Post s t' ∧ t' x = 2 from ⟨Dfs.upd t x 2, n' + 1, HS7, by omega, Dfs.ended d2 h1x hall, Dfs.post_end H0.out d3, by simp [Dfs.upd]⟩)
    have HG7 := qA0.mk ((HG03.out.trans HGr.out).trans hg7)
    clear HS7 hg7 d1 d2 d3 hall h1x hzt hkr
    go_wp2_with fail
    go_ret
    exact ⟨false, rfl, HG7.out, (fun h => by cases h), fun _ => HEnd.out⟩
theorem qCV.idx (A : Option Addr) (c : Nat) (l : List S58) (g1 : Addr) (g2 : Addr) (g3 : Addr) (J T : Nat → World → Prop) (hJ : ∀ k W, J k W → Kd.C k58 W A l.length l) (hl : l.length ≤ c)
  (hcall : ∀ k W , k < l.length → J k W → Calls Try.prog 32 #[.agg #[.string (l.getD k z58).f0, .string (l.getD k z58).f1], .pointer (some g1), .pointer (some g2), .pointer (some g3)] W fun e W' => (e = .returned (.bool true) ∧ T k W') ∨ (e = .returned (.bool false) ∧ J (k + 1) W')) (w : World) (h0 : J 0 w) :
  Calls Try.prog 59 #[.slice A l.length c, .func (.func 32) #[] #[.pointer (some g1), .pointer (some g2), .pointer (some g3)]] w fun e W' => (∃ k : Nat, k < l.length ∧ e = .returned (.int .i64 (k : Int)) ∧ T k W') ∨ (e = .returned (.int .i64 (-1)) ∧ J l.length W') := by
 have hm := Kd.qEI (hJ 0 w h0)
 have H0 := qA0.mk h0
 clear h0
 go_enter Try.func59, Try.ntmps59
 go_wp2
 go_loopw [5, 8] (fun _ i wr => ∃ k : Nat, k ≤ l.length ∧ i = .int .i64 k ∧ qA0 (J k wr)) (fun _ i _ => l.length - (intOf i).toNat)
 case atStart => exact ⟨0, Nat.zero_le _, rfl, H0⟩
 case round =>
  obtain ⟨k, hk, rfl, HJ⟩ := hrel
  by_cases hlt : k < l.length
  ·have hC := hJ k wr HJ.out
   obtain ⟨ad, rfl, hx0, hx1⟩ := at_T58 hC (k : Int) (by omega) (by omega)
   have e_ : qB5 l (k : Int) = l.getD k z58 := by simp [qB5]
   rw [e_] at hx0 hx1
   simp only [Int.toNat_natCast] at hx0 hx1
   clear hC e_
   have HC := qA0.mk (hcall k wr  hlt HJ.out)
   clear hcall
   generalize l.getD k z58 = y at *
   go_wp2_with fail
   refine HC.out.mono ?_
   rintro e w' (⟨rfl, ht⟩ | ⟨rfl, hj⟩)
   ·have HT := qA0.mk ht
    clear ht
    go_wp2_with fail
    go_ret
    exact .inl ⟨k, hlt, rfl, HT.out⟩
   ·have HJ2 := qA0.mk hj
    clear hj
    go_wp2_with fail
    go_roundw
    case rel => exact ⟨k + 1, by omega, by go_num, HJ2⟩
    case measure => simp [intOf]; omega
  ·obtain rfl : k = l.length := by omega
   go_wp2_with fail
   go_ret
   exact .inr ⟨rfl, HJ.out⟩
theorem qCV.contains (A : Option Addr) (c : Nat) (l : List S58) (g1 : Addr) (g2 : Addr) (g3 : Addr) (J T : Nat → World → Prop) (hJ : ∀ k W, J k W → Kd.C k58 W A l.length l) (hl : l.length ≤ c)
  (hcall : ∀ k W, k < l.length → J k W → Calls Try.prog 32 #[.agg #[.string (l.getD k z58).f0, .string (l.getD k z58).f1], .pointer (some g1), .pointer (some g2), .pointer (some g3)] W fun e W' => (e = .returned (.bool true) ∧ T k W') ∨ (e = .returned (.bool false) ∧ J (k + 1) W')) (w : World) (h0 : J 0 w) :
  Calls Try.prog 33 #[.slice A l.length c, .func (.func 32) #[] #[.pointer (some g1), .pointer (some g2), .pointer (some g3)]] w fun e W' => (e = .returned (.bool true) ∧ ∃ k : Nat, k < l.length ∧ T k W') ∨ (e = .returned (.bool false) ∧ J l.length W') := by
 have HI := qA0.mk (qCV.idx A c l g1 g2 g3 J T hJ hl hcall w h0)
 clear hcall hJ h0
 go_enter Try.func33, Try.ntmps33
 go_wp2_with fail
 refine HI.out.mono ?_
 rintro e w' (⟨k, hk, rfl, ht⟩ | ⟨rfl, hj⟩)
 ·have HT := qA0.mk ht
  clear ht
  go_wp2_with fail
  go_ret
  exact .inl ⟨by simp, k, hk, HT.out⟩
 ·have HJ := qA0.mk hj
  clear hj
  go_wp2_with fail
  go_ret
  exact .inr ⟨by simp, HJ.out⟩
set_option maxRecDepth 100000 in
set_option maxHeartbeats 2000000 in
open Classical in
theorem qCV.search (A0 : Option Addr) (c0 : Nat) (all : List S58) (w : World) (next : S58 → List S58) (U : List S58) (gp : Addr) (hC : Kd.C k58 w A0 all.length all) (hl : all.length ≤ c0) (X : qCV.Ctx w next U gp) (hall : ∀ x ∈ all, x ∈ U) (hU : 2 * U.length < maxLen) :
  Calls Try.prog 16 #[.slice A0 all.length c0, .func (.func 17) #[] #[.pointer (some gp)]] w fun e w' => e = .returned (.bool (decide (∃ x, x ∈ all ∧ Dfs.Cyc next x))) ∧ Below w.heap.size w w' := by
 have hmm := @run_makeMap Try.prog
 go_enter Try.func16, Try.ntmps16
 go_wp2_with fail
 generalize hW4 : (((w.alloc (.cells #[.func (.func 17) #[] #[.pointer (some gp)]] 61)).alloc (.map #[] 0)).alloc (.cells #[.map (some (w.heap.size + 1))] 94)).alloc (.cells #[.func (.func 32) #[] #[.pointer (some ⟨w.heap.size + 1 + 1, 0, none⟩), .pointer (some ⟨w.heap.size, 0, none⟩), .pointer (some ⟨w.heap.size + 1 + 1 + 1, 0, none⟩)]] 95) = W4
 have hB4 : Below w.heap.size w W4 := by rw [← hW4]; exact qAG (qAG (qAG (qAG (Below.refl _ _) _) _) _) _
 have hE4 : qCV.Env W4 (w.heap.size + 1 + 1) w.heap.size (w.heap.size + 1 + 1 + 1) (w.heap.size + 1) gp := by
  rw [← hW4]
  refine ⟨?_, qAN (qAN (qAN (heap_alloc_new w _) (World.grownBy_alloc _ _ none) (by simp)) (World.grownBy_alloc _ _ none) (by simp)) (World.grownBy_alloc _ _ none) (by simp), ?_⟩
  ·have h := heap_alloc_new ((w.alloc (.cells #[.func (.func 17) #[] #[.pointer (some gp)]] 61)).alloc (.map #[] 0)) (.cells #[.map (some (w.heap.size + 1))] 94)
   rw [show ((w.alloc (.cells #[.func (.func 17) #[] #[.pointer (some gp)]] 61)).alloc (.map #[] 0)).heap.size = w.heap.size + 1 + 1 from by simp] at h
   exact qAN h (World.grownBy_alloc _ _ none) (by simp)
  ·have h := heap_alloc_new (((w.alloc (.cells #[.func (.func 17) #[] #[.pointer (some gp)]] 61)).alloc (.map #[] 0)).alloc (.cells #[.map (some (w.heap.size + 1))] 94)) (.cells #[.func (.func 32) #[] #[.pointer (some ⟨w.heap.size + 1 + 1, 0, none⟩), .pointer (some ⟨w.heap.size, 0, none⟩), .pointer (some ⟨w.heap.size + 1 + 1 + 1, 0, none⟩)]] 95)
   rw [show (((w.alloc (.cells #[.func (.func 17) #[] #[.pointer (some gp)]] 61)).alloc (.map #[] 0)).alloc (.cells #[.map (some (w.heap.size + 1))] 94)).heap.size = w.heap.size + 1 + 1 + 1 from by simp] at h
   exact h
 have hS4 : qCV.St W4 (w.heap.size + 1) 0 (fun _ => 0) := by
  rw [← hW4]
  have h1 : qCV.St ((w.alloc (.cells #[.func (.func 17) #[] #[.pointer (some gp)]] 61)).alloc (.map #[] 0)) (w.heap.size + 1) 0 (fun _ => 0) := by
   have h0 := World.ownsMap_made (H := Unit) (w.alloc (.cells #[.func (.func 17) #[] #[.pointer (some gp)]] 61)) Try.prog 58 (plainElem Try.prog 3)
   rw [show (w.alloc (.cells #[.func (.func 17) #[] #[.pointer (some gp)]] 61)).heap.size = w.heap.size + 1 from by simp] at h0
   exact ⟨_, h0, fun x _ => rfl⟩
  exact (h1.kept (World.grownBy_alloc _ _ none) (by simp)).kept (World.grownBy_alloc _ _ none) (by simp)
 clear hW4
 refine (qCV.contains A0 c0 all ⟨w.heap.size + 1 + 1, 0, none⟩ ⟨w.heap.size, 0, none⟩ ⟨w.heap.size + 1 + 1 + 1, 0, none⟩
  (fun k W => ∃ (s : S58 → Int) (n : Nat), qCV.Env W (w.heap.size + 1 + 1) w.heap.size (w.heap.size + 1 + 1 + 1) (w.heap.size + 1) gp ∧ qCV.St W (w.heap.size + 1) n s ∧ Below w.heap.size w W ∧ Dfs.Inv next s ∧ (∀ y, s y ≠ 1) ∧ n + 2 * Dfs.zeros U s ≤ 2 * U.length ∧ ∀ x, x ∈ all.take k → s x = 2)
  (fun _ W => (∃ x, x ∈ all ∧ Dfs.Cyc next x) ∧ Below w.heap.size w W) (fun k W ⟨_, _, _, _, hb, _⟩ => Kd.qAQ hC hb) hl ?_ W4 ?_).mono ?_
 ·rintro k W hk ⟨s, n, h1, h2, h3, h4, h5, h6, h7⟩
  have hm : all.getD k z58 ∈ all := by rw [List.getD_eq_getElem?_getD, List.getElem?_eq_getElem hk]; exact List.getElem_mem _
  have hg : all[k]? = some (all.getD k z58) := by rw [List.getD_eq_getElem?_getD, List.getElem?_eq_getElem hk]; rfl
  refine (qCV.walk w next U gp X _ _ _ _ (by omega) (Dfs.zeros U s) s n (2 * U.length) _ W (Nat.le_refl _) hU h6 h1 h2 h3 h4 (fun y hy => absurd hy (h5 y)) (hall _ hm)).mono ?_
  rintro e W' ⟨b, rfl, hgr, ht, hf⟩
  have hb' := qBN h3 (some (w.heap.size + 1)) h3.size hgr (fun k e => by obtain rfl := Option.some.inj e; omega)
  cases b
  ·obtain ⟨t, n', e1, e2, e3, e4, e5⟩ := hf rfl
   refine .inr ⟨rfl, t, n', h1.kept h2 hgr, e1, hb', e3, fun y hy => h5 y (e4.ones y hy), e2, fun u hu => ?_⟩
   rw [List.take_add_one, hg] at hu
   rcases List.mem_append.1 hu with h | h
   ·rw [e4.keep u (by rw [h7 u h]; decide)]; exact h7 u h
   ·have : u = all.getD k z58 := by simpa using h
    rw [this]; exact e5
  ·exact .inl ⟨rfl, ⟨_, hm, ht rfl⟩, hb'⟩
 ·refine ⟨fun _ => 0, 0, hE4, hS4, hB4, ⟨fun _ => .inl rfl, fun x h => by simp at h⟩, fun y h => by simp at h, ?_, fun x hx => by simp at hx⟩
  have : Dfs.zeros U (fun _ : S58 => (0 : Int)) ≤ U.length := List.countP_le_length
  omega
 ·rintro e W' (⟨rfl, k, hk, hT, hb⟩ | ⟨rfl, s, n, h1, h2, h3, h4, h5, h6, h7⟩)
  ·have HD := qA0.mk (decide_eq_true hT)
   have HB := qA0.mk hb
   clear hT hb
   go_wp2_with fail
   go_ret
   exact ⟨by rw [HD.out]; rfl, HB.out⟩
  ·have hno : ¬ ∃ x, x ∈ all ∧ Dfs.Cyc next x := fun ⟨x, hx, hc⟩ => (h4.done x (h7 x (by rw [List.take_length]; exact hx))).1 hc
   have HD := qA0.mk (decide_eq_false hno)
   have HB := qA0.mk h3
   clear hno h1 h2 h3 h4 h5 h6 h7
   go_wp2_with fail
   go_ret
   exact ⟨by rw [HD.out]; rfl, HB.out⟩
theorem put_block {α : Type} [Inhabited α] (enc : α → Value) (w : World) (n : Nat) (os : Array Obj) (g e : Nat) (cur : Array Value) (d : Array α) (hb : w.heap[g]? = some (.cells cur e (0, 0))) :
  (Sort.grow (Sort.putRow enc (Sort.ahead w n) g 0 d) os).heap[g]? = some (.cells (Sort.putCells enc 0 d cur) e (0, 0)) := by
 have hg := Gen.qBH hb
 rw [Sort.heap_grow_old _ _ (by simpa using hg)]
 simp only [Sort.putRow, Sort.mapBlock, Array.getElem?_modify, Sort.heap_ahead]
 rw [if_pos trivial, hb]
 rfl
theorem qB7 {α : Type} [Inhabited α] (enc : α → Value) (w : World) (n : Nat) (os : Array Obj) (g k : Nat) (d : Array α) (hk : k < w.heap.size) (hne : k ≠ g) :
  (Sort.grow (Sort.putRow enc (Sort.ahead w n) g 0 d) os).heap[k]? = w.heap[k]? := by
 rw [Sort.heap_grow_old _ _ (by simpa using hk)]
 simp only [Sort.putRow, Sort.mapBlock, Array.getElem?_modify, Sort.heap_ahead]
 rw [if_neg (by omega)]
theorem put_cells {α : Type} [Inhabited α] (enc : α → Value) (cur : Array Value) (ys : List α) (h : ys.length ≤ cur.size) :
  (Sort.putCells enc 0 ys.toArray cur).size = cur.size ∧ (Sort.putCells enc 0 ys.toArray cur).toList.take ys.length = ys.map enc := by
 refine ⟨by simp [Sort.putCells], ?_⟩
 apply List.ext_getElem?
 intro j
 by_cases hj : j < ys.length
 ·rw [List.getElem?_take_of_lt hj]
  simp [Sort.putCells, hj, show j < cur.size from by omega]
 ·rw [List.getElem?_eq_none (by simp; omega), List.getElem?_eq_none (by simp; omega)]
def toB (l : List ByteArray) : List (List UInt8) := l.map fun s => s.data.toList
def ofB (l : List (List UInt8)) : List ByteArray := l.map fun b => ⟨b.toArray⟩
theorem encs_ofB (l : List (List UInt8)) : encs Value.string (ofB l) = l.map encStr := by
 unfold ofB encs
 rw [List.map_map]
 rfl
theorem qEU (l : List ByteArray) : (toB l).length = l.length := by simp [toB]
theorem ofB_len (l : List (List UInt8)) : (ofB l).length = l.length := by simp [ofB]
def qCZ.s (l : List ByteArray) : List ByteArray := ofB ((toB l).mergeSort fun x y => decide (x ≤ y))
def qCZ.f (l0 : List ByteArray) : Option (List ByteArray) := if l0.length < 4611686018427387904 then some (qCZ.s l0) else none
theorem qCZ.len (l : List ByteArray) : (qCZ.s l).length = l.length := by simp [qCZ.s, ofB_len, qEU]
theorem holds_strs {w : World} {g : Nat} {cur : Array Value} {l0 : List ByteArray} (hb : w.heap[g]? = some (.cells cur 9 (0, 0))) (htake : cur.toList.take (l0.length * 1) = encs Value.string l0) : Sort.Holds encStr w g 0 (toB l0).toArray := by
 intro j hj
 have hj' : j < l0.length := by simpa [toB] using hj
 refine ⟨?_, by simp [World.frozen?, hb]⟩
 have h1 : (cur.toList.take (l0.length * 1))[j]? = (encs Value.string l0)[j]? := by rw [htake]
 rw [List.getElem?_take_of_lt (by omega)] at h1
 simp [World.cell?, hb]
 simpa [encs, hj', toB] using h1
theorem qCZ.calls (P0_ : Nat → Prop) (u9000_ : Value) (l0 : List ByteArray) (r : List ByteArray) (w0 w : World) (hB : Below w0.heap.size w0 w) (ho0 : Kd.R Kd.string 9 w w0.heap.size P0_ u9000_ l0) (h : qCZ.f l0 = some r) :
  Calls Try.prog 60 #[u9000_] w fun e w' => e = .returned (.tuple #[]) ∧ Kd.R Kd.string 9 w' w0.heap.size (fun k_ => (P0_ k_ ∨ w.heap.size ≤ k_)) u9000_ r ∧ Below w0.heap.size w0 w' ∧ Kept w w' (fun k_ => P0_ k_) := by
 unfold qCZ.f at h
 by_cases hsz : l0.length < 4611686018427387904
 case neg => rw [if_neg hsz] at h; cases h
 rw [if_pos hsz] at h
 obtain rfl := Option.some.inj h
 clear h
 have hown := Kd.own_of_R ho0
 have hok := ho0.1
 obtain ⟨hlen, hcase⟩ := hown
 rcases hcase with ⟨rfl, h0⟩ | ⟨g, cap, cur, rfl, hg, hb, hnc, hcm, hcs, htake⟩
 ·have e0 : l0 = [] := List.length_eq_zero_iff.1 h0
  subst e0
  refine (Try.slices_Sort_string_none none 0 w).mono ?_
  rintro e w' ⟨rfl, rfl⟩
  exact ⟨rfl, by simpa [qCZ.s, ofB, toB] using Kd.R_nil _ _ _ _ _, hB, Kept.refl _ _⟩
 ·have hgl := Gen.qBH hb
  have hH := holds_strs hb htake
  have hcall := Try.slices_Sort_string g 0 cap (toB l0) w hH hgl (by rw [qEU]; exact hsz)
  rw [qEU] at hcall
  refine hcall.mono ?_
  rintro e w' ⟨rfl, n, os, rfl⟩
  have hl := qCZ.len l0
  generalize hs : (toB l0).mergeSort (fun x y => decide (x ≤ y)) = bs
  have hbl : bs.length = l0.length := by rw [← hs, List.length_mergeSort, qEU]
  have hrs : qCZ.s l0 = ofB bs := by unfold qCZ.s; rw [hs]
  obtain ⟨p1, p2⟩ := put_cells encStr cur bs (by omega)
  have hb' := put_block encStr w n os g 9 cur bs.toArray hb
  rw [hrs]
  refine ⟨rfl, ?_, ?_, ?_, ?_⟩
  ·refine Kd.R_of_own (h1 := fun _ => rfl) ⟨?_, .inr ⟨g, cap, _, by rw [ofB_len, hbl], hg, hb', by rw [ofB_len]; omega, hcm, by omega, ?_⟩⟩ ?_
   ·simp [encs]
   ·rw [Nat.mul_one, ofB_len, encs_ofB]; exact p2
   ·intro k hk; exact .inl (hok k hk)
  ·exact ⟨hB.os, hB.tape, hB.output, by have := hB.size; simp; omega, fun k hk => by rw [qB7 _ _ _ _ _ _ _ (by have := hB.size; omega) (by omega)]; exact hB.block k hk⟩
  ·simp
  ·intro k hk hn
   exact qB7 _ _ _ _ _ _ _ hk (fun e => hn (hok k (by simp [Value.ownBlock, e])))
def qCT.s (l : List ByteArray) : List ByteArray := ofB (Lib.compact (toB l))
def qCT.f (l0 : List ByteArray) : Option (List ByteArray) := if l0.length < 4611686018427387904 then some (qCT.s l0) else none
theorem qCT.calls (P0_ : Nat → Prop) (u9000_ : Value) (l0 : List ByteArray) (r : List ByteArray) (w0 w : World) (hB : Below w0.heap.size w0 w) (ho0 : Kd.R Kd.string 9 w w0.heap.size P0_ u9000_ l0) (h : qCT.f l0 = some r) :
  Calls Try.prog 61 #[u9000_] w fun e w' => ∃ v0_ : Value, e = .returned (v0_) ∧ Kd.R Kd.string 9 w' w0.heap.size (fun k_ => (P0_ k_ ∨ w.heap.size ≤ k_)) v0_ r ∧ Below w0.heap.size w0 w' ∧ Kept w w' (fun k_ => P0_ k_) := by
 unfold qCT.f at h
 by_cases hsz : l0.length < 4611686018427387904
 case neg => rw [if_neg hsz] at h; cases h
 rw [if_pos hsz] at h
 obtain rfl := Option.some.inj h
 clear h
 have hown := Kd.own_of_R ho0
 have hok := ho0.1
 obtain ⟨hlen, hcase⟩ := hown
 rcases hcase with ⟨rfl, h0⟩ | ⟨g, cap, cur, rfl, hg, hb, hnc, hcm, hcs, htake⟩
 ·have e0 : l0 = [] := List.length_eq_zero_iff.1 h0
  subst e0
  refine (Try.slices_Compact_string_empty none 0 w).mono ?_
  rintro e w' ⟨rfl, rfl⟩
  exact ⟨_, rfl, Kd.R_nil _ _ _ _ _, hB, Kept.refl _ _⟩
 ·have hgl := Gen.qBH hb
  have hH := holds_strs hb htake
  have hcl : (Lib.compact (toB l0)).length ≤ l0.length := by have := Lib.compact_length_le (toB l0); rwa [qEU] at this
  have hcall := Try.slices_Compact_string g 0 cap (toB l0) w hH (by rw [qEU]; omega) (by rw [qEU]; exact hnc)
  rw [qEU] at hcall
  refine hcall.mono ?_
  rintro e w' ⟨rfl, n, rfl⟩
  unfold qCT.s
  generalize Lib.compact (toB l0) = cs at hcl ⊢
  generalize hz : cs ++ List.replicate (l0.length - cs.length) ([] : List UInt8) = zs
  have hzl : zs.length = l0.length := by rw [← hz]; simp; omega
  obtain ⟨p1, p2⟩ := put_cells encStr cur zs (by omega)
  have hb' := put_block encStr w n #[] g 9 cur zs.toArray hb
  rw [Sort.grow_empty] at hb'
  have ho : ∀ k, k < w.heap.size → k ≠ g → (Sort.putRow encStr (Sort.ahead w n) g 0 zs.toArray).heap[k]? = w.heap[k]? := fun k hk hne => by
   have := qB7 encStr w n #[] g k zs.toArray hk hne
   rwa [Sort.grow_empty] at this
  refine ⟨_, rfl, ?_, ?_, ?_, ?_⟩
  ·refine Kd.R_of_own (h1 := fun _ => rfl) ⟨?_, .inr ⟨g, cap, _, by rw [ofB_len], hg, hb', by rw [ofB_len]; omega, hcm, by omega, ?_⟩⟩ ?_
   ·simp [encs]
   ·rw [Nat.mul_one, ofB_len, encs_ofB]
    have e : (Sort.putCells encStr 0 zs.toArray cur).toList.take cs.length = (((Sort.putCells encStr 0 zs.toArray cur).toList.take zs.length).take cs.length) := by
     rw [List.take_take, Nat.min_eq_left (by omega)]
    rw [e, p2, ← hz]
    simp
   ·intro k hk; exact .inl (hok k hk)
  ·exact ⟨hB.os, hB.tape, hB.output, by have := hB.size; simp; omega, fun k hk => by rw [ho _ (by have := hB.size; omega) (by omega)]; exact hB.block k hk⟩
  ·simp
  ·intro k hk hn
   exact ho k hk (fun e => hn (hok k (by simp [Value.ownBlock, e])))
mutual
def qAT.l0 : Nat → List ByteArray → List ByteArray → List (S80) → Int → Int → Option (List ByteArray × List ByteArray)
 | 0, _, _, _, _, _ => none
 | k + 1, x4, x5, x8, x9, x10 => if x10 < x9 then (if 0 ≤ x10 then (if x10 < (x8.length : Int) then (if ((qA2 x8 x10).f0) = 1 then (qAT.j1 k x4 x5 x8 x9 x10 ((qA2 x8 x10).f0) (((qA2 x8 x10).f0) == 1) ((qA2 x8 x10).f0) ((qA2 x8 x10).f1) ((qA2 x8 x10).f2) ((qA2 x8 x10).f3) ((qA2 x8 x10).f4)) else (if ((qA2 x8 x10).f0) = 2 then (qAT.j1 k x4 x5 x8 x9 x10 ((qA2 x8 x10).f0) (((qA2 x8 x10).f0) == 2) ((qA2 x8 x10).f0) ((qA2 x8 x10).f1) ((qA2 x8 x10).f2) ((qA2 x8 x10).f3) ((qA2 x8 x10).f4)) else (qAT.j1 k x4 x5 x8 x9 x10 ((qA2 x8 x10).f0) (((qA2 x8 x10).f0) == 3) ((qA2 x8 x10).f0) ((qA2 x8 x10).f1) ((qA2 x8 x10).f2) ((qA2 x8 x10).f3) ((qA2 x8 x10).f4)))) else (none)) else (none)) else ((qCZ.f x4).bind fun t386 => ((qCZ.f x5).bind fun t387 => ((qCT.f t386).bind fun t388 => ((qCT.f t387).bind fun t391 => (some (t388, t391))))))
def qAT.j1 : Nat → List ByteArray → List ByteArray → List (S80) → Int → Int → Int → Bool → Int → List Int → Int → Int → ByteArray → Option (List ByteArray × List ByteArray)
 | 0, _, _, _, _, _, _, _, _, _, _, _, _ => none
 | k + 1, x4, x5, x8, x9, x10, x15, x16, x380000, x380001, x380002, x380003, x380004 => if x16 = true then (if x4.length < 8796093022208 then (qAT.l0 k (x4 ++ [x380004]) x5 x8 x9 (wrap64 (x10 + 1))) else (none)) else (if x15 = 16 then (if x5.length < 8796093022208 then (qAT.l0 k x4 (x5 ++ [x380004]) x8 x9 (wrap64 (x10 + 1))) else (none)) else (qAT.l0 k x4 x5 x8 x9 (wrap64 (x10 + 1))))
end
def qAT.f (k : Nat) (l0 : List (S80)) : Option (List ByteArray × List ByteArray) := qAT.l0 k ([] : List ByteArray) ([] : List ByteArray) l0 (l0.length : Int) 0
theorem qAT.qBY : ∀ k, (∀ y0 y1 y2 y3 y4, LeO (qAT.l0 k y0 y1 y2 y3 y4) (qAT.l0 (k + 1) y0 y1 y2 y3 y4)) ∧ (∀ y0 y1 y2 y3 y4 y5 y6 y7 y8 y9 y10 y11, LeO (qAT.j1 k y0 y1 y2 y3 y4 y5 y6 y7 y8 y9 y10 y11) (qAT.j1 (k + 1) y0 y1 y2 y3 y4 y5 y6 y7 y8 y9 y10 y11))
 | 0 => ⟨fun _ _ _ _ _ r h => by simp [qAT.l0] at h, fun _ _ _ _ _ _ _ _ _ _ _ _ r h => by simp [qAT.j1] at h⟩
 | k + 1 => by
  obtain ⟨ih0, ih1⟩ := qAT.qBY k
  refine ⟨?_, ?_⟩
  ·intro y0 y1 y2 y3 y4
   unfold qAT.l0
   exact zm
  ·intro y0 y1 y2 y3 y4 y5 y6 y7 y8 y9 y10 y11
   unfold qAT.j1
   exact zm
theorem qAT.mono : ∀ a0 k, LeO (qAT.f k a0) (qAT.f (k + 1) a0) := by
 intro a0 k
 obtain ⟨ih0, ih1⟩ := qAT.qBY k
 unfold qAT.f
 exact zm
set_option maxHeartbeats 8000000 in
set_option maxRecDepth 100000 in
theorem qAT.calls (k : Nat) (A0 : Option Addr) (c0 : Nat) (l0 : List (S80)) (r1 : List ByteArray) (r2 : List ByteArray) (w : World) (hr0 : Kd.C k80 w A0 l0.length l0) (hc0 : l0.length ≤ c0) (h : qAT.f k l0 = some (r1, r2)) :
  Calls Try.prog 34 #[.slice A0 l0.length c0] w fun e w' => ∃ v0_ v1_ : Value, e = .returned (.tuple #[v0_, v1_]) ∧ Kd.R Kd.string 9 w' w.heap.size (fun k_ => some k_ ≠ (v1_ : Value).ownBlock) v0_ r1 ∧ Kd.R Kd.string 9 w' w.heap.size (fun k_ => some k_ ≠ (v0_ : Value).ownBlock) v1_ r2 ∧ Below w.heap.size w w' := by
 have hu80 := Try.underlying80
 have HR0 := qA0.mk hr0
 have HC0 := qA0.mk hc0
 clear hr0 hc0
 have HB := qA0.mk (Below.refl w.heap.size w)
 have H : (qAT.l0 k ([] : List ByteArray) ([] : List ByteArray) l0 (l0.length : Int) 0) = some (r1, r2) := h
 clear h
 have H' := qA0.mk H
 clear H
 go_enter Try.func34, Try.ntmps34
 go_wp2
 go_loopg [4, 5, 10] k (fun kq v4 v5 v10 w' => ∃ (x4_1 : List ByteArray) (x5_1 : List ByteArray) (x10_1 : Int), v10 = .int .i64 x10_1 ∧ qA0 (qAT.l0 kq x4_1 x5_1 l0 (l0.length : Int) x10_1 = some (r1, r2)) ∧ qA0 (kq ≤ k) ∧ qA0 (Kd.R Kd.string 9 w' w.heap.size (fun k_ => some k_ ≠ (v5 : Value).ownBlock) v4 x4_1) ∧ qA0 (Kd.R Kd.string 9 w' w.heap.size (fun k_ => some k_ ≠ (v4 : Value).ownBlock) v5 x5_1) ∧ qA0 (Below w.heap.size w w'))
 case atStart => exact ⟨(([] : List ByteArray)), (([] : List ByteArray)), (0), zs, H', ⟨Nat.le_refl _⟩, ⟨by first | exact Kd.R_nil _ _ _ _ _ | exact Kd.N_nil _ _ _ _ _ | exact Kd.V_nil _ _ _ _ _ | exact Kd.Q_nil _ _ _ _ _ | exact Kd.S_nil _ _ _ _ _⟩, ⟨by first | exact Kd.R_nil _ _ _ _ _ | exact Kd.N_nil _ _ _ _ _ | exact Kd.V_nil _ _ _ _ _ | exact Kd.Q_nil _ _ _ _ _ | exact Kd.S_nil _ _ _ _ _⟩, ⟨zb⟩⟩
 case round =>
  clear H'
  obtain ⟨x4_1, x5_1, x10_1, rfl, HA, HK1, HO_4, HO_5, HB⟩ := hrel
  cases gk with
  | zero => exact absurd HA.out (by simp [qAT.l0])
  | succ k1 =>
   have H := HA.out
   clear HA
   simp only [qAT.l0] at H
   by_cases c2 : x10_1 < (l0.length : Int)
   ·rw [if_pos c2] at H
    have c2b0 := decide_eq_true c2
    clear c2
    by_cases c3 : 0 ≤ x10_1
    ·rw [if_pos c3] at H
     have c3b0 := decide_eq_true c3
     clear c3
     by_cases c4 : x10_1 < (l0.length : Int)
     ·rw [if_pos c4] at H
      have c4b0 := decide_eq_true c4
      clear c4
      have HC5 := qA0.mk H
      clear H
      have p378 : 0 ≤ (x10_1 : Int) := zd
      have q378 : x10_1 < (l0.length : Int) := zd
      obtain ⟨ad378, A378_1, c378_1, e378, hx378_0, hx378_1, hx378_2, hx378_3, hx378_4, hl378_1, hi378_1⟩ := at_T80 HR0.out x10_1 p378 q378
      cases e378
      (try replace hx378_0 := zh hx378_0)
      replace hx378_1 := zh hx378_1
      replace hx378_2 := zh hx378_2
      replace hx378_3 := zh hx378_3
      replace hx378_4 := zh hx378_4
      have HR378_1 := qA0.mk hi378_1
      have HC378_1 := qA0.mk hl378_1
      clear hi378_1 hl378_1
      replace p378 := eq_true p378
      replace q378 := eq_true q378
      go_upto_if 16 with (((with_reducible refine qAC (N := 7) rfl ?_); refine qAD ?hg (N := 7) ?hd (cs := #[.int .i64 0, .slice none 0 0, .int .i64 0, .int .i64 0, .string (⟨#[]⟩ : ByteArray)]) (t := 80) ?hr ?_; (case hd => rfl); (case hg => rfl); (case hr => first | (go_simp; done) | (go_simp; rfl)); intro gb379 hg w6 hbox hb; have BK379 := qA0.mk (hbox); have GW379 := zg w gb379; have GE379 := zg w gb379; replace HO_4 := qA0.mk (Kd.qBC (by (with_reducible repeat refine sR ?_); exact HO_4.out) hb); replace HO_5 := qA0.mk (Kd.qBC (by (with_reducible repeat refine sR ?_); exact HO_5.out) hb); replace HB := qA0.mk (qA1 zb hb); clear hb hbox hg; obtain ⟨hcz7_0, hcz7_1, hcz7_2, hcz7_3, hcz7_4, hfz7_0, hfz7_1, hfz7_2, hfz7_3, hfz7_4⟩ := bc5 BK379.out))
      go_cut [16] (fun v16 wc => ∃ (kq : Nat) (x16_4 : Bool), v16 = .bool x16_4 ∧ qA0 (qAT.j1 kq x4_1 x5_1 l0 (l0.length : Int) x10_1 ((qA2 l0 x10_1).f0) x16_4 ((qA2 l0 x10_1).f0) ((qA2 l0 x10_1).f1) ((qA2 l0 x10_1).f2) ((qA2 l0 x10_1).f3) ((qA2 l0 x10_1).f4) = some (r1, r2)) ∧ qA0 (kq ≤ k1) ∧ qA0 (Kd.R Kd.string 9 wc w.heap.size (fun k_ => some k_ ≠ (u5 : Value).ownBlock) u4 x4_1) ∧ qA0 (Kd.R Kd.string 9 wc w.heap.size (fun k_ => some k_ ≠ (u4 : Value).ownBlock) u5 x5_1) ∧ qA0 (wc.heap[gb379]? = some (.cells #[.int .i64 ((qA2 l0 x10_1).f0), (.slice A378_1 ((qA2 l0 x10_1).f1).length c378_1), .int .i64 ((qA2 l0 x10_1).f2), .int .i64 ((qA2 l0 x10_1).f3), .string ((qA2 l0 x10_1).f4)] 80 (0, 0))) ∧ qA0 (Below w.heap.size w wc))
      case first =>
       have H := HC5.out
       clear HC5
       by_cases c8 : ((qA2 l0 x10_1).f0) = 1
       ·rw [if_pos c8] at H
        have ⟨c8b0, c8b1⟩ := ze c8
        clear c8
        (first | rw [c8b0] | (simp only [qCE, qCJ]; rw [c8b0]) | skip)
        have H' := qA0.mk H
        clear H
        go_wp2
        go_meet
        case rel => exact ⟨_, ((((qA2 l0 x10_1).f0) == 1)), zs, H', ⟨by have := HK1.out; first | omega | exact Nat.le_refl _⟩, ⟨by (with_reducible repeat refine sR ?_); exact Kd.qB6 (Kd.qAS (Kd.qAS (Kd.qAS (Kd.qAS (Kd.qAS (Kd.qBZ HO_4.out BK379.out (by decide)) (fun _ hk => hk.2) _) (fun _ hk => hk.2) _) (fun _ hk => hk.2) _) (fun _ hk => hk.2) _) (fun _ hk => hk.2) _) (fun _ hk => hk.1)⟩, ⟨by (with_reducible repeat refine sR ?_); exact Kd.qB6 (Kd.qAS (Kd.qAS (Kd.qAS (Kd.qAS (Kd.qAS (Kd.qBZ HO_5.out BK379.out (by decide)) (fun _ hk => hk.2) _) (fun _ hk => hk.2) _) (fun _ hk => hk.2) _) (fun _ hk => hk.2) _) (fun _ hk => hk.2) _) (fun _ hk => hk.1)⟩, ⟨by (with_reducible repeat refine st ?_); refine qAJ (cs := #[.int .i64 ((qA2 l0 x10_1).f0), .slice A378_1 ((qA2 l0 x10_1).f1).length c378_1, .int .i64 ((qA2 l0 x10_1).f2), .int .i64 ((qA2 l0 x10_1).f3), .string (⟨#[]⟩ : ByteArray)]) ?_ 4 _ rfl; (with_reducible repeat refine st ?_); refine qAJ (cs := #[.int .i64 ((qA2 l0 x10_1).f0), .slice A378_1 ((qA2 l0 x10_1).f1).length c378_1, .int .i64 ((qA2 l0 x10_1).f2), .int .i64 0, .string (⟨#[]⟩ : ByteArray)]) ?_ 3 _ rfl; (with_reducible repeat refine st ?_); refine qAJ (cs := #[.int .i64 ((qA2 l0 x10_1).f0), .slice A378_1 ((qA2 l0 x10_1).f1).length c378_1, .int .i64 0, .int .i64 0, .string (⟨#[]⟩ : ByteArray)]) ?_ 2 _ rfl; (with_reducible repeat refine st ?_); refine qAJ (cs := #[.int .i64 ((qA2 l0 x10_1).f0), .slice none 0 0, .int .i64 0, .int .i64 0, .string (⟨#[]⟩ : ByteArray)]) ?_ 1 _ rfl; (with_reducible repeat refine st ?_); refine qAJ (cs := #[.int .i64 0, .slice none 0 0, .int .i64 0, .int .i64 0, .string (⟨#[]⟩ : ByteArray)]) ?_ 0 _ rfl; (with_reducible repeat refine st ?_); exact BK379.out⟩, ⟨zb⟩⟩
       ·rw [if_neg c8] at H
        have ⟨c8b0, c8b1⟩ := zn c8
        (first | rw [c8b0] | (simp only [qCE, qCJ]; rw [c8b0]) | skip)
        by_cases c9 : ((qA2 l0 x10_1).f0) = 2
        ·rw [if_pos c9] at H
         have ⟨c9b0, c9b1⟩ := ze c9
         clear c9
         have H' := qA0.mk H
         clear H
         go_wp2
         go_meet
         case rel => exact ⟨_, ((((qA2 l0 x10_1).f0) == 2)), zs, H', ⟨by have := HK1.out; first | omega | exact Nat.le_refl _⟩, ⟨by (with_reducible repeat refine sR ?_); exact Kd.qB6 (Kd.qAS (Kd.qAS (Kd.qAS (Kd.qAS (Kd.qAS (Kd.qBZ HO_4.out BK379.out (by decide)) (fun _ hk => hk.2) _) (fun _ hk => hk.2) _) (fun _ hk => hk.2) _) (fun _ hk => hk.2) _) (fun _ hk => hk.2) _) (fun _ hk => hk.1)⟩, ⟨by (with_reducible repeat refine sR ?_); exact Kd.qB6 (Kd.qAS (Kd.qAS (Kd.qAS (Kd.qAS (Kd.qAS (Kd.qBZ HO_5.out BK379.out (by decide)) (fun _ hk => hk.2) _) (fun _ hk => hk.2) _) (fun _ hk => hk.2) _) (fun _ hk => hk.2) _) (fun _ hk => hk.2) _) (fun _ hk => hk.1)⟩, ⟨by (with_reducible repeat refine st ?_); refine qAJ (cs := #[.int .i64 ((qA2 l0 x10_1).f0), .slice A378_1 ((qA2 l0 x10_1).f1).length c378_1, .int .i64 ((qA2 l0 x10_1).f2), .int .i64 ((qA2 l0 x10_1).f3), .string (⟨#[]⟩ : ByteArray)]) ?_ 4 _ rfl; (with_reducible repeat refine st ?_); refine qAJ (cs := #[.int .i64 ((qA2 l0 x10_1).f0), .slice A378_1 ((qA2 l0 x10_1).f1).length c378_1, .int .i64 ((qA2 l0 x10_1).f2), .int .i64 0, .string (⟨#[]⟩ : ByteArray)]) ?_ 3 _ rfl; (with_reducible repeat refine st ?_); refine qAJ (cs := #[.int .i64 ((qA2 l0 x10_1).f0), .slice A378_1 ((qA2 l0 x10_1).f1).length c378_1, .int .i64 0, .int .i64 0, .string (⟨#[]⟩ : ByteArray)]) ?_ 2 _ rfl; (with_reducible repeat refine st ?_); refine qAJ (cs := #[.int .i64 ((qA2 l0 x10_1).f0), .slice none 0 0, .int .i64 0, .int .i64 0, .string (⟨#[]⟩ : ByteArray)]) ?_ 1 _ rfl; (with_reducible repeat refine st ?_); refine qAJ (cs := #[.int .i64 0, .slice none 0 0, .int .i64 0, .int .i64 0, .string (⟨#[]⟩ : ByteArray)]) ?_ 0 _ rfl; (with_reducible repeat refine st ?_); exact BK379.out⟩, ⟨zb⟩⟩
        ·rw [if_neg c9] at H
         have ⟨c9b0, c9b1⟩ := zn c9
         have H' := qA0.mk H
         clear H
         go_wp2
         go_meet
         case rel => exact ⟨_, ((((qA2 l0 x10_1).f0) == 3)), zs, H', ⟨by have := HK1.out; first | omega | exact Nat.le_refl _⟩, ⟨by (with_reducible repeat refine sR ?_); exact Kd.qB6 (Kd.qAS (Kd.qAS (Kd.qAS (Kd.qAS (Kd.qAS (Kd.qBZ HO_4.out BK379.out (by decide)) (fun _ hk => hk.2) _) (fun _ hk => hk.2) _) (fun _ hk => hk.2) _) (fun _ hk => hk.2) _) (fun _ hk => hk.2) _) (fun _ hk => hk.1)⟩, ⟨by (with_reducible repeat refine sR ?_); exact Kd.qB6 (Kd.qAS (Kd.qAS (Kd.qAS (Kd.qAS (Kd.qAS (Kd.qBZ HO_5.out BK379.out (by decide)) (fun _ hk => hk.2) _) (fun _ hk => hk.2) _) (fun _ hk => hk.2) _) (fun _ hk => hk.2) _) (fun _ hk => hk.2) _) (fun _ hk => hk.1)⟩, ⟨by (with_reducible repeat refine st ?_); refine qAJ (cs := #[.int .i64 ((qA2 l0 x10_1).f0), .slice A378_1 ((qA2 l0 x10_1).f1).length c378_1, .int .i64 ((qA2 l0 x10_1).f2), .int .i64 ((qA2 l0 x10_1).f3), .string (⟨#[]⟩ : ByteArray)]) ?_ 4 _ rfl; (with_reducible repeat refine st ?_); refine qAJ (cs := #[.int .i64 ((qA2 l0 x10_1).f0), .slice A378_1 ((qA2 l0 x10_1).f1).length c378_1, .int .i64 ((qA2 l0 x10_1).f2), .int .i64 0, .string (⟨#[]⟩ : ByteArray)]) ?_ 3 _ rfl; (with_reducible repeat refine st ?_); refine qAJ (cs := #[.int .i64 ((qA2 l0 x10_1).f0), .slice A378_1 ((qA2 l0 x10_1).f1).length c378_1, .int .i64 0, .int .i64 0, .string (⟨#[]⟩ : ByteArray)]) ?_ 2 _ rfl; (with_reducible repeat refine st ?_); refine qAJ (cs := #[.int .i64 ((qA2 l0 x10_1).f0), .slice none 0 0, .int .i64 0, .int .i64 0, .string (⟨#[]⟩ : ByteArray)]) ?_ 1 _ rfl; (with_reducible repeat refine st ?_); refine qAJ (cs := #[.int .i64 0, .slice none 0 0, .int .i64 0, .int .i64 0, .string (⟨#[]⟩ : ByteArray)]) ?_ 0 _ rfl; (with_reducible repeat refine st ?_); exact BK379.out⟩, ⟨zb⟩⟩
      case rest =>
       clear HC5 c2b0 c3b0 c4b0 hcz7_0 hcz7_1 hcz7_2 hcz7_3 hcz7_4 hfz7_0 hfz7_1 hfz7_2 hfz7_3 hfz7_4 hx378_0 hx378_1 hx378_2 hx378_3 hx378_4 p378 q378
       obtain ⟨kq, x16_4, rfl, HA, HJ4, HO_4, HO_5, BK379, HB⟩ := hcut
       cases kq with
       | zero => exact absurd HA.out (by simp [qAT.j1])
       | succ kj4 =>
        have H := HA.out
        clear HA
        simp only [qAT.j1] at H
        by_cases c10 : x16_4 = true
        ·subst c10
         rw [if_pos rfl] at H
         by_cases c11 : x4_1.length < 8796093022208
         ·rw [if_pos c11] at H
          have LMc11 := qA0.mk c11
          clear c11
          obtain ⟨y380, hy_⟩ : ∃ y_ : List ByteArray, y_ = (x4_1 ++ [((qA2 l0 x10_1).f4)]) := ⟨_, rfl⟩
          replace H : (qAT.l0 kj4 y380 x5_1 l0 (l0.length : Int) (wrap64 (x10_1 + 1))) = some (r1, r2) := zr
          have Ny380 := qA0.mk hy_
          clear hy_
          have H' := qA0.mk H
          clear H
          obtain ⟨hcz12_0, hcz12_1, hcz12_2, hcz12_3, hcz12_4, hfz12_0, hfz12_1, hfz12_2, hfz12_3, hfz12_4⟩ := bc5 BK379.out
          go_wp2_with (((with_reducible refine qDM (b := .append) (xs := #[.tmp 20, .tmp 23]) rfl ?_); at_builtin; refine Kd.R_append Kd.string (w0 := w) w.heap.size rfl (.tmp 20) (.tmp 23) 64 9 (.string ⟨#[]⟩) 16 rfl Try.underlying64 info9 rfl (by decide) (by omega) u4 x4_1 ((qA2 l0 x10_1).f4) [.string ((qA2 l0 x10_1).f4)] (fun k_ => some k_ ≠ (u5 : Value).ownBlock) (fun _ => False) rfl rfl ?aP (fun _ hk => hk.elim) ?aF ?aO ?aB ?aS ?aL ?_; (case aP => exact rfl); (case aB => exact zb); (case aF => exact (fun k_ hk => Kd.fresh' (Kd.R_lt (by (with_reducible repeat refine sR ?_); exact HO_5.out)) k_ hk)); (case aO => exact (by (with_reducible repeat refine sR ?_); exact HO_4.out)); (case aS => exact (qAM zb)); (case aL => have := LMc11.out; omega); intro v381 w13 ho hb hg hat; rw [← Ny380.out] at ho; have HO382 := qA0.mk (ho); replace HO_5 := qA0.mk (Kd.R_after (ok := (fun _ => True)) (by (with_reducible repeat refine sR ?_); exact Kd.qB6 HO_5.out (fun _ hk => ⟨trivial, hk⟩)) hg hat); replace BK379 := qA0.mk (qAN (g := gb379) (o := .cells #[.int .i64 ((qA2 l0 x10_1).f0), .slice A378_1 ((qA2 l0 x10_1).f1).length c378_1, .int .i64 ((qA2 l0 x10_1).f2), .int .i64 ((qA2 l0 x10_1).f3), .string ((qA2 l0 x10_1).f4)] 80 (0, 0)) (zk BK379) hg (Kd.R_ne HO_4.out BK379.out (by decide))); replace HB := qA0.mk (hb); clear HO_4; clear ho hb hg hat))
          go_roundg kj4
          case measure => have := HK1.out; have := HJ4.out; omega
          case rel => exact ⟨(y380), (x5_1), (wrap64 (x10_1 + 1)), zs, H', ⟨by have := HK1.out; have := HJ4.out; omega⟩, zR HO382, ⟨by (with_reducible repeat refine sR ?_); exact Kd.qB6 HO_5.out (fun _ hk => hk.2)⟩, ⟨zb⟩⟩
         ·rw [if_neg c11] at H
          exact absurd H (by simp)
        ·replace c10 := Bool.eq_false_iff.mpr c10
         subst c10
         rw [if_neg (show ¬ (false = true) by decide)] at H
         by_cases c14 : ((qA2 l0 x10_1).f0) = 16
         ·rw [if_pos c14] at H
          have ⟨c14b0, c14b1⟩ := ze c14
          clear c14
          by_cases c15 : x5_1.length < 8796093022208
          ·rw [if_pos c15] at H
           have LMc15 := qA0.mk c15
           clear c15
           obtain ⟨y383, hy_⟩ : ∃ y_ : List ByteArray, y_ = (x5_1 ++ [((qA2 l0 x10_1).f4)]) := ⟨_, rfl⟩
           replace H : (qAT.l0 kj4 x4_1 y383 l0 (l0.length : Int) (wrap64 (x10_1 + 1))) = some (r1, r2) := zr
           have Ny383 := qA0.mk hy_
           clear hy_
           have H' := qA0.mk H
           clear H
           obtain ⟨hcz16_0, hcz16_1, hcz16_2, hcz16_3, hcz16_4, hfz16_0, hfz16_1, hfz16_2, hfz16_3, hfz16_4⟩ := bc5 BK379.out
           go_wp2_with (((with_reducible refine qDM (b := .append) (xs := #[.tmp 27, .tmp 30]) rfl ?_); at_builtin; refine Kd.R_append Kd.string (w0 := w) w.heap.size rfl (.tmp 27) (.tmp 30) 64 9 (.string ⟨#[]⟩) 16 rfl Try.underlying64 info9 rfl (by decide) (by omega) u5 x5_1 ((qA2 l0 x10_1).f4) [.string ((qA2 l0 x10_1).f4)] (fun k_ => some k_ ≠ (u4 : Value).ownBlock) (fun _ => False) rfl rfl ?aP (fun _ hk => hk.elim) ?aF ?aO ?aB ?aS ?aL ?_; (case aP => exact rfl); (case aB => exact zb); (case aF => exact (fun k_ hk => Kd.fresh' (Kd.R_lt (by (with_reducible repeat refine sR ?_); exact HO_4.out)) k_ hk)); (case aO => exact (by (with_reducible repeat refine sR ?_); exact HO_5.out)); (case aS => exact (qAM zb)); (case aL => have := LMc15.out; omega); intro v384 w17 ho hb hg hat; rw [← Ny383.out] at ho; have HO385 := qA0.mk (ho); replace HO_4 := qA0.mk (Kd.R_after (ok := (fun _ => True)) (by (with_reducible repeat refine sR ?_); exact Kd.qB6 HO_4.out (fun _ hk => ⟨trivial, hk⟩)) hg hat); replace BK379 := qA0.mk (qAN (g := gb379) (o := .cells #[.int .i64 ((qA2 l0 x10_1).f0), .slice A378_1 ((qA2 l0 x10_1).f1).length c378_1, .int .i64 ((qA2 l0 x10_1).f2), .int .i64 ((qA2 l0 x10_1).f3), .string ((qA2 l0 x10_1).f4)] 80 (0, 0)) (zk BK379) hg (Kd.R_ne HO_5.out BK379.out (by decide))); replace HB := qA0.mk (hb); clear HO_5; clear ho hb hg hat))
           go_roundg kj4
           case measure => have := HK1.out; have := HJ4.out; omega
           case rel => exact ⟨(x4_1), (y383), (wrap64 (x10_1 + 1)), zs, H', ⟨by have := HK1.out; have := HJ4.out; omega⟩, ⟨by (with_reducible repeat refine sR ?_); exact Kd.qB6 HO_4.out (fun _ hk => hk.2)⟩, zR HO385, ⟨zb⟩⟩
          ·rw [if_neg c15] at H
           exact absurd H (by simp)
         ·rw [if_neg c14] at H
          have ⟨c14b0, c14b1⟩ := zn c14
          have H' := qA0.mk H
          clear H
          go_wp2
          go_roundg kj4
          case measure => have := HK1.out; have := HJ4.out; omega
          case rel => exact ⟨(x4_1), (x5_1), (wrap64 (x10_1 + 1)), zs, H', ⟨by have := HK1.out; have := HJ4.out; omega⟩, zR HO_4, zR HO_5, ⟨zb⟩⟩
     ·rw [if_neg c4] at H
      exact absurd H (by simp)
    ·rw [if_neg c3] at H
     exact absurd H (by simp)
   ·rw [if_neg c2] at H
    have c2b0 := decide_eq_false c2
    clear c2
    replace H := Option.bind_eq_some_iff.mp H
    obtain ⟨t386, A180, H⟩ := H
    have A18 := qA0.mk A180
    clear A180
    replace H := Option.bind_eq_some_iff.mp H
    obtain ⟨t387, A190, H⟩ := H
    have A19 := qA0.mk A190
    clear A190
    replace H := Option.bind_eq_some_iff.mp H
    obtain ⟨t388, A200, H⟩ := H
    have A20 := qA0.mk A200
    clear A200
    replace H := Option.bind_eq_some_iff.mp H
    obtain ⟨t391, A210, H⟩ := H
    have A21 := qA0.mk A210
    clear A210
    simp only [Option.some.injEq, Prod.mk.injEq] at H
    obtain ⟨rfl, rfl⟩ := H
    obtain ⟨Ao22, co22, eo22⟩ := Kd.qBW HO_4.out
    subst eo22
    go_wp2_with (first | ((with_reducible refine qA9 (f := 60) rfl ?_); refine qC2 (some 34) Try.func60 #[.slice Ao22 x4_1.length co22] ?_; (with_reducible refine (qCZ.calls (fun k_ => some k_ = (.slice Ao22 x4_1.length co22 : Value).ownBlock) (.slice Ao22 x4_1.length co22) x4_1 t386 w _ ?side1 ?side2 A18.out).mono ?_); (case side1 => repeat (first | (with_reducible first | exact HB.out | apply qAG | apply qA8 | apply qBO) | exact HB.out)); (case side2 => exact Kd.qEZ rfl HO_4.out); rintro e w23 ⟨rfl, hy0, hb, hkp⟩; refine ⟨_, rfl, ?_⟩; replace HO_4 := qA0.mk (Kd.R_reok rfl hy0 (fun k_ e_ => HO_4.out.1 k_ e_)); replace HO_5 := qA0.mk (Kd.qB6 (ok' := fun k_ => some k_ ≠ (.slice Ao22 x4_1.length co22 : Value).ownBlock) (Kd.R_keptB (HO_5.out) hkp (fun k_ hk_ hs_ => (hk_) hs_)) (fun k_ hk_ => hk_.1)); replace HB := qA0.mk (hb); (try clear hb); (try clear hkp); (try clear hy0); obtain ⟨Ao24, co24, eo24⟩ := Kd.qBW HO_5.out; subst eo24) | ((with_reducible refine qA9 (f := 60) rfl ?_); refine qC2 (some 36) Try.func60 #[.slice Ao24 x5_1.length co24] ?_; (with_reducible refine (qCZ.calls (fun k_ => some k_ = (.slice Ao24 x5_1.length co24 : Value).ownBlock) (.slice Ao24 x5_1.length co24) x5_1 t387 w _ ?side1 ?side2 A19.out).mono ?_); (case side1 => repeat (first | (with_reducible first | exact HB.out | apply qAG | apply qA8 | apply qBO) | exact HB.out)); (case side2 => exact Kd.qEZ rfl HO_5.out); rintro e w25 ⟨rfl, hy0, hb, hkp⟩; refine ⟨_, rfl, ?_⟩; replace HO_4 := qA0.mk (Kd.qB6 (ok' := fun k_ => some k_ ≠ (.slice Ao24 x5_1.length co24 : Value).ownBlock) (Kd.R_keptB (HO_4.out) hkp (fun k_ hk_ hs_ => (hk_) hs_)) (fun k_ hk_ => hk_.1)); replace HO_5 := qA0.mk (Kd.R_reok rfl hy0 (fun k_ e_ => HO_5.out.1 k_ e_)); replace HB := qA0.mk (hb); (try clear hb); (try clear hkp); (try clear hy0)) | ((with_reducible refine qA9 (f := 61) rfl ?_); refine qC2 (some 38) Try.func61 #[.slice Ao22 x4_1.length co22] ?_; (with_reducible refine (qCT.calls (fun k_ => some k_ = (.slice Ao22 x4_1.length co22 : Value).ownBlock) (.slice Ao22 x4_1.length co22) t386 t388 w _ ?side1 ?side2 A20.out).mono ?_); (case side1 => repeat (first | (with_reducible first | exact HB.out | apply qAG | apply qA8 | apply qBO) | exact HB.out)); (case side2 => exact Kd.qEZ rfl HO_4.out); rintro e w26 ⟨v389, rfl, ho0, hb, hkp⟩; refine ⟨_, rfl, ?_⟩; have HO390 := qA0.mk (Kd.qB6 (ok' := fun k_ => some k_ ≠ (.slice Ao24 x5_1.length co24 : Value).ownBlock) ho0 (fun k_ hk_ => Or.elim hk_ (fun hs_ => fun e_ => (((HO_5.out).1 k_ e_.symm)) hs_) (fun hn_ => (Kd.fresh' (Kd.R_lt (by (with_reducible repeat refine sR ?_); exact HO_5.out)) k_ hn_)))); replace HO_5 := qA0.mk (Kd.qB6 (ok' := fun k_ => some k_ ≠ (v389 : Value).ownBlock) (Kd.R_keptB (HO_5.out) hkp (fun k_ hk_ hs_ => (hk_) hs_)) (fun k_ hk_ => fun e_ => Or.elim (ho0.1 k_ e_.symm) (fun hs_ => hk_.2.1 hs_) (fun hn_ => Nat.not_le.2 hk_.2.2 hn_))); replace HB := qA0.mk (hb); clear HO_4; (try clear hb); (try clear hkp); (try clear ho0)) | ((with_reducible refine qA9 (f := 61) rfl ?_); refine qC2 (some 40) Try.func61 #[.slice Ao24 x5_1.length co24] ?_; (with_reducible refine (qCT.calls (fun k_ => some k_ = (.slice Ao24 x5_1.length co24 : Value).ownBlock) (.slice Ao24 x5_1.length co24) t387 t391 w _ ?side1 ?side2 A21.out).mono ?_); (case side1 => repeat (first | (with_reducible first | exact HB.out | apply qAG | apply qA8 | apply qBO) | exact HB.out)); (case side2 => exact Kd.qEZ rfl HO_5.out); rintro e w27 ⟨v392, rfl, ho0, hb, hkp⟩; refine ⟨_, rfl, ?_⟩; have HO393 := qA0.mk (Kd.qB6 (ok' := fun k_ => some k_ ≠ (v389 : Value).ownBlock) ho0 (fun k_ hk_ => Or.elim hk_ (fun hs_ => fun e_ => (((HO390.out).1 k_ e_.symm)) hs_) (fun hn_ => (Kd.fresh' (Kd.R_lt (by (with_reducible repeat refine sR ?_); exact HO390.out)) k_ hn_)))); replace HO390 := qA0.mk (Kd.qB6 (ok' := fun k_ => some k_ ≠ (v392 : Value).ownBlock) (Kd.R_keptB (HO390.out) hkp (fun k_ hk_ hs_ => (hk_) hs_)) (fun k_ hk_ => fun e_ => Or.elim (ho0.1 k_ e_.symm) (fun hs_ => hk_.2.1 hs_) (fun hn_ => Nat.not_le.2 hk_.2.2 hn_))); replace HB := qA0.mk (hb); clear HO_5; (try clear hb); (try clear hkp); (try clear ho0)))
    go_ret2
    exact ⟨_, _, zf, by (with_reducible repeat refine sR ?_); exact HO390.out, by (with_reducible repeat refine sR ?_); exact HO393.out, zb⟩
end
end Go.Proofs.Ytnliaialemfcaaa.PRateFinds
end
section
namespace Go.Proofs.Ytnliaialemfcaaa.PRateFinds
noncomputable section
open Go.RowKit Go.Proofs.YtnliaialemfcaaaW.PrintWords Go.Proofs.YtnliaialemfcaaaW.PrintLast Go.Proofs.YtnliaialemfcaaaW.PrintMore
theorem encs_app (l ys : List ByteArray) : encs Value.string (l ++ ys) = encs Value.string l ++ encs Value.string ys := by simp [encs]
theorem info9x : (Try.prog.info? 9).map (fun i => (i.zero, i.size, i.bytes)) = some (some (.string ⟨#[]⟩), 1, 16) := by kernel_rfl
theorem looks_app (W : World) (base base' : Nat) (v u : Value) (l ys : List ByteArray) (HO : W.ownsRow base 9 1 v l.length (encs Value.string l)) (HU : W.ownsRow base' 9 1 u ys.length (encs Value.string ys)) (hbase : base ≤ W.heap.size) (hl : (l.length + ys.length) * 16 ≤ 140737488355328) :
  ∃ v1 w1, (Builtin.append_ #[64, 64] 64 #[v, u]).run Try.prog W = .ok v1 w1 ∧ w1.ownsRow base 9 1 v1 (l ++ ys).length (encs Value.string (l ++ ys)) ∧ W.grownBy w1 v.ownBlock ∧ (v1.ownBlock = v.ownBlock ∨ v1.ownBlock = some W.heap.size) := by
 obtain ⟨i0, hi, hz0, hz1, hz2⟩ := info_parts info9x
 have hlu := HU.1
 rcases HU.2 with ⟨rfl, hn⟩ | ⟨g, cap, cur, rfl, hg, hb, hnc, hcm, hcs, htake⟩
 ·have h0 : ys = [] := List.length_eq_zero_iff.1 hn
  subst h0
  refine ⟨v, W, ?_, by simpa using HO, World.grownBy.refl W _, .inl rfl⟩
  rcases HO.2 with ⟨rfl, hn⟩ | ⟨g, cap, cur, rfl, _, _, hnc, _⟩
  ·simp [Builtin.append_, run_underlying Try.underlying64, sizeOf, typeInfo, hi, Builtin.lenOf, Builtin.firstCells]
  ·simp [Builtin.append_, run_underlying Try.underlying64, sizeOf, typeInfo, hi, Builtin.lenOf, Builtin.firstCells, hnc, storeCells]
 ·have hcells : ∀ j q, (encs Value.string ys)[j]? = some q → W.cell? ((⟨g, 0, none⟩ : Addr).add j) = some q := fun j q hq => by
   have hj : j < (encs Value.string ys).length := by
    rcases Nat.lt_or_ge j (encs Value.string ys).length with h | h
    ·exact h
    ·rw [List.getElem?_eq_none h] at hq; cases hq
   have h1 : (cur.toList.take (ys.length * 1))[j]? = some q := by rw [htake]; exact hq
   rw [List.getElem?_take_of_lt (by omega)] at h1
   rw [add_plain, cell_of_row W g j cur 9 (0, 0) hb]
   simpa using h1
  obtain ⟨v1, w1, hr, h2, h3, _, h5⟩ := run_append_own_at (P := Try.prog) W base 64 64 9 i0 (.string ⟨#[]⟩) 1 16 Try.underlying64 hi hz0 hz1 hz2 rfl (by decide) v l.length (encs Value.string l) HO ⟨g, 0, none⟩ ys.length cap (encs Value.string ys) (by simp [encs]) hcells
   (fun q hq => by simp only [encs, List.mem_map] at hq; obtain ⟨z, _, rfl⟩ := hq; rfl) (by simp only [maxLen]; omega) hl hbase
  exact ⟨v1, w1, hr, by rw [encs_app, List.length_append]; exact h2, h3, h5⟩
theorem step_app {ops : Array Oper} {o : Oper} {a : Act} {K : Act → World → Prop} {Q : Exit → Act → World → Prop} {E : Prop} {W w1 : World} {v1 : Value} (hgd : o.guard = none) (s x : Operand) (t : TypeId) (ho : o.op = .call { callee := .builtin .append, args := #[s, x], argTypes := #[t, t] }) (hty : o.type = t)
  (v u : Value) (hs : a.eval s = v) (hx : a.eval x = u) (hr : (Builtin.append_ #[t, t] t #[v, u]).run Try.prog W = .ok v1 w1) (h : K (a.put o.dst v1) w1) :
  if Region.wanted o (yielded ops a.tmps) = true then Oper.wp Try.prog o a W K Q else E := by
 have hw : Region.wanted o (yielded ops a.tmps) = true := by simp [Region.wanted, hgd]
 rw [if_pos hw]
 unfold Oper.wp execOp
 simp only [ho, resolve, invoke, builtin, Sem.run_bind, Sem.run_pure, Result.andThen_ok, List.map_toArray, List.map_cons, List.map_nil, hs, hx, hty, hr]
 exact h
def sliR : Value → Option (DataW Unit × List MemPlace)
 | .slice none 0 0 => some (.nil, [])
 | .slice (some ⟨p, 0, none⟩) n c => some (.agg [.lit (.int .i64 p), .lit (.int .i64 n), .lit (.int .i64 c)], [])
 | _ => none
def encV : Value → DataW Unit
 | .slice (some a) n c => .agg [.lit (.int .i64 a.block), .lit (.int .i64 n), .lit (.int .i64 c)]
 | _ => .nil
theorem sliR_of {v : Value} {base n : Nat} {xs : List Value} {W : World} (h : W.ownsRow base 9 1 v n xs) : sliR v = some (encV v, []) := by
 rcases h.2 with ⟨rfl, _⟩ | ⟨g, cap, cur, rfl, _⟩ <;> rfl
theorem sliR_inj {v u : Value} {D : DataW Unit} {ps qs : List MemPlace} (hv : sliR v = some (D, ps)) (hu : sliR u = some (D, qs)) : v = u := by
 unfold sliR at hv hu
 split at hv
 ·split at hu
  ·rfl
  ·simp only [Option.some.injEq, Prod.mk.injEq] at hv hu; rw [← hv.1] at hu; cases hu.1
  ·cases hu
 ·split at hu
  ·simp only [Option.some.injEq, Prod.mk.injEq] at hv hu; rw [← hv.1] at hu; cases hu.1
  ·simp only [Option.some.injEq, Prod.mk.injEq] at hv hu
   have := hv.1.trans hu.1.symm
   simp only [DataW.agg.injEq, List.cons.injEq, DataW.lit.injEq, Lit.int.injEq, true_and, and_true] at this
   obtain ⟨h1, h2, h3⟩ := this
   rw [Int.ofNat.inj h1, Int.ofNat.inj h2, Int.ofNat.inj h3]
  ·cases hu
 ·cases hv
def qED (P : List (ByteArray × List ByteArray)) (s : ByteArray) : List ByteArray := (P.filter fun p => decide (p.1 = s)).flatMap fun p => p.2
theorem lookN_snoc (P : List (ByteArray × List ByteArray)) (k s : ByteArray) (l : List ByteArray) : qED (P ++ [(k, l)]) s = if k = s then qED P s ++ l else qED P s := by
 unfold qED
 rw [List.filter_append, List.flatMap_append]
 by_cases h : k = s <;> simp [h]
structure LM (w0 W : World) (b : Nat) (P : List (ByteArray × List ByteArray)) (g : ByteArray → Value) : Prop where
 below : Below w0.heap.size w0 W
 hb : w0.heap.size ≤ b
 own : ∃ n D, n ≤ P.length ∧ W.ownsMap Try.prog 9 sliR b n D ∧ ∀ (s : ByteArray) (zd : DataW Unit), s.size ≤ maxLen → D.atKey (.string s.data.toList) zd = if s ∈ P.map (·.1) then encV (g s) else zd
 rows : ∀ s, W.ownsRow w0.heap.size 9 1 (g s) (qED P s).length (encs Value.string (qED P s))
 out : ∀ s, s ∉ P.map (·.1) → g s = .slice none 0 0
 inj : ∀ s s' k, s ≠ s' → (g s).ownBlock = some k → (g s').ownBlock ≠ some k
theorem LM.blk {w0 W : World} {b : Nat} {P : List (ByteArray × List ByteArray)} {g : ByteArray → Value} (h : LM w0 W b P g) : ∃ es c, W.heap[b]? = some (.map es c) := by
 obtain ⟨n, D, _, ⟨es, c, hb, _⟩, _⟩ := h.own
 exact ⟨es, c, hb⟩
theorem qD1 {W : World} {base n : Nat} {v : Value} {xs : List Value} (h : W.ownsRow base 9 1 v n xs) {k : Nat} (hk : v.ownBlock = some k) : base ≤ k ∧ ∃ cells, W.heap[k]? = some (.cells cells 9 (0, 0)) := by
 rcases h.2 with ⟨rfl, _⟩ | ⟨g, cap, cur, rfl, hg, hb, _⟩
 ·simp [Value.ownBlock] at hk
 ·have : g = k := by simpa [Value.ownBlock] using hk
  subst this
  exact ⟨hg, cur, hb⟩
theorem LM.keep {w0 W W' : World} {b : Nat} {P : List (ByteArray × List ByteArray)} {g : ByteArray → Value} (h : LM w0 W b P g) (hB : Below W.heap.size W W') : LM w0 W' b P g := by
 obtain ⟨n, D, hn, own, at_⟩ := h.own
 exact ⟨qA1 h.below hB, h.hb, ⟨n, D, hn, own.kept (qB4 hB none) (by simp), at_⟩, fun s => qE2 (h.rows s) (fun k hk => by obtain ⟨_, cells, hc⟩ := qD1 (h.rows s) hk; exact hB.block k (Gen.qBH hc)), h.out, h.inj⟩
theorem LM.made (w0 W : World) (h : Below w0.heap.size w0 W) : LM w0 (W.alloc (.map #[] 0)) W.heap.size [] (fun _ => .slice none 0 0) :=
 ⟨qAG h _, h.size, ⟨0, _, Nat.le_refl _, World.ownsMap_made W _ _ _, fun s zd _ => rfl⟩, fun s => own_nil _ _ _ _, fun _ _ => rfl, fun _ _ _ _ e => by cases e⟩
set_option maxRecDepth 100000 in
theorem LM.look_at {w0 W W' : World} {b : Nat} {P : List (ByteArray × List ByteArray)} {g : ByteArray → Value} (h : LM w0 W b P g) (he : W'.heap[b]? = W.heap[b]?) {s : ByteArray} (hs : s.size ≤ maxLen) : (Instr.lookup 62 (.map (some b)) (.string s) false).run Try.prog W' = .ok (g s) W' := by
 obtain ⟨n, D, _, ⟨es, cl, hb, F, hs', hD⟩, at_⟩ := h.own
 have own : W'.ownsMap Try.prog 9 sliR b n D := ⟨es, cl, he.trans hb, F, hs', hD⟩
 obtain ⟨v, ps, hrun, hR⟩ := own.lookup keyed9 Try.underlying62 (z := .slice none 0 0) (Try.zeroValue64 W') (zd := .nil) (zp := []) rfl (WideMaps.keyOf_string_mk Try.underlying9 hs)
 rw [at_ s .nil hs] at hR
 rw [hrun]
 congr 1
 by_cases e : s ∈ P.map (·.1)
 ·rw [if_pos e] at hR
  exact sliR_inj hR (sliR_of (h.rows s))
 ·rw [if_neg e] at hR
  rw [h.out s e]
  exact sliR_inj hR (show sliR (.slice none 0 0) = some (.nil, []) from rfl)
theorem LM.look {w0 W : World} {b : Nat} {P : List (ByteArray × List ByteArray)} {g : ByteArray → Value} (h : LM w0 W b P g) {s : ByteArray} (hs : s.size ≤ maxLen) : (Instr.lookup 62 (.map (some b)) (.string s) false).run Try.prog W = .ok (g s) W := h.look_at rfl hs
theorem LM.put {w0 W0 W1 W2 : World} {b : Nat} {P : List (ByteArray × List ByteArray)} {g : ByteArray → Value} (h : LM w0 W0 b P g) (hl : P.length < maxLen) {s : ByteArray} (hs : s.size ≤ maxLen) (c t : List ByteArray) {v1 v2 : Value}
  (g1 : W0.grownBy W1 (g s).ownBlock) (b1 : v1.ownBlock = (g s).ownBlock ∨ v1.ownBlock = some W0.heap.size) (g2 : W1.grownBy W2 v1.ownBlock) (b2 : v2.ownBlock = v1.ownBlock ∨ v2.ownBlock = some W1.heap.size) (o2 : W2.ownsRow w0.heap.size 9 1 v2 (qED P s ++ c ++ t).length (encs Value.string (qED P s ++ c ++ t))) :
  ∃ W3, (Instr.mapUpdate 62 (.map (some b)) (.string s) v2).run Try.prog W2 = .ok () W3 ∧ LM w0 W3 b (P ++ [(s, c ++ t)]) (fun x => if x = s then v2 else g x) ∧ W2.grownBy W3 (some b) := by
 obtain ⟨n, D, hn, own, at_⟩ := h.own
 obtain ⟨es, cl, hblk⟩ := h.blk
 have hlt : b < W0.heap.size := Gen.qBH hblk
 have hz1 := g1.size
 have hz2 := g2.size
 have hne0 : some b ≠ (g s).ownBlock := fun e => by
  obtain ⟨_, cells, hc⟩ := qD1 (h.rows s) e.symm
  rw [hblk] at hc; cases hc
 have hne1 : some b ≠ v1.ownBlock := by
  rcases b1 with e | e
  ·rw [e]; exact hne0
  ·rw [e]; intro e; have := Option.some.inj e; omega
 have own2 := (own.kept g1 hne0).kept g2 hne1
 obtain ⟨W3, hrun, ho, hg3⟩ := own2.update keyed9 Try.underlying62 (Nat.lt_of_le_of_lt hn hl) (WideMaps.keyOf_string_mk Try.underlying9 hs) (val := v2) (d := encV v2) (ps := []) (sliR_of o2)
 have hblk2 : W2.heap[b]? = some (.map es cl) := by rw [g2.block b (by omega) hne1, g1.block b hlt hne0]; exact hblk
 have far : ∀ k, k < W0.heap.size → some k ≠ (g s).ownBlock → k ≠ b → W3.heap[k]? = W0.heap[k]? := fun k hk h0 hb => by
  have h1 : some k ≠ v1.ownBlock := by
   rcases b1 with e | e
   ·rw [e]; exact h0
   ·rw [e]; intro e; have := Option.some.inj e; omega
  rw [hg3.block k (by omega) (fun e => hb (Option.some.inj e)), g2.block k (by omega) h1, g1.block k hk h0]
 refine ⟨W3, hrun, ⟨?_, h.hb, ⟨n + 1, _, by simp; omega, ho, fun x zd hx => ?_⟩, fun x => ?_, fun x hx => ?_, fun x y k hxy hk hk' => ?_⟩, hg3⟩
 ·have s1 := qBN h.below (g s).ownBlock h.below.size g1 (fun k e => (qD1 (h.rows s) e).1)
  have s2 := qBN s1 v1.ownBlock s1.size g2 (fun k e => by
   rcases b1 with e' | e'
   ·rw [e'] at e; exact (qD1 (h.rows s) e).1
   ·rw [e'] at e; have := Option.some.inj e; have := h.below.size; omega)
  exact qBN s2 (some b) s2.size hg3 (fun k e => by obtain rfl := Option.some.inj e; exact h.hb)
 ·by_cases e : x = s
  ·subst e
   rw [Maps.atKey_put_same own.isMap (show WideAt.IsKeyLit (.string x.data.toList) from trivial)]
   simp
  ·have hm : x ∈ (P ++ [(s, c ++ t)]).map (·.1) ↔ x ∈ P.map (·.1) := by rw [List.map_append, List.mem_append]; simp [e]
   rw [Maps.atKey_put_other (fun e' => e (str_inj (by injection e'))), at_ x zd hx]
   simp only [hm, if_neg e]
 ·rw [lookN_snoc]
  by_cases e : x = s
  ·subst e
   rw [if_pos rfl, if_pos rfl, ← List.append_assoc]
   exact qE2 o2 (fun k hk => by
    obtain ⟨_, cells, hc⟩ := qD1 o2 hk
    exact hg3.block k (Gen.qBH hc) (fun e => by obtain rfl := Option.some.inj e; rw [hblk2] at hc; cases hc))
  ·rw [if_neg e, if_neg (fun e' => e e'.symm)]
   exact qE2 (h.rows x) (fun k hk => by
    obtain ⟨_, cells, hc⟩ := qD1 (h.rows x) hk
    exact far k (Gen.qBH hc) (fun e' => h.inj x s k e hk e'.symm) (fun e' => by subst e'; rw [hblk] at hc; cases hc))
 ·have e : x ≠ s := fun e => hx (by simp [e])
  rw [if_neg e]
  exact h.out x (fun hm => hx (by simp only [List.map_append, List.mem_append]; exact .inl hm))
 ·have key : ∀ z k, z ≠ s → (g z).ownBlock = some k → v2.ownBlock ≠ some k := fun z k hz hk hv => by
   obtain ⟨_, cells, hc⟩ := qD1 (h.rows z) hk
   have hkl := Gen.qBH hc
   have h0 : (g s).ownBlock ≠ some k := h.inj z s k hz hk
   rcases b2 with e | e
   ·rcases b1 with e1 | e1
    ·rw [e, e1] at hv; exact h0 hv
    ·rw [e, e1] at hv; have := Option.some.inj hv; omega
   ·rw [e] at hv; have := Option.some.inj hv; omega
  by_cases e1 : x = s <;> by_cases e2 : y = s
  ·exact hxy (e1.trans e2.symm)
  ·simp only [if_pos e1, if_neg e2] at hk hk'
   exact key y k e2 hk' hk
  ·simp only [if_neg e1, if_pos e2] at hk hk'
   exact key x k e1 hk hk'
  ·simp only [if_neg e1, if_neg e2] at hk hk'
   exact h.inj x y k hxy hk hk'
def qDV : List S54 → List (ByteArray × List ByteArray) → Option (List (ByteArray × List ByteArray))
 | [], P => some P
 | x :: r, P => if P.length < 1000000 then (if x.f1.size ≤ maxLen then (Gen.lim fun k => qAT.f k x.f2).bind fun c => (Gen.lim fun k => qAT.f k x.f3).bind fun t => if ((qED P x.f1).length + c.1.length + t.1.length) * 16 ≤ 140737488355328 then qDV r (P ++ [(x.f1, c.1 ++ t.1)]) else none else none) else none
def qCH.go : List S48 → List (ByteArray × List ByteArray) → Option (List (ByteArray × List ByteArray))
 | [], P => some P
 | a :: r, P => (qDV a.f5 P).bind (qCH.go r)
def qCH.f (l0 : List S48) : Option (List (ByteArray × List ByteArray)) := qCH.go l0 []
set_option maxRecDepth 100000 in
set_option maxHeartbeats 4000000 in
theorem qCH.walk (A0 : Option Addr) (c0 : Nat) (l0 : List (S48)) (r : List (ByteArray × List ByteArray)) (w : World) (hr0 : Kd.C k48 w A0 l0.length l0) (hc0 : l0.length ≤ c0) (h : qCH.f l0 = some r) :
  Calls Try.prog 18 #[.slice A0 l0.length c0] w fun e w' => ∃ g, e = .returned (.map (some w.heap.size)) ∧ LM w w' w.heap.size r g := by
 have HR := qA0.mk hr0
 have HC := qA0.mk hc0
 have H0 := qA0.mk h
 have hm : l0.length ≤ 9223372036854775807 := Kd.qEI hr0
 clear hr0 hc0 h
 have HP := qA0.mk (LM.made w w (Below.refl _ _))
 have hmm := @run_makeMap Try.prog
 go_enter Try.func18, Try.ntmps18
 go_wp2_with fail
 generalize w.alloc (.map #[] 0) = W0 at HP ⊢
 go_loopw [15] (fun v15 wr => ∃ (i : Nat) (P : List (ByteArray × List ByteArray)) (g : ByteArray → Value), i ≤ l0.length ∧ v15 = .int .i64 (i : Int) ∧ qA0 (qCH.go (l0.drop i) P = some r) ∧ qA0 (LM w wr w.heap.size P g)) (fun v15 _ => l0.length - (RowKit.intOf v15).toNat)
 case atStart => exact ⟨0, [], _, by omega, rfl, ⟨by simpa [qCH.f] using H0.out⟩, HP⟩
 case round =>
  clear H0 HP
  obtain ⟨i, P, g, hi, rfl, HG, HP⟩ := hrel
  by_cases hlt : i < l0.length
  ·obtain ⟨ad, A3, c3, A4, c4, A5, c5, e0, hx0, hx1, hx2, hx3, hx4, hx5, hl3, hi3, hl4, hi4, hl5, hi5⟩ := qEM HR.out (i : Int) (by omega) (by omega)
   cases e0
   simp only [Int.toNat_natCast] at hx0 hx1 hx2 hx3 hx4 hx5
   have hB := HP.out.below
   replace hx0 := (hB.cell (World.block_lt_of_cell? w _ hx0)).trans hx0
   replace hx1 := (hB.cell (World.block_lt_of_cell? w _ hx1)).trans hx1
   replace hx2 := (hB.cell (World.block_lt_of_cell? w _ hx2)).trans hx2
   replace hx3 := (hB.cell (World.block_lt_of_cell? w _ hx3)).trans hx3
   replace hx4 := (hB.cell (World.block_lt_of_cell? w _ hx4)).trans hx4
   replace hx5 := (hB.cell (World.block_lt_of_cell? w _ hx5)).trans hx5
   have hd : l0.drop i = qA3 l0 (i : Int) :: l0.drop (i + 1) := by rw [List.drop_eq_getElem_cons hlt]; simp [qA3, hlt]
   have hG := HG.out
   rw [hd] at hG
   generalize qA3 l0 (i : Int) = a at *
   simp only [qCH.go] at hG
   have HG1 := qA0.mk hG
   have HI5 := qA0.mk (And.intro hl5 hi5)
   have hm5 := Kd.qEI hi5
   have HS := qA0.mk (Gen.qDZ hlt hm)
   clear hG HG hd hl3 hi3 hl4 hi4 hl5 hi5 hB
   obtain ⟨wo, rfl⟩ : ∃ wo : World, wo = wr := ⟨_, rfl⟩
   generalize hW1 : wo.alloc (.cells #[.string a.f0, .int .i64 a.f1, .int .i64 a.f2, .slice A3 a.f3.length c3, .slice A4 a.f4.length c4, .slice A5 a.f5.length c5] 48) = W1
   have hB1 : Below wo.heap.size wo W1 := by rw [← hW1]; exact qAG (Below.refl _ _) _
   have HW1 := qA0.mk hW1
   have HP1 := qA0.mk (HP.out.keep hB1)
   have hk5 : W1.cell? ⟨wo.heap.size, 5, none⟩ = some (.slice A5 a.f5.length c5) := by rw [← hW1]; simp
   clear hW1 hB1 HP
   go_wp2_with fail
   rw [HW1.out]
   clear HW1 hx0 hx1 hx2 hx3 hx4 hx5 hk5
   go_loopw [22] (fun v22 wx => ∃ (j : Nat) (P' : List (ByteArray × List ByteArray)) (g' : ByteArray → Value), j ≤ a.f5.length ∧ v22 = .int .i64 (j : Int) ∧ qA0 ((qDV (a.f5.drop j) P').bind (qCH.go (l0.drop (i + 1))) = some r) ∧ qA0 (LM w wx w.heap.size P' g')) (fun v22 _ => a.f5.length - (RowKit.intOf v22).toNat)
   case atStart => exact ⟨0, P, g, by omega, rfl, ⟨by simpa using HG1.out⟩, HP1⟩
   case round =>
    clear HG1 HP1
    obtain ⟨j, P', g', hj, rfl, HG2, HP2⟩ := hrel
    by_cases hjl : j < a.f5.length
    ·obtain ⟨ad5, B2, d2, B3, d3, B4, d4, e5, y0, y1, y2, y3, y4, y5, hl2, hi2, hl3, hi3, hl4, hi4⟩ := at_T54 HI5.out.2 (j : Int) (by omega) (by omega)
     cases e5
     simp only [Int.toNat_natCast] at y0 y1 y2 y3 y4 y5
     have hB := HP2.out.below
     replace y0 := (hB.cell (World.block_lt_of_cell? w _ y0)).trans y0
     replace y1 := (hB.cell (World.block_lt_of_cell? w _ y1)).trans y1
     replace y2 := (hB.cell (World.block_lt_of_cell? w _ y2)).trans y2
     replace y3 := (hB.cell (World.block_lt_of_cell? w _ y3)).trans y3
     replace y4 := (hB.cell (World.block_lt_of_cell? w _ y4)).trans y4
     replace y5 := (hB.cell (World.block_lt_of_cell? w _ y5)).trans y5
     have hd : a.f5.drop j = qAY a.f5 (j : Int) :: a.f5.drop (j + 1) := by rw [List.drop_eq_getElem_cons hjl]; simp [qAY, hjl]
     have hG := HG2.out
     rw [hd] at hG
     generalize qAY a.f5 (j : Int) = x at hG y0 y1 y2 y3 y4 y5 hl2 hi2 hl3 hi3 hl4 hi4
     simp only [qDV] at hG
     by_cases g1 : P'.length < 1000000
     case neg => rw [if_neg g1] at hG; cases hG
     rw [if_pos g1] at hG
     by_cases g2 : x.f1.size ≤ maxLen
     case neg => rw [if_neg g2] at hG; cases hG
     rw [if_pos g2] at hG
     obtain ⟨q, hq, hK⟩ := Option.bind_eq_some_iff.mp hG
     obtain ⟨⟨c1, c2⟩, hc, hq⟩ := Option.bind_eq_some_iff.mp hq
     obtain ⟨⟨t1, t2⟩, ht, hq⟩ := Option.bind_eq_some_iff.mp hq
     by_cases g3 : ((qED P' x.f1).length + c1.length + t1.length) * 16 ≤ 140737488355328
     case neg => rw [if_neg (by simpa using g3)] at hq; cases hq
     rw [if_pos (by simpa using g3)] at hq
     have HGn := qA0.mk (show (qDV (a.f5.drop (j + 1)) (P' ++ [(x.f1, c1 ++ t1)])).bind (qCH.go (l0.drop (i + 1))) = some r from Option.bind_eq_some_iff.mpr ⟨q, hq, hK⟩)
     obtain ⟨n1, hn1⟩ := Gen.lim_some hc
     obtain ⟨n2, hn2⟩ := Gen.lim_some ht
     have HCc := qA0.mk hn1
     have HCt := qA0.mk hn2
     have HI2 := qA0.mk (And.intro hl2 hi2)
     have HI3 := qA0.mk (And.intro hl3 hi3)
     have HS2 := qA0.mk (Gen.qDZ hjl hm5)
     clear hq hc ht hn1 hn2 hK hG HG2 hd hB hl2 hi2 hl3 hi3 hl4 hi4
     obtain ⟨wi, rfl⟩ : ∃ wi : World, wi = wr := ⟨_, rfl⟩
     generalize hW5 : wi.alloc (.cells #[.string x.f0, .string x.f1, .slice B2 x.f2.length d2, .slice B3 x.f3.length d3, .slice B4 x.f4.length d4, .int .i64 x.f5] 54) = W5
     have hB5 : Below wi.heap.size wi W5 := by rw [← hW5]; exact qAG (Below.refl _ _) _
     have k1 : W5.cell? ⟨wi.heap.size, 1, none⟩ = some (.string x.f1) := by rw [← hW5]; simp
     have k2 : W5.cell? ⟨wi.heap.size, 2, none⟩ = some (.slice B2 x.f2.length d2) := by rw [← hW5]; simp
     have k3 : W5.cell? ⟨wi.heap.size, 3, none⟩ = some (.slice B3 x.f3.length d3) := by rw [← hW5]; simp
     have HW5 := qA0.mk hW5
     have HP5 := qA0.mk (HP2.out.keep hB5)
     have hwi : w.heap.size < wi.heap.size := by obtain ⟨_, _, hb⟩ := HP2.out.blk; exact Gen.qBH hb
     have h56 : wi.heap.size < W5.heap.size := by rw [← hW5]; simp
     have HKG := qA0.mk (fun k (hk : (g' x.f1).ownBlock = some k) => by obtain ⟨_, cells, hc⟩ := qD1 (HP2.out.rows x.f1) hk; exact (Gen.qBH hc : k < wi.heap.size))
     clear hW5 hB5 HP2
     go_wp2_with fail
     rw [HW5.out]
     clear y0 y1 y2 y3 y4 y5 HW5
     refine (qAT.calls n1 B2 d2 x.f2 c1 c2 W5 (Kd.qAQ HI2.out.2 HP5.out.below) HI2.out.1 HCc.out).mono ?_
     rintro e W6 ⟨v0, v1, rfl, hr0, _, hb6⟩
     have HO0 := qA0.mk (Kd.own_of_R hr0)
     have HP6 := qA0.mk (HP5.out.keep hb6)
     replace k1 := qAH hb6 k1
     replace k3 := qAH hb6 k3
     have hz6 : W5.heap.size ≤ W6.heap.size := hb6.size
     clear hr0 hb6 HP5 k2
     go_wp2_with fail
     refine (qAT.calls n2 B3 d3 x.f3 t1 t2 W6 (Kd.qAQ HI3.out.2 HP6.out.below) HI3.out.1 HCt.out).mono ?_
     rintro e W7 ⟨u0, u1, rfl, hr1, _, hb7⟩
     have HO1 := qA0.mk (Kd.own_of_R hr1)
     have HO0' := qA0.mk (qE2 HO0.out (fun k hk => by obtain ⟨_, cells, hc⟩ := qD1 HO0.out hk; exact hb7.block k (Gen.qBH hc)))
     have HP7 := qA0.mk (HP6.out.keep hb7)
     replace k1 := qAH hb7 k1
     have hz7 : W6.heap.size ≤ W7.heap.size := hb7.size
     clear hr1 hb7 HP6 k3 HO0
     have HP8 := HP7.out.keep (W' := W7.drew) (qA8 (Below.refl _ _) 1)
     have hsz : x.f1.size ≤ maxLen := g2
     have hlk := HP8.look hsz
     have O0 : W7.drew.ownsRow W5.heap.size 9 1 v0 c1.length (encs Value.string c1) := HO0'.out
     have O1 : W7.drew.ownsRow W6.heap.size 9 1 u0 t1.length (encs Value.string t1) := HO1.out
     obtain ⟨v1, W8, hr1, o1, gr1, bl1⟩ := looks_app W7.drew w.heap.size W5.heap.size (g' x.f1) v0 (qED P' x.f1) c1 (HP8.rows x.f1) O0 HP8.below.size (by omega)
     obtain ⟨es, cl, hblk⟩ := HP8.blk
     have hzd : W7.drew.heap.size = W7.heap.size := rfl
     have nb0 : ∀ k, (g' x.f1).ownBlock = some k → k ≠ w.heap.size := fun k hk e => by obtain ⟨_, cells, hc⟩ := qD1 (HP8.rows x.f1) hk; rw [e] at hc; rw [hblk] at hc; cases hc
     have nb1 : ∀ k, v1.ownBlock = some k → k ≠ w.heap.size ∧ k ≠ wi.heap.size := fun k hk => by
      rcases bl1 with e | e
      ·rw [e] at hk; exact ⟨nb0 k hk, by have := HKG.out k hk; omega⟩
      ·rw [e] at hk; have := Option.some.inj hk; omega
     have kd1 : W7.drew.cell? ⟨wi.heap.size, 1, none⟩ = some (.string x.f1) := k1
     have k8 : W8.cell? ⟨wi.heap.size, 1, none⟩ = some (.string x.f1) := (gr1.cell_far ⟨wi.heap.size, 1, none⟩ (by simp only; omega) (fun e => by have := HKG.out _ e.symm; simp only at this; omega)).trans kd1
     have hb8 : W8.heap[w.heap.size]? = W7.drew.heap[w.heap.size]? := gr1.block _ (by omega) (fun e => nb0 _ e.symm rfl)
     have hlk8 := HP8.look_at hb8 hsz
     have O1' : W8.ownsRow W6.heap.size 9 1 u0 t1.length (encs Value.string t1) := qE2 O1 (fun k hk => by
      obtain ⟨hk6, cells, hc⟩ := qD1 O1 hk
      exact gr1.block k (Gen.qBH hc) (fun e => by have := HKG.out k e.symm; omega))
     have hz8 := gr1.size
     obtain ⟨v2, W9, hr2, o2, gr2, bl2⟩ := looks_app W8 w.heap.size W6.heap.size v1 u0 (qED P' x.f1 ++ c1) t1 o1 O1' (by omega) (by rw [List.length_append]; omega)
     have k9 : W9.cell? ⟨wi.heap.size, 1, none⟩ = some (.string x.f1) := (gr2.cell_far ⟨wi.heap.size, 1, none⟩ (by simp only; omega) (fun e => by have := nb1 _ e.symm; simp only at this; omega)).trans k8
     have hb9 : W9.heap[w.heap.size]? = W7.drew.heap[w.heap.size]? := (gr2.block _ (by omega) (fun e => (nb1 _ e.symm).1 rfl)).trans hb8
     have hlk9 := HP8.look_at hb9 hsz
     obtain ⟨W10, hup, hP10, gr3⟩ := HP8.put (by simp only [maxLen]; omega) hsz c1 t1 gr1 bl1 gr2 bl2 o2
     have k10 : W10.cell? ⟨wi.heap.size, 1, none⟩ = some (.string x.f1) := (gr3.cell_far ⟨wi.heap.size, 1, none⟩ (by have := gr2.size; simp only; omega) (by simp; omega)).trans k9
     have HP10 := qA0.mk hP10
     have HR1 := qA0.mk hr1
     have HR2 := qA0.mk hr2
     clear hP10 hr1 hr2 o1 o2 gr1 gr2 bl1 bl2 O0 O1 O1' HP8 hblk nb0 nb1 hb8 hb9 hzd hz8 k1
     go_wp2_with fail
     go_region_held3 (fun w' => w'.cell? ⟨wi.heap.size, 1, none⟩ = some (.string x.f1))
      (first | exact kd1 | exact k8 | exact k9 | exact k10 | go_keep | assumption)
      (first | (refine step_app rfl _ _ 64 rfl rfl (g' x.f1) v0 rfl rfl HR1.out ?_) | (refine step_app rfl _ _ 64 rfl rfl v1 u0 rfl rfl HR2.out ?_))
     have hs := HS2.out
     clear hlk hlk8 hlk9 hup k8 k9 k10 kd1
     go_wp2_with fail
     go_roundw
     case rel => exact ⟨j + 1, P' ++ [(x.f1, c1 ++ t1)], _, by omega, by first | rfl | (simp; done) | rw [Int.natCast_add]; rfl, HGn, HP10⟩
     case measure => simp [RowKit.intOf]; omega
    ·obtain rfl : j = a.f5.length := by omega
     have HG3 := qA0.mk (by have := HG2.out; rw [List.drop_length] at this; simpa [qDV] using this)
     have hs := HS.out
     clear HG2 hj
     go_wp2_with fail
     go_roundw
     case rel => exact ⟨i + 1, P', g', by omega, by first | rfl | (simp; done) | rw [Int.natCast_add]; rfl, HG3, HP2⟩
     case measure => simp [RowKit.intOf]; omega
  ·obtain rfl : i = l0.length := by omega
   have hr : r = P := by have := HG.out; rw [List.drop_length] at this; simp only [qCH.go] at this; exact (Option.some.inj this).symm
   subst hr
   go_wp2_with fail
   go_ret
   exact ⟨g, rfl, HP.out⟩
structure qCX.St (W : World) (b n : Nat) (s : ByteArray → Int) : Prop where
 own : ∃ D, W.ownsMap (H := Unit) Try.prog 9 (plainElem Try.prog 3) b n D ∧ ∀ x : ByteArray, x.size ≤ maxLen → D.atKey (.string x.data.toList) (.lit (.int .i64 0)) = .lit (.int .i64 (s x))
set_option maxRecDepth 100000 in
theorem qCX.St.look {W : World} {b n : Nat} {s : ByteArray → Int} (h : qCX.St W b n s) {x : ByteArray} (hx : x.size ≤ maxLen) : (Instr.lookup 99 (.map (some b)) (.string x) false).run Try.prog W = .ok (.int .i64 (s x)) W := by
 obtain ⟨D, own, at_⟩ := h.own
 obtain ⟨c, hrun, hat, _⟩ := own.lookup_int keyed9 Try.underlying99 Try.underlying3 (Try.zeroValue3 W) (WideMaps.keyOf_string_mk Try.underlying9 hx)
 rw [at_ x hx] at hat
 have hat2 := (Lit.int.inj (DataW.lit.inj hat)).2
 rw [hrun, ← hat2]
set_option maxRecDepth 100000 in
theorem qCX.St.put {W : World} {b n : Nat} {s : ByteArray → Int} (h : qCX.St W b n s) (hn : n < maxLen) {x : ByteArray} (hx : x.size ≤ maxLen) {v : Int} (hv : (Lit.int .i64 v).wf = true) :
  ∃ W2, (Instr.mapUpdate 99 (.map (some b)) (.string x) (.int .i64 v)).run Try.prog W = .ok () W2 ∧ qCX.St W2 b (n + 1) (Dfs.upd s x v) ∧ W.grownBy W2 (some b) := by
 obtain ⟨D, own, at_⟩ := h.own
 obtain ⟨W2, hrun, ho, hg⟩ := own.update keyed9 Try.underlying99 hn (WideMaps.keyOf_string_mk Try.underlying9 hx) (val := .int .i64 v) (d := .lit (.int .i64 v)) (ps := []) (plainElem_int Try.underlying3 hv)
 refine ⟨W2, hrun, ⟨_, ho, fun y hy => ?_⟩, hg⟩
 by_cases e : y = x
 ·subst e
  rw [Maps.atKey_put_same own.isMap (keyed9.key (WideMaps.keyOf_string_mk Try.underlying9 hy))]
  simp [Dfs.upd]
 ·rw [Maps.atKey_put_other (fun e' => e (str_inj (by injection e'))), at_ y hy]
  simp [Dfs.upd, e]
theorem qCX.St.kept {W W' : World} {b n : Nat} {s : ByteArray → Int} {row : Option Nat} (h : qCX.St W b n s) (hg : W.grownBy W' row) (hne : some b ≠ row) : qCX.St W' b n s := by
 obtain ⟨D, own, at_⟩ := h.own
 exact ⟨D, own.kept hg hne, at_⟩
theorem qCX.St.blk {W : World} {b n : Nat} {s : ByteArray → Int} (h : qCX.St W b n s) : ∃ es c, W.heap[b]? = some (.map es c) := by
 obtain ⟨D, ⟨es, c, hb, _⟩, _⟩ := h.own
 exact ⟨es, c, hb⟩
structure qCX.Env (W : World) (bS bN bW bM : Nat) (gp : Addr) : Prop where
 s : W.heap[bS]? = some (.cells #[.map (some bM)] 99 (0, 0))
 x : W.heap[bN]? = some (.cells #[.func (.func 20) #[] #[.pointer (some gp)]] 66 (0, 0))
 k : W.heap[bW]? = some (.cells #[.func (.func 35) #[] #[.pointer (some ⟨bS, 0, none⟩), .pointer (some ⟨bN, 0, none⟩), .pointer (some ⟨bW, 0, none⟩)]] 86 (0, 0))
theorem qCX.Env.kept {W W' : World} {bS bN bW bM n : Nat} {gp : Addr} {s : ByteArray → Int} (h : qCX.Env W bS bN bW bM gp) (hs : qCX.St W bM n s) (hg : W.grownBy W' (some bM)) : qCX.Env W' bS bN bW bM gp := by
 obtain ⟨es, c, hb⟩ := hs.blk
 exact ⟨qAN h.s hg (fun e => by have := Option.some.inj e; subst this; have := hb.symm.trans h.s; cases this), qAN h.x hg (fun e => by have := Option.some.inj e; subst this; have := hb.symm.trans h.x; cases this), qAN h.k hg (fun e => by have := Option.some.inj e; subst this; have := hb.symm.trans h.k; cases this)⟩
structure qCX.Ctx (w : World) (next : ByteArray → List ByteArray) (U : List ByteArray) (gp : Addr) : Prop where
 cl : ∀ x, ∀ y ∈ next x, y ∈ U
 ok : ∀ x ∈ U, x.size ≤ maxLen
 nx : ∀ W, Below w.heap.size w W → ∀ x ∈ U, Calls Try.prog 20 #[.string x, .pointer (some gp)] W fun e W' => ∃ A c, e = .returned (.slice A (next x).length c) ∧ (next x).length ≤ c ∧ Kd.C Kd.string W' A (next x).length (next x) ∧ Below W.heap.size W W'
theorem qCX.cell_kept {W W' : World} {b n : Nat} {s : ByteArray → Int} (h : qCX.St W b n s) (hg : W.grownBy W' (some b)) {a : Addr} {v : Value} (hc : W.cell? a = some v) : W'.cell? a = some v := by
 obtain ⟨es, c, hb⟩ := h.blk
 have hlt := World.block_lt_of_cell? W a hc
 have hne : a.block ≠ b := fun e => by simp [World.cell?, e, hb] at hc
 have := hg.block a.block hlt (fun e => hne (Option.some.inj e))
 simpa [World.cell?, this] using hc
abbrev qCX.Res (U : List ByteArray) (next : ByteArray → List ByteArray) (bM M : Nat) (s : ByteArray → Int) (x : ByteArray) (W : World) (e : Ending) (W' : World) : Prop := ∃ b, e = .returned (.bool b) ∧ W.grownBy W' (some bM) ∧ (b = true → Dfs.Cyc next x) ∧
   (b = false → ∃ (t : ByteArray → Int) (n' : Nat), qCX.St W' bM n' t ∧ n' + 2 * Dfs.zeros U t ≤ M ∧ Dfs.Inv next t ∧ Dfs.Post s t ∧ t x = 2)
set_option maxRecDepth 100000 in
theorem qCX.walkA (next : ByteArray → List ByteArray) (U : List ByteArray) (gp : Addr) (bS bN bW bM : Nat) (s : ByteArray → Int) (n M : Nat) (x : ByteArray) (W : World) (hM : n + 2 * Dfs.zeros U s ≤ M) (HE : qCX.Env W bS bN bW bM gp) (HS : qCX.St W bM n s) (hI : Dfs.Inv next s) (hP : Dfs.Path next s x) (hx : x.size ≤ maxLen) (h0 : s x ≠ 0) :
  Calls Try.prog 35 #[.string x, .pointer (some ⟨bS, 0, none⟩), .pointer (some ⟨bN, 0, none⟩), .pointer (some ⟨bW, 0, none⟩)] W fun e W' => qCX.Res U next bM M s x W e W' := by
 have hgb : W.grownBy W (some bM) := World.grownBy.refl W _
 have HS1 := HS.kept (row := none) (World.grownBy.refl W _) (by simp)
 have hS : (W).cell? ⟨bS, 0, none⟩ = some (.map (some bM)) := (qA4 (HE.kept HS hgb).s 0).trans rfl
 have hl := HS1.look hx
 have HS' := qA0.mk HS1
 have HG := qA0.mk hgb
 have HI := qA0.mk hI
 clear HS1 hgb hI HE
 have hv := HI.out.val x
 by_cases h1 : s x = 1
 ·obtain ⟨z, hz, r⟩ := hP x h1
  have HCy := qA0.mk (show Dfs.Cyc next x from ⟨x, z, Dfs.Reach.refl x, hz, r⟩)
  rw [h1] at hl
  clear hP h1 h0 hv hz r
  go_enter Try.func35, Try.ntmps35
  go_wp2_with fail
  go_ret
  exact ⟨true, by simp, HG.out, fun _ => HCy.out, (fun h => by cases h)⟩
 ·have h2 : s x = 2 := by omega
  have H2 := qA0.mk h2
  rw [h2] at hl
  clear hP h1 h0 hv h2
  go_enter Try.func35, Try.ntmps35
  go_wp2_with fail
  go_ret
  exact ⟨false, by simp, HG.out, (fun h => by cases h), fun _ => ⟨s, n, HS'.out, hM, HI.out, Dfs.Post.refl s, H2.out⟩⟩
set_option maxRecDepth 100000 in
set_option maxHeartbeats 4000000 in
theorem qCX.walk (w : World) (next : ByteArray → List ByteArray) (U : List ByteArray) (gp : Addr) (X : qCX.Ctx w next U gp) (bS bN bW bM : Nat) (hM0 : w.heap.size ≤ bM) : ∀ (m : Nat) (s : ByteArray → Int) (n M : Nat) (x : ByteArray) (W : World), Dfs.zeros U s ≤ m → M < maxLen → n + 2 * Dfs.zeros U s ≤ M → qCX.Env W bS bN bW bM gp → qCX.St W bM n s → Below w.heap.size w W → Dfs.Inv next s → Dfs.Path next s x → x ∈ U →
  Calls Try.prog 35 #[.string x, .pointer (some ⟨bS, 0, none⟩), .pointer (some ⟨bN, 0, none⟩), .pointer (some ⟨bW, 0, none⟩)] W fun e W' => qCX.Res U next bM M s x W e W' := by
 intro m
 induction m with
 | zero =>
  intro s n M x W hm hM hn HE HS hB hI hP hx
  refine qCX.walkA next U gp bS bN bW bM s n M x W hn HE HS hI hP (X.ok x hx) (fun h0 => ?_)
  have := Dfs.zeros_lt U hx h0 (v := 1) (by decide)
  omega
 | succ m ih =>
  intro s n M x W hm hM hn HE HS hB hI hP hx
  by_cases h0 : s x = 0
  case neg => exact qCX.walkA next U gp bS bN bW bM s n M x W hn HE HS hI hP (X.ok x hx) h0
  have hz1 := Dfs.zeros_lt U hx h0 (v := 1) (by decide)
  have hxo := X.ok x hx
  have hgb : W.grownBy W (some bM) := World.grownBy.refl W _
  have HE1 := HE.kept HS hgb
  have HS1 := HS.kept (row := none) (World.grownBy.refl W _) (by simp)
  have hS : (W).cell? ⟨bS, 0, none⟩ = some (.map (some bM)) := (qA4 HE1.s 0).trans rfl
  have hl := HS1.look hxo
  rw [h0] at hl
  obtain ⟨W2, hup, HS2, hg2⟩ := HS1.put (by omega : n < maxLen) hxo (v := 1) (by decide)
  have HE2 := HE1.kept HS1 hg2
  have hg02 := hgb.trans hg2
  have hB2 : Below w.heap.size w W2 := qBN hB (some bM) hB.size hg02 (fun k e => by obtain rfl := Option.some.inj e; exact hM0)
  have hN2 : W2.cell? ⟨bN, 0, none⟩ = some (.func (.func 20) #[] #[.pointer (some gp)]) := (qA4 HE2.x 0).trans rfl
  have HXN := qA0.mk (X.nx W2 hB2 x hx)
  have HI1 := qA0.mk (Dfs.begun hI h0)
  have HP := qA0.mk hP
  have H0 := qA0.mk h0
  have HS2' := qA0.mk HS2
  have HE2' := qA0.mk HE2
  have HG02 := qA0.mk hg02
  have HB2 := qA0.mk hB2
  have HX := qA0.mk X
  have HIH := qA0.mk ih
  clear ih X HS HE HE1 HS1 HS2 HE2 hg2 hgb hg02 hB2 hI hP h0 hB
  go_enter Try.func35, Try.ntmps35
  go_wp2_with fail
  refine HXN.out.mono ?_
  rintro e W3 ⟨A, c, rfl, hlc, hC, hb3⟩
  have hg3 := qB4 hb3 (some bM)
  have HS3 := qA0.mk (HS2'.out.kept (qB4 hb3 none) (by simp))
  have HE3 := qA0.mk (HE2'.out.kept HS2'.out hg3)
  have HG03 := qA0.mk (HG02.out.trans hg3)
  have HB3 := qA0.mk (qA1 HB2.out hb3)
  have hlen := Kd.qEI hC
  have HC := qA0.mk hC
  clear HXN hS hl hup hN2 hb3 hg3 hC HS2' HE2' HG02 HB2
  generalize hys : next x = ys at *
  have HYS := qA0.mk hys
  clear hys
  go_wp2_with fail
  go_loopw [22] (fun v22 wr => ∃ (i : Nat) (t : ByteArray → Int) (n' : Nat), i ≤ ys.length ∧ v22 = .int .i64 (i : Int) ∧ qA0 (W3.grownBy wr (some bM)) ∧ qA0 (qCX.St wr bM n' t) ∧ qA0 (n' + 2 * Dfs.zeros U t ≤ M - 1 ∧ Dfs.Inv next t ∧ Dfs.Post (Dfs.upd s x 1) t) ∧ qA0 (∀ y, y ∈ ys.take i → t y = 2)) (fun v22 _ => ys.length - (RowKit.intOf v22).toNat)
  case atStart => exact ⟨0, Dfs.upd s x 1, n + 1, by omega, rfl, ⟨World.grownBy.refl _ _⟩, HS3, ⟨by omega, HI1.out, Dfs.Post.refl _⟩, ⟨fun y hy => by simp at hy⟩⟩
  case round =>
   obtain ⟨i, t, n', hi, rfl, HGr, HSt, HD, HA⟩ := hrel
   have HEr := qA0.mk (HE3.out.kept HS3.out HGr.out)
   have hsr : wr.cell? ⟨bS, 0, none⟩ = some (.map (some bM)) := (qA4 HEr.out.s 0).trans rfl
   have hkr : wr.cell? ⟨bW, 0, none⟩ = some (.func (.func 35) #[] #[.pointer (some ⟨bS, 0, none⟩), .pointer (some ⟨bN, 0, none⟩), .pointer (some ⟨bW, 0, none⟩)]) := (qA4 HEr.out.k 0).trans rfl
   by_cases hlt : i < ys.length
   ·obtain ⟨ad, cs_, rfl, hcl_, hk_, hcell_⟩ := Kd.C_get HC.out (⟨#[]⟩ : ByteArray) (i : Int) (by omega) (by omega)
    have h1_ : cs_ = [.string (ys.getD i ⟨#[]⟩)] := hk_
    have hx0 := hcell_ 0 (.string (ys.getD i ⟨#[]⟩)) (by rw [h1_]; rfl)
    rw [show (i : Int).toNat * (Kd.string).sz + 0 = i from by simp [show (Kd.string).sz = 1 from rfl]] at hx0
    clear hcell_ hk_ h1_ hcl_
    replace hx0 := qCX.cell_kept HS3.out HGr.out hx0
    have hymem : ys.getD i ⟨#[]⟩ ∈ ys := by rw [List.getD_eq_getElem?_getD, List.getElem?_eq_getElem hlt]; exact List.getElem_mem _
    have HY := qA0.mk (show ys[i]? = some (ys.getD i ⟨#[]⟩) from by rw [List.getD_eq_getElem?_getD, List.getElem?_eq_getElem hlt]; rfl)
    generalize ys.getD i ⟨#[]⟩ = y at *
    have hy : y ∈ next x := by rw [HYS.out]; exact hymem
    have hyU := HX.out.cl x y hy
    have hs := Gen.qDZ hlt hlen
    obtain ⟨d1, d2, d3⟩ := HD.out
    have hBr : Below w.heap.size w wr := qBN HB3.out (some bM) HB3.out.size HGr.out (fun k e => by obtain rfl := Option.some.inj e; exact hM0)
    have hzt : Dfs.zeros U t ≤ Dfs.zeros U (Dfs.upd s x 1) := Dfs.zeros_le U fun u hu => by rw [d3.keep u hu]; exact hu
    have HCall := qA0.mk (HIH.out t n' (M - 1) y wr (by omega) (by omega) d1 (HEr.out.kept HSt.out (World.grownBy.refl wr _)) (HSt.out.kept (row := none) (World.grownBy.refl wr _) (by simp)) hBr d2 (Dfs.path_next HP.out d3 hy) hyU)
    have HHy := qA0.mk hy
    clear hy hyU d1 d2 d3 hBr hzt hymem
    go_wp2_with fail
    refine HCall.out.mono ?_
    rintro e W5 ⟨b, rfl, hg5, ht, hf⟩
    cases b
    ·obtain ⟨t2, n2, e1, e2, e3, e4, e5⟩ := hf rfl
     have HG5 := qA0.mk ((HGr.out.trans ((World.grownBy.refl wr _) : wr.grownBy wr (some bM))).trans hg5)
     have HS5 := qA0.mk e1
     have HD5 := qA0.mk (And.intro e2 (And.intro e3 (HD.out.2.2.trans e4)))
     have HA5 : qA0 (∀ u, u ∈ ys.take (i + 1) → t2 u = 2) := ⟨fun u hu => by
      rw [List.take_add_one, HY.out] at hu
      rcases List.mem_append.1 hu with h | h
      ·rw [e4.keep u (by rw [HA.out u h]; decide)]; exact HA.out u h
      ·have : u = y := by simpa using h
       rw [this]; exact e5⟩
     clear hg5 ht hf e1 e2 e3 e4 e5
     go_wp2_with fail
     go_roundw
     case rel => exact ⟨i + 1, t2, n2, by omega, by first | rfl | (simp; done) | rw [Int.natCast_add]; rfl, HG5, HS5, HD5, HA5⟩
     case measure => simp [RowKit.intOf]; omega
    ·have HG5 := qA0.mk ((HG03.out.trans HGr.out).trans (((World.grownBy.refl wr _) : wr.grownBy wr (some bM)).trans hg5))
     have HCy := qA0.mk (Dfs.Cyc.step HHy.out (ht rfl))
     clear hg5 ht hf
     go_wp2_with fail
     go_ret
     exact ⟨true, rfl, HG5.out, fun _ => HCy.out, (fun h => by cases h)⟩
   ·obtain rfl : i = ys.length := by omega
    have hall : ∀ u, u ∈ next x → t u = 2 := fun u hu => HA.out u (by rw [List.take_length]; rw [HYS.out] at hu; exact hu)
    obtain ⟨d1, d2, d3⟩ := HD.out
    have h1x : t x = 1 := by rw [d3.keep x (by simp [Dfs.upd])]; simp [Dfs.upd]
    obtain ⟨W7, hup7, HS7, hg7⟩ := HSt.out.put (by omega : n' < maxLen) hxo (v := 2) (by decide)
    have hzt : Dfs.zeros U (Dfs.upd t x 2) ≤ Dfs.zeros U t := Dfs.zeros_le U fun u hu => by
     unfold Dfs.upd
     split
     ·decide
     ·exact hu
    have HEnd := qA0.mk (show ∃ (t' : ByteArray → Int) (n'' : Nat), qCX.St W7 bM n'' t' ∧ n'' + 2 * Dfs.zeros U t' ≤ M ∧ Dfs.Inv next t' ∧ Dfs.Post s t' ∧ t' x = 2 from ⟨Dfs.upd t x 2, n' + 1, HS7, by omega, Dfs.ended d2 h1x hall, Dfs.post_end H0.out d3, by simp [Dfs.upd]⟩)
    have HG7 := qA0.mk ((HG03.out.trans HGr.out).trans hg7)
    clear HS7 hg7 d1 d2 d3 hall h1x hzt hkr
    go_wp2_with fail
    go_ret
    exact ⟨false, rfl, HG7.out, (fun h => by cases h), fun _ => HEnd.out⟩
theorem qCX.idx (A : Option Addr) (c : Nat) (l : List ByteArray) (g1 : Addr) (g2 : Addr) (g3 : Addr) (J T : Nat → World → Prop) (hJ : ∀ k W, J k W → Kd.C Kd.string W A l.length l) (hl : l.length ≤ c)
  (hcall : ∀ k W , k < l.length → J k W → Calls Try.prog 35 #[.string (l.getD k (⟨#[]⟩ : ByteArray)), .pointer (some g1), .pointer (some g2), .pointer (some g3)] W fun e W' => (e = .returned (.bool true) ∧ T k W') ∨ (e = .returned (.bool false) ∧ J (k + 1) W')) (w : World) (h0 : J 0 w) :
  Calls Try.prog 62 #[.slice A l.length c, .func (.func 35) #[] #[.pointer (some g1), .pointer (some g2), .pointer (some g3)]] w fun e W' => (∃ k : Nat, k < l.length ∧ e = .returned (.int .i64 (k : Int)) ∧ T k W') ∨ (e = .returned (.int .i64 (-1)) ∧ J l.length W') := by
 have hm := Kd.qEI (hJ 0 w h0)
 have H0 := qA0.mk h0
 clear h0
 go_enter Try.func62, Try.ntmps62
 go_wp2
 go_loopw [5, 8] (fun _ i wr => ∃ k : Nat, k ≤ l.length ∧ i = .int .i64 k ∧ qA0 (J k wr)) (fun _ i _ => l.length - (intOf i).toNat)
 case atStart => exact ⟨0, Nat.zero_le _, rfl, H0⟩
 case round =>
  obtain ⟨k, hk, rfl, HJ⟩ := hrel
  by_cases hlt : k < l.length
  ·have hC := hJ k wr HJ.out
   obtain ⟨ad, cs_, rfl, hcl_, hk_, hcell_⟩ := Kd.C_get hC (⟨#[]⟩ : ByteArray) (k : Int) (by omega) (by omega)
   have h1_ : cs_ = [.string (l.getD k (⟨#[]⟩ : ByteArray))] := hk_
   have hx0 := hcell_ 0 (.string (l.getD k (⟨#[]⟩ : ByteArray))) (by rw [h1_]; rfl)
   rw [show (k : Int).toNat * (Kd.string).sz + 0 = k from by simp [show (Kd.string).sz = 1 from rfl]] at hx0
   clear hcell_ hk_ h1_ hcl_ hC
   have HC := qA0.mk (hcall k wr  hlt HJ.out)
   clear hcall
   generalize l.getD k (⟨#[]⟩ : ByteArray) = y at *
   go_wp2_with fail
   refine HC.out.mono ?_
   rintro e w' (⟨rfl, ht⟩ | ⟨rfl, hj⟩)
   ·have HT := qA0.mk ht
    clear ht
    go_wp2_with fail
    go_ret
    exact .inl ⟨k, hlt, rfl, HT.out⟩
   ·have HJ2 := qA0.mk hj
    clear hj
    go_wp2_with fail
    go_roundw
    case rel => exact ⟨k + 1, by omega, by go_num, HJ2⟩
    case measure => simp [intOf]; omega
  ·obtain rfl : k = l.length := by omega
   go_wp2_with fail
   go_ret
   exact .inr ⟨rfl, HJ.out⟩
theorem qCX.contains (A : Option Addr) (c : Nat) (l : List ByteArray) (g1 : Addr) (g2 : Addr) (g3 : Addr) (J T : Nat → World → Prop) (hJ : ∀ k W, J k W → Kd.C Kd.string W A l.length l) (hl : l.length ≤ c)
  (hcall : ∀ k W, k < l.length → J k W → Calls Try.prog 35 #[.string (l.getD k (⟨#[]⟩ : ByteArray)), .pointer (some g1), .pointer (some g2), .pointer (some g3)] W fun e W' => (e = .returned (.bool true) ∧ T k W') ∨ (e = .returned (.bool false) ∧ J (k + 1) W')) (w : World) (h0 : J 0 w) :
  Calls Try.prog 36 #[.slice A l.length c, .func (.func 35) #[] #[.pointer (some g1), .pointer (some g2), .pointer (some g3)]] w fun e W' => (e = .returned (.bool true) ∧ ∃ k : Nat, k < l.length ∧ T k W') ∨ (e = .returned (.bool false) ∧ J l.length W') := by
 have HI := qA0.mk (qCX.idx A c l g1 g2 g3 J T hJ hl hcall w h0)
 clear hcall hJ h0
 go_enter Try.func36, Try.ntmps36
 go_wp2_with fail
 refine HI.out.mono ?_
 rintro e w' (⟨k, hk, rfl, ht⟩ | ⟨rfl, hj⟩)
 ·have HT := qA0.mk ht
  clear ht
  go_wp2_with fail
  go_ret
  exact .inl ⟨by simp, k, hk, HT.out⟩
 ·have HJ := qA0.mk hj
  clear hj
  go_wp2_with fail
  go_ret
  exact .inr ⟨by simp, HJ.out⟩
set_option maxRecDepth 100000 in
set_option maxHeartbeats 2000000 in
open Classical in
theorem qCX.search (A0 : Option Addr) (c0 : Nat) (all : List ByteArray) (w : World) (next : ByteArray → List ByteArray) (U : List ByteArray) (gp : Addr) (hC : Kd.C Kd.string w A0 all.length all) (hl : all.length ≤ c0) (X : qCX.Ctx w next U gp) (hall : ∀ x ∈ all, x ∈ U) (hU : 2 * U.length < maxLen) :
  Calls Try.prog 19 #[.slice A0 all.length c0, .func (.func 20) #[] #[.pointer (some gp)]] w fun e w' => e = .returned (.bool (decide (∃ x, x ∈ all ∧ Dfs.Cyc next x))) ∧ Below w.heap.size w w' := by
 have hmm := @run_makeMap Try.prog
 go_enter Try.func19, Try.ntmps19
 go_wp2_with fail
 generalize hW4 : (((w.alloc (.cells #[.func (.func 20) #[] #[.pointer (some gp)]] 66)).alloc (.map #[] 0)).alloc (.cells #[.map (some (w.heap.size + 1))] 99)).alloc (.cells #[.func (.func 35) #[] #[.pointer (some ⟨w.heap.size + 1 + 1, 0, none⟩), .pointer (some ⟨w.heap.size, 0, none⟩), .pointer (some ⟨w.heap.size + 1 + 1 + 1, 0, none⟩)]] 86) = W4
 have hB4 : Below w.heap.size w W4 := by rw [← hW4]; exact qAG (qAG (qAG (qAG (Below.refl _ _) _) _) _) _
 have hE4 : qCX.Env W4 (w.heap.size + 1 + 1) w.heap.size (w.heap.size + 1 + 1 + 1) (w.heap.size + 1) gp := by
  rw [← hW4]
  refine ⟨?_, qAN (qAN (qAN (heap_alloc_new w _) (World.grownBy_alloc _ _ none) (by simp)) (World.grownBy_alloc _ _ none) (by simp)) (World.grownBy_alloc _ _ none) (by simp), ?_⟩
  ·have h := heap_alloc_new ((w.alloc (.cells #[.func (.func 20) #[] #[.pointer (some gp)]] 66)).alloc (.map #[] 0)) (.cells #[.map (some (w.heap.size + 1))] 99)
   rw [show ((w.alloc (.cells #[.func (.func 20) #[] #[.pointer (some gp)]] 66)).alloc (.map #[] 0)).heap.size = w.heap.size + 1 + 1 from by simp] at h
   exact qAN h (World.grownBy_alloc _ _ none) (by simp)
  ·have h := heap_alloc_new (((w.alloc (.cells #[.func (.func 20) #[] #[.pointer (some gp)]] 66)).alloc (.map #[] 0)).alloc (.cells #[.map (some (w.heap.size + 1))] 99)) (.cells #[.func (.func 35) #[] #[.pointer (some ⟨w.heap.size + 1 + 1, 0, none⟩), .pointer (some ⟨w.heap.size, 0, none⟩), .pointer (some ⟨w.heap.size + 1 + 1 + 1, 0, none⟩)]] 86)
   rw [show (((w.alloc (.cells #[.func (.func 20) #[] #[.pointer (some gp)]] 66)).alloc (.map #[] 0)).alloc (.cells #[.map (some (w.heap.size + 1))] 99)).heap.size = w.heap.size + 1 + 1 + 1 from by simp] at h
   exact h
 have hS4 : qCX.St W4 (w.heap.size + 1) 0 (fun _ => 0) := by
  rw [← hW4]
  have h1 : qCX.St ((w.alloc (.cells #[.func (.func 20) #[] #[.pointer (some gp)]] 66)).alloc (.map #[] 0)) (w.heap.size + 1) 0 (fun _ => 0) := by
   have h0 := World.ownsMap_made (H := Unit) (w.alloc (.cells #[.func (.func 20) #[] #[.pointer (some gp)]] 66)) Try.prog 9 (plainElem Try.prog 3)
   rw [show (w.alloc (.cells #[.func (.func 20) #[] #[.pointer (some gp)]] 66)).heap.size = w.heap.size + 1 from by simp] at h0
   exact ⟨_, h0, fun x _ => rfl⟩
  exact (h1.kept (World.grownBy_alloc _ _ none) (by simp)).kept (World.grownBy_alloc _ _ none) (by simp)
 clear hW4
 refine (qCX.contains A0 c0 all ⟨w.heap.size + 1 + 1, 0, none⟩ ⟨w.heap.size, 0, none⟩ ⟨w.heap.size + 1 + 1 + 1, 0, none⟩
  (fun k W => ∃ (s : ByteArray → Int) (n : Nat), qCX.Env W (w.heap.size + 1 + 1) w.heap.size (w.heap.size + 1 + 1 + 1) (w.heap.size + 1) gp ∧ qCX.St W (w.heap.size + 1) n s ∧ Below w.heap.size w W ∧ Dfs.Inv next s ∧ (∀ y, s y ≠ 1) ∧ n + 2 * Dfs.zeros U s ≤ 2 * U.length ∧ ∀ x, x ∈ all.take k → s x = 2)
  (fun _ W => (∃ x, x ∈ all ∧ Dfs.Cyc next x) ∧ Below w.heap.size w W) (fun k W ⟨_, _, _, _, hb, _⟩ => Kd.qAQ hC hb) hl ?_ W4 ?_).mono ?_
 ·rintro k W hk ⟨s, n, h1, h2, h3, h4, h5, h6, h7⟩
  have hm : all.getD k (⟨#[]⟩ : ByteArray) ∈ all := by rw [List.getD_eq_getElem?_getD, List.getElem?_eq_getElem hk]; exact List.getElem_mem _
  have hg : all[k]? = some (all.getD k (⟨#[]⟩ : ByteArray)) := by rw [List.getD_eq_getElem?_getD, List.getElem?_eq_getElem hk]; rfl
  refine (qCX.walk w next U gp X _ _ _ _ (by omega) (Dfs.zeros U s) s n (2 * U.length) _ W (Nat.le_refl _) hU h6 h1 h2 h3 h4 (fun y hy => absurd hy (h5 y)) (hall _ hm)).mono ?_
  rintro e W' ⟨b, rfl, hgr, ht, hf⟩
  have hb' := qBN h3 (some (w.heap.size + 1)) h3.size hgr (fun k e => by obtain rfl := Option.some.inj e; omega)
  cases b
  ·obtain ⟨t, n', e1, e2, e3, e4, e5⟩ := hf rfl
   refine .inr ⟨rfl, t, n', h1.kept h2 hgr, e1, hb', e3, fun y hy => h5 y (e4.ones y hy), e2, fun u hu => ?_⟩
   rw [List.take_add_one, hg] at hu
   rcases List.mem_append.1 hu with h | h
   ·rw [e4.keep u (by rw [h7 u h]; decide)]; exact h7 u h
   ·have : u = all.getD k (⟨#[]⟩ : ByteArray) := by simpa using h
    rw [this]; exact e5
  ·exact .inl ⟨rfl, ⟨_, hm, ht rfl⟩, hb'⟩
 ·refine ⟨fun _ => 0, 0, hE4, hS4, hB4, ⟨fun _ => .inl rfl, fun x h => by simp at h⟩, fun y h => by simp at h, ?_, fun x hx => by simp at hx⟩
  have : Dfs.zeros U (fun _ : ByteArray => (0 : Int)) ≤ U.length := List.countP_le_length
  omega
 ·rintro e W' (⟨rfl, k, hk, hT, hb⟩ | ⟨rfl, s, n, h1, h2, h3, h4, h5, h6, h7⟩)
  ·have HD := qA0.mk (decide_eq_true hT)
   have HB := qA0.mk hb
   clear hT hb
   go_wp2_with fail
   go_ret
   exact ⟨by rw [HD.out]; rfl, HB.out⟩
  ·have hno : ¬ ∃ x, x ∈ all ∧ Dfs.Cyc next x := fun ⟨x, hx, hc⟩ => (h4.done x (h7 x (by rw [List.take_length]; exact hx))).1 hc
   have HD := qA0.mk (decide_eq_false hno)
   have HB := qA0.mk h3
   clear hno h1 h2 h3 h4 h5 h6 h7
   go_wp2_with fail
   go_ret
   exact ⟨by rw [HD.out]; rfl, HB.out⟩
end
end Go.Proofs.Ytnliaialemfcaaa.PRateFinds
end
section
namespace Go.Proofs.Ytnliaialemfcaaa.PRateFinds
noncomputable section
open Go.RowKit Go.Proofs.YtnliaialemfcaaaW.PrintWords Go.Proofs.YtnliaialemfcaaaW.PrintLast Go.Proofs.YtnliaialemfcaaaW.PrintMore
theorem refs_app (W : World) (base : Nat) (v : Value) (R : List S58) (HO : W.ownsRow base 58 2 v R.length (R.flatMap qC3.enc)) (g0 : Nat) (x : S58) (hblk : W.heap[g0]? = some (.cells #[.string x.f0, .string x.f1] 58 (0, 0))) (hbase : base ≤ W.heap.size) (hl : (R.length + 1) * 32 ≤ 140737488355328) :
  ∃ v1 w1, (Builtin.append_ #[43, 43] 43 #[v, .slice (some ⟨g0, 0, none⟩) 1 1]).run Try.prog W = .ok v1 w1 ∧ w1.ownsRow base 58 2 v1 (R ++ [x]).length ((R ++ [x]).flatMap qC3.enc) ∧ W.grownBy w1 v.ownBlock ∧ (v1.ownBlock = v.ownBlock ∨ v1.ownBlock = some W.heap.size) := by
 obtain ⟨i0, hi, hz0, hz1, hz2⟩ := info_parts qC3.info
 obtain ⟨v1, w1, hr, h2, h3, _, h5⟩ := run_append_own_at (P := Try.prog) W base 43 43 58 i0 (.agg #[.string ⟨#[]⟩, .string ⟨#[]⟩]) 2 32 Try.underlying43 hi hz0 hz1 hz2 rfl (by decide) v R.length (R.flatMap qC3.enc) HO ⟨g0, 0, none⟩ 1 1 (qC3.enc x) rfl (World.news_of_block hblk)
  (fun q hq => by simp [qC3.enc] at hq; rcases hq with rfl | rfl <;> rfl) (by simp only [maxLen]; omega) hl hbase
 exact ⟨v1, w1, hr, by rw [List.flatMap_append, List.length_append]; simpa using h2, h3, h5⟩
def sliA : Value → Option (DataW Unit × List MemPlace)
 | .slice none n c => some (.agg [.lit (.int .i64 n), .lit (.int .i64 c)], [])
 | .slice (some ⟨p, o, none⟩) n c => some (.agg [.lit (.int .i64 n), .lit (.int .i64 c), .lit (.int .i64 p), .lit (.int .i64 o)], [])
 | .slice (some ⟨p, o, some q⟩) n c => some (.agg [.lit (.int .i64 n), .lit (.int .i64 c), .lit (.int .i64 p), .lit (.int .i64 o), .lit (.int .i64 q)], [])
 | _ => none
def encA (v : Value) : DataW Unit := ((sliA v).map (·.1)).getD .nil
theorem sliA_slice (A : Option Addr) (n c : Nat) : sliA (.slice A n c) = some (encA (.slice A n c), []) := by
 cases A with
 | none => rfl
 | some a => obtain ⟨p, o, q⟩ := a; cases q <;> rfl
set_option maxRecDepth 100000 in
theorem sliA_inj {A A' : Option Addr} {n n' c c' : Nat} (h : encA (.slice A n c) = encA (.slice A' n' c')) : Value.slice A n c = Value.slice A' n' c' := by
 cases A with
 | none =>
  cases A' with
  | none => simp [encA, sliA] at h; obtain ⟨h1, h2⟩ := h; rw [show n = n' from by omega, show c = c' from by omega]
  | some a => obtain ⟨p, o, q⟩ := a; cases q <;> simp [encA, sliA] at h
 | some a =>
  obtain ⟨p, o, q⟩ := a
  cases A' with
  | none => cases q <;> simp [encA, sliA] at h
  | some a' =>
   obtain ⟨p', o', q'⟩ := a'
   cases q <;> cases q' <;> simp [encA, sliA] at h
   ·obtain ⟨h1, h2, h3, h4⟩ := h; rw [show n = n' from by omega, show c = c' from by omega, show p = p' from by omega, show o = o' from by omega]
   ·rename_i q1 q2; obtain ⟨h1, h2, h3, h4, h5⟩ := h; rw [show n = n' from by omega, show c = c' from by omega, show p = p' from by omega, show o = o' from by omega, show q1 = q2 from by omega]
def lookO (O : List (S58 × List S58)) (r : S58) : List S58 := ((O.find? fun p => decide (p.1 = r)).map (·.2)).getD []
structure OM (w W : World) (b : Nat) (O : List (S58 × List S58)) : Prop where
 hb : w.heap.size ≤ b
 own : ∃ (V : S58 → Value) (n : Nat) (D : DataW Unit), n ≤ O.length ∧ W.ownsMap Try.prog 58 sliA b n D ∧ (∀ (r : S58) (zd : DataW Unit), (r.f0.size ≤ maxLen ∧ r.f1.size ≤ maxLen) → D.atKey (keyL r) zd = if r ∈ O.map (·.1) then encA (V r) else zd) ∧
  ∀ r, r ∈ O.map (·.1) → ∃ A c, V r = .slice A (lookO O r).length c ∧ (lookO O r).length ≤ c ∧ Kd.C k58 w A (lookO O r).length (lookO O r)
theorem OM.blk {w W : World} {b : Nat} {O : List (S58 × List S58)} (h : OM w W b O) : ∃ es c, W.heap[b]? = some (.map es c) := by
 obtain ⟨_, _, _, _, ⟨es, c, hb, _⟩, _⟩ := h.own
 exact ⟨es, c, hb⟩
theorem OM.at_ {w W W' : World} {b : Nat} {O : List (S58 × List S58)} (h : OM w W b O) (he : W'.heap[b]? = W.heap[b]?) : OM w W' b O := by
 obtain ⟨V, n, D, hn, ⟨es, cl, hb, F⟩, h2⟩ := h.own
 exact ⟨h.hb, V, n, D, hn, ⟨es, cl, he.trans hb, F⟩, h2⟩
theorem OM.made (w W : World) (h : w.heap.size ≤ W.heap.size) : OM w (W.alloc (.map #[] 0)) W.heap.size [] :=
 ⟨h, fun _ => .slice none 0 0, 0, _, Nat.le_refl _, World.ownsMap_made W _ _ _, fun r zd _ => rfl, fun r hr => by cases hr⟩
set_option maxRecDepth 100000 in
theorem OM.look {w W : World} {b : Nat} {O : List (S58 × List S58)} (h : OM w W b O) {r : S58} (hr : r.f0.size ≤ maxLen ∧ r.f1.size ≤ maxLen) :
  ∃ A c, (Instr.lookup 42 (.map (some b)) (.agg #[.string r.f0, .string r.f1]) false).run Try.prog W = .ok (.slice A (lookO O r).length c) W ∧ (lookO O r).length ≤ c ∧ Kd.C k58 w A (lookO O r).length (lookO O r) := by
 obtain ⟨V, n, D, hn, own, at_, rows⟩ := h.own
 obtain ⟨v, ps, hrun, hR⟩ := own.lookup keyed58 Try.underlying42 (z := .slice none 0 0) (Try.zeroValue43 W) (zd := encA (.slice none 0 0)) (zp := []) rfl (key58 r hr)
 rw [at_ r _ hr] at hR
 have inv : ∀ {u : Value} {A : Option Addr} {n c : Nat} {qs : List MemPlace}, sliA u = some (encA (.slice A n c), qs) → u = .slice A n c := fun {u A n c qs} hu => by
  cases u with
  | slice A' n' c' =>
   rw [sliA_slice] at hu
   exact sliA_inj (Prod.mk.inj (Option.some.inj hu)).1
  | _ => simp [sliA] at hu
 by_cases e : r ∈ O.map (·.1)
 ·rw [if_pos e] at hR
  obtain ⟨A, c, hV, hc, hC⟩ := rows r e
  rw [hV] at hR
  exact ⟨A, c, by rw [hrun, inv hR], hc, hC⟩
 ·rw [if_neg e] at hR
  have hl : lookO O r = [] := by
   unfold lookO
   rw [List.find?_eq_none.2 (fun p hp => by simp only [decide_eq_true_eq]; exact fun e' => e (List.mem_map.2 ⟨p, hp, e'⟩))]
   rfl
  rw [hl]
  exact ⟨none, 0, by rw [hrun, inv hR]; rfl, Nat.le_refl _, ⟨rfl, by simp, fun hp => absurd hp (by simp)⟩⟩
set_option maxRecDepth 100000 in
theorem OM.put {w W : World} {b : Nat} {O : List (S58 × List S58)} (h : OM w W b O) (hl : O.length < maxLen) {r : S58} (hr : r.f0.size ≤ maxLen ∧ r.f1.size ≤ maxLen) {l : List S58} {A : Option Addr} {c : Nat} (hc : l.length ≤ c) (hC : Kd.C k58 w A l.length l) :
  ∃ W2, (Instr.mapUpdate 42 (.map (some b)) (.agg #[.string r.f0, .string r.f1]) (.slice A l.length c)).run Try.prog W = .ok () W2 ∧ OM w W2 b ((r, l) :: O) ∧ W.grownBy W2 (some b) := by
 obtain ⟨V, n, D, hn, own, at_, rows⟩ := h.own
 obtain ⟨W2, hrun, ho, hg⟩ := own.update keyed58 Try.underlying42 (Nat.lt_of_le_of_lt hn hl) (key58 r hr) (val := .slice A l.length c) (d := encA (.slice A l.length c)) (ps := []) (sliA_slice A l.length c)
 have hlk : ∀ x, lookO ((r, l) :: O) x = if r = x then l else lookO O x := fun x => by
  unfold lookO
  rw [List.find?_cons]
  by_cases e : r = x <;> simp [e]
 refine ⟨W2, hrun, ⟨h.hb, fun x => if x = r then .slice A l.length c else V x, n + 1, _, by simp; omega, ho, fun x zd hx => ?_, fun x hx => ?_⟩, hg⟩
 ·by_cases e : x = r
  ·subst e
   rw [Maps.atKey_put_same own.isMap (keyed58.key (key58 x hx))]
   simp
  ·have hm : x ∈ ((r, l) :: O).map (·.1) ↔ x ∈ O.map (·.1) := by rw [List.map_cons, List.mem_cons]; simp [e]
   rw [Maps.atKey_put_other (fun e' => e (key58_inj hx hr e')), at_ x zd hx]
   simp only [hm, if_neg e]
 ·rw [hlk]
  by_cases e : x = r
  ·subst e
   rw [if_pos rfl]
   exact ⟨A, c, if_pos rfl, hc, hC⟩
  ·rw [if_neg (fun e' => e e'.symm)]
   obtain ⟨A1, c1, h1, h2, h3⟩ := rows x (by rw [List.map_cons, List.mem_cons] at hx; exact hx.resolve_left e)
   exact ⟨A1, c1, (if_neg e).trans h1, h2, h3⟩
set_option maxRecDepth 100000 in
theorem next1 {w W : World} {b bO : Nat} {O : List (S58 × List S58)} (h : OM w W b O) (hbox : W.cell? ⟨bO, 0, none⟩ = some (.map (some b))) (hw : Below w.heap.size w W) {r : S58} (hr : r.f0.size ≤ maxLen ∧ r.f1.size ≤ maxLen) :
  Calls Try.prog 17 #[.agg #[.string r.f0, .string r.f1], .pointer (some ⟨bO, 0, none⟩)] W fun e W' => ∃ A c, e = .returned (.slice A (lookO O r).length c) ∧ (lookO O r).length ≤ c ∧ Kd.C k58 W' A (lookO O r).length (lookO O r) ∧ Below W.heap.size W W' := by
 have hB : Below W.heap.size W (W.alloc (.cells #[.string r.f0, .string r.f1] 58)) := qAG (Below.refl _ _) _
 obtain ⟨es, cl, hblk⟩ := h.blk
 obtain ⟨A, c, hrun, hc, hC⟩ := (h.at_ (W' := W.alloc (.cells #[.string r.f0, .string r.f1] 58)) (hB.block b (Gen.qBH hblk))).look hr
 have hbox' := qAH hB hbox
 have HC := qA0.mk (And.intro hc (Kd.qAQ hC (qA1 hw hB)))
 have HB := qA0.mk hB
 clear hC hc hB hw hblk h
 go_enter Try.func17, Try.ntmps17
 go_wp2_with fail
 go_ret
 exact ⟨A, c, rfl, HC.out.1, HC.out.2, HB.out⟩
set_option maxRecDepth 100000 in
theorem next2 {w0 W : World} {b bL : Nat} {P : List (ByteArray × List ByteArray)} {g : ByteArray → Value} (h : LM w0 W b P g) (hbox : W.cell? ⟨bL, 0, none⟩ = some (.map (some b))) {s : ByteArray} (hs : s.size ≤ maxLen) :
  Calls Try.prog 20 #[.string s, .pointer (some ⟨bL, 0, none⟩)] W fun e W' => ∃ A c, e = .returned (.slice A (qED P s).length c) ∧ (qED P s).length ≤ c ∧ Kd.C Kd.string W' A (qED P s).length (qED P s) ∧ Below W.heap.size W W' := by
 have hl := h.look hs
 obtain ⟨A, c, e, hc, hC⟩ := Kd.R_reads (Kd.R_of_own (h1 := fun _ => rfl) (h.rows s) (ok := fun _ => True) (fun _ _ => trivial))
 rw [e] at hl
 have HC := qA0.mk (And.intro hc hC)
 clear e hC hc h
 go_enter Try.func20, Try.ntmps20
 go_wp2_with fail
 go_ret
 exact ⟨A, c, rfl, HC.out.1, HC.out.2, Below.refl _ _⟩
def articleF (b : List S48) (x : S54) : Option Int := Gen.lim fun k => qBB.f k b x.f0 x.f1 x.f2 x.f3 x.f4 x.f5
def overF (b : List S48) (an : ByteArray) (x : S54) : Option Int := Gen.lim fun k => qBA.f k b an x.f0 x.f0 x.f1 x.f2 x.f3 x.f4 x.f5
def limitsF (b : List S48) : Option Int := Gen.lim fun k => qBE.f k b
abbrev Refs := List S58
abbrev qFB := List (S58 × List S58)
def chk_in (b : List S48) (an : ByteArray) : List S54 → List ByteArray → Refs → qFB → Option (Int × Refs × qFB)
 | [], _, R, O => some (0, R, O)
 | x :: r, L, R, O => if L.length < 1000000 ∧ R.length < 1000000 ∧ O.length < 1000000 ∧ an.size ≤ maxLen ∧ x.f0.size ≤ maxLen then (if addR L x.f0 ≠ 0 then some (addR L x.f0, R, O) else (articleF b x).bind fun e => if e ≠ 0 then some (e, R, O) else chk_in b an r (x.f0 :: L) (R ++ [⟨an, x.f0⟩]) ((⟨an, x.f0⟩, x.f4) :: O)) else none
def qE5 (b : List S48) : List S48 → Refs → qFB → Option (Int × Refs × qFB)
 | [], R, O => some (0, R, O)
 | a :: r, R, O => (chk_in b a.f0 a.f5 [] R O).bind fun p => if p.1 ≠ 0 then some p else qE5 b r p.2.1 p.2.2
def qEF (b : List S48) (an : ByteArray) : List S54 → Option Int
 | [] => some 0
 | x :: r => (overF b an x).bind fun e => if e ≠ 0 then some e else qEF b an r
def qD8 (b : List S48) : List S48 → Option Int
 | [] => some 0
 | a :: r => (qEF b a.f0 a.f5).bind fun e => if e ≠ 0 then some e else qD8 b r
def allRefs (R : Refs) (O : qFB) : List S58 := R ++ O.flatMap fun p => p.2
def qEH (P : List (ByteArray × List ByteArray)) : List ByteArray := P.flatMap fun p => p.1 :: p.2
open Classical in
def chk_last (P : List (ByteArray × List ByteArray)) : Option Int := if (∀ s, s ∈ qEH P → s.size ≤ maxLen) ∧ 2 * (qEH P).length < maxLen ∧ P.length < 1000000 then (if ∃ s, s ∈ P.map (·.1) ∧ Dfs.Cyc (qED P) s then some 10 else some 0) else none
open Classical in
def chk_end (b : List S48) (R : Refs) (O : qFB) : Option Int := if (∀ x, x ∈ allRefs R O → x.f0.size ≤ maxLen ∧ x.f1.size ≤ maxLen) ∧ 2 * (allRefs R O).length < maxLen then (if ∃ x, x ∈ R ∧ Dfs.Cyc (lookO O) x then some 10 else (qCH.f b).bind chk_last) else none
def chk_k2 (b : List S48) (R : Refs) (O : qFB) (e : Int) : Option Int := if e ≠ 0 then some e else chk_end b R O
def chk_k1 (b : List S48) (p : Int × Refs × qFB) : Option Int := if p.1 ≠ 0 then some p.1 else (qD8 b b).bind (chk_k2 b p.2.1 p.2.2)
def qCI.f (l0 : List S48) : Option Int := (limitsF l0).bind fun e => if e ≠ 0 then some e else (qBK.f l0).bind fun e => if e ≠ 0 then some e else (qE5 l0 l0 [] []).bind (chk_k1 l0)
theorem lookO_mem {O : qFB} {x y : S58} (h : y ∈ lookO O x) : y ∈ O.flatMap fun p => p.2 := by
 unfold lookO at h
 cases hf : O.find? (fun p => decide (p.1 = x)) with
 | none => rw [hf] at h; simp at h
 | some p => rw [hf] at h; exact List.mem_flatMap.2 ⟨p, List.mem_of_find?_eq_some hf, by simpa using h⟩
theorem lookN_mem {P : List (ByteArray × List ByteArray)} {x y : ByteArray} (h : y ∈ qED P x) : y ∈ qEH P := by
 obtain ⟨p, hp, hy⟩ := List.mem_flatMap.1 h
 exact List.mem_flatMap.2 ⟨p, (List.mem_filter.1 hp).1, List.mem_cons_of_mem _ hy⟩
structure CI (w W : World) (bm bO : Nat) (v : Value) (R : Refs) (O : qFB) : Prop where
 hB : Below w.heap.size w W
 om : OM w W bm O
 box : W.heap[bO]? = some (.cells #[.map (some bm)] 42 (0, 0))
 row : W.ownsRow w.heap.size 58 2 v R.length (R.flatMap qC3.enc)
theorem qEK {W : World} {base n : Nat} {v : Value} {xs : List Value} (h : W.ownsRow base 58 2 v n xs) {k : Nat} (hk : v.ownBlock = some k) : base ≤ k ∧ ∃ cells, W.heap[k]? = some (.cells cells 58 (0, 0)) := by
 rcases h.2 with ⟨rfl, _⟩ | ⟨g, cap, cur, rfl, hg, hb, _⟩
 ·simp [Value.ownBlock] at hk
 ·have : g = k := by simpa [Value.ownBlock] using hk
  subst this
  exact ⟨hg, cur, hb⟩
theorem CI.keep {w W W' : World} {bm bO : Nat} {v : Value} {R : Refs} {O : qFB} (h : CI w W bm bO v R O) (hB : Below W.heap.size W W') : CI w W' bm bO v R O := by
 obtain ⟨es, cl, hb⟩ := h.om.blk
 exact ⟨qA1 h.hB hB, h.om.at_ (hB.block bm (Gen.qBH hb)), qAN h.box (qB4 hB none) (by simp), qE2 h.row (fun k hk => by obtain ⟨_, cells, hc⟩ := qEK h.row hk; exact hB.block k (Gen.qBH hc))⟩
theorem CI.grown {w W W' : World} {bm bO bl : Nat} {v : Value} {R : Refs} {O : qFB} {L : List ByteArray} (h : CI w W bm bO v R O) (hn : Names W bl L) (hne : bl ≠ bm) (hl : w.heap.size ≤ bl) (hg : W.grownBy W' (some bl)) : CI w W' bm bO v R O := by
 obtain ⟨es, cl, hb⟩ := h.om.blk
 obtain ⟨n, D, _, ⟨es2, cl2, hb2, _⟩, _⟩ := hn.own
 refine ⟨qBN h.hB (some bl) h.hB.size hg (fun k e => by obtain rfl := Option.some.inj e; exact hl), h.om.at_ (hg.block bm (Gen.qBH hb) (fun e => hne (Option.some.inj e).symm)), qAN h.box hg (fun e => ?_), qE2 h.row (fun k hk => ?_)⟩
 ·have := Option.some.inj e; subst this; have := hb2.symm.trans h.box; cases this
 ·obtain ⟨_, cells, hc⟩ := qEK h.row hk
  exact hg.block k (Gen.qBH hc) (fun e => by have := Option.some.inj e; subst this; have := hb2.symm.trans hc; cases this)
theorem wp_app {ops : Array Oper} {rest : List Oper} {o : Oper} {a : Act} {Q : Exit → Act → World → Prop} {W w1 : World} {v1 : Value} (hgd : o.guard = none) (s x : Operand) (t : TypeId) (ho : o.op = .call { callee := .builtin .append, args := #[s, x], argTypes := #[t, t] }) (hty : o.type = t)
  (v u : Value) (hs : a.eval s = v) (hx : a.eval x = u) (hr : (Builtin.append_ #[t, t] t #[v, u]).run Try.prog W = .ok v1 w1) (h : wpList Try.prog ops Q rest (a.put o.dst v1) w1) : wpList Try.prog ops Q (o :: rest) a W := by
 refine wpList_plain hgd fun K hK => ?_
 unfold Oper.wp execOp
 simp only [ho, resolve, invoke, builtin, Sem.run_bind, Sem.run_pure, Result.andThen_ok, List.map_toArray, List.map_cons, List.map_nil, hs, hx, hty, hr]
 exact hK _ _ h
set_option maxRecDepth 100000 in
theorem key9_inv {key : Value} {kl : Lit} (h : keyOf Try.prog 9 key = some kl) : ∃ s : ByteArray, key = .string s ∧ kl = .string s.data.toList ∧ s.size ≤ maxLen := by
 cases key <;> simp [keyOf, Try.underlying9, mapKey] at h
 exact ⟨_, rfl, h.2.symm, h.1⟩
set_option maxRecDepth 100000 in
set_option maxHeartbeats 8000000 in
theorem qCI.calls (A0 : Option Addr) (c0 : Nat) (l0 : List (S48)) (r : Int) (w : World) (hr0 : Kd.C k48 w A0 l0.length l0) (hc0 : l0.length ≤ c0) (h : qCI.f l0 = some r) :
  Calls Try.prog 4 #[.slice A0 l0.length c0] w fun e w' => e = .returned (.int .i64 r) ∧ Below w.heap.size w w' := by
 have HR := qA0.mk hr0
 have HC := qA0.mk hc0
 have hm : l0.length ≤ 9223372036854775807 := Kd.qEI hr0
 obtain ⟨e1, h1, h⟩ := Option.bind_eq_some_iff.mp h
 obtain ⟨k1, h1⟩ := Gen.lim_some h1
 have H1 := qA0.mk h1
 have H2 := qA0.mk h
 clear hr0 hc0 h1 h
 have hmm := @run_makeMap Try.prog
 go_enter Try.func4, Try.ntmps4
 go_wp2_with fail
 refine (qBE.calls k1 A0 c0 l0 e1 w HR.out HC.out H1.out).mono ?_
 rintro e W1 ⟨rfl, hb1⟩
 by_cases c1 : e1 = 0
 case neg =>
  have hr : r = e1 := by have := H2.out; rw [if_pos c1] at this; exact (Option.some.inj this).symm
  subst hr
  have HB := qA0.mk hb1
  have c1b : (r != 0) = true := bne_iff_ne.mpr c1
  clear c1 hb1
  go_wp2_with fail
  go_ret
  exact ⟨rfl, HB.out⟩
 subst c1
 obtain ⟨e2, h3, h4⟩ := Option.bind_eq_some_iff.mp (by have := H2.out; rwa [if_neg (by simp)] at this)
 have H3 := qA0.mk h3
 have H4 := qA0.mk h4
 have HB1 := qA0.mk hb1
 clear h3 h4 hb1 H2
 go_wp2_with fail
 refine (qBK.calls A0 c0 l0 e2 W1 (Kd.qAQ HR.out HB1.out) HC.out H3.out).mono ?_
 rintro e W2 ⟨rfl, hb2⟩
 have HB2 := qA0.mk (qA1 HB1.out hb2)
 clear hb2
 by_cases c2 : e2 = 0
 case neg =>
  have hr : r = e2 := by have := H4.out; rw [if_pos c2] at this; exact (Option.some.inj this).symm
  subst hr
  have c2b : (r != 0) = true := bne_iff_ne.mpr c2
  clear c2
  go_wp2_with fail
  go_ret
  exact ⟨rfl, HB2.out⟩
 subst c2
 have H5 := qA0.mk (by have := H4.out; rwa [if_neg (by simp)] at this)
 clear H4 HB1
 generalize hW3 : (W2.alloc (.map #[] 0)).alloc (.cells #[.map (some W2.heap.size)] 42) = W3
 have hc3 : CI w W3 W2.heap.size (W2.heap.size + 1) (.slice none 0 0) [] [] := by
  rw [← hW3]
  have o1 := (OM.made w W2 HB2.out.size)
  have bb := qAG (Below.refl (W2.alloc (.map #[] 0)).heap.size (W2.alloc (.map #[] 0))) (.cells #[.map (some W2.heap.size)] 42)
  refine ⟨qAG (qAG HB2.out _) _, o1.at_ (bb.block _ (by simp)), ?_, own_nil _ _ _ _⟩
  have h := heap_alloc_new (W2.alloc (.map #[] 0)) (.cells #[.map (some W2.heap.size)] 42)
  rwa [show (W2.alloc (.map #[] 0)).heap.size = W2.heap.size + 1 from by simp] at h
 have HW3 := qA0.mk hW3
 have HCI := qA0.mk hc3
 have hw2 : w.heap.size ≤ W2.heap.size := HB2.out.size
 clear hW3 hc3
 go_wp2_with fail
 rw [HW3.out]
 clear HW3
 go_loopw [6, 36] (fun v6 v36 wr => ∃ (i : Nat) (R : Refs) (O : qFB), i ≤ l0.length ∧ v36 = .int .i64 (i : Int) ∧ qA0 ((qE5 l0 (l0.drop i) R O).bind (chk_k1 l0) = some r) ∧ qA0 (CI w wr W2.heap.size (W2.heap.size + 1) v6 R O)) (fun _ v36 _ => l0.length - (RowKit.intOf v36).toNat)
 case atStart => exact ⟨0, [], [], by omega, rfl, ⟨by simpa using H5.out⟩, HCI⟩
 case round =>
  clear H5 HCI
  obtain ⟨i, R, O, hi, rfl, HG, HCI⟩ := hrel
  by_cases hlt : i < l0.length
  ·obtain ⟨ad, A3, c3, A4, c4, A5, c5, e0, hx0, hx1, hx2, hx3, hx4, hx5, hl3, hi3, hl4, hi4, hl5, hi5⟩ := qEM HR.out (i : Int) (by omega) (by omega)
   cases e0
   simp only [Int.toNat_natCast] at hx0 hx1 hx2 hx3 hx4 hx5
   have hB := HCI.out.hB
   replace hx0 := (hB.cell (World.block_lt_of_cell? w _ hx0)).trans hx0
   replace hx1 := (hB.cell (World.block_lt_of_cell? w _ hx1)).trans hx1
   replace hx2 := (hB.cell (World.block_lt_of_cell? w _ hx2)).trans hx2
   replace hx3 := (hB.cell (World.block_lt_of_cell? w _ hx3)).trans hx3
   replace hx4 := (hB.cell (World.block_lt_of_cell? w _ hx4)).trans hx4
   replace hx5 := (hB.cell (World.block_lt_of_cell? w _ hx5)).trans hx5
   have hd : l0.drop i = qA3 l0 (i : Int) :: l0.drop (i + 1) := by rw [List.drop_eq_getElem_cons hlt]; simp [qA3, hlt]
   have hG := HG.out
   rw [hd] at hG
   generalize qA3 l0 (i : Int) = a at *
   simp only [qE5] at hG
   have HG1 := qA0.mk hG
   have HI5 := qA0.mk (And.intro hl5 hi5)
   have hm5 := Kd.qEI hi5
   have HS := qA0.mk (Gen.qDZ hlt hm)
   clear hG HG hd hl3 hi3 hl4 hi4 hl5 hi5 hB
   obtain ⟨wo, rfl⟩ : ∃ wo : World, wo = wr := ⟨_, rfl⟩
   generalize hWa : (wo.alloc (.cells #[.string a.f0, .int .i64 a.f1, .int .i64 a.f2, .slice A3 a.f3.length c3, .slice A4 a.f4.length c4, .slice A5 a.f5.length c5] 48)).alloc (.map #[] 0) = Wa
   have hb' : Below wo.heap.size wo (wo.alloc (.cells #[.string a.f0, .int .i64 a.f1, .int .i64 a.f2, .slice A3 a.f3.length c3, .slice A4 a.f4.length c4, .slice A5 a.f5.length c5] 48)) := qAG (Below.refl _ _) _
   have hb'' := qAG (Below.refl (wo.alloc (.cells #[.string a.f0, .int .i64 a.f1, .int .i64 a.f2, .slice A3 a.f3.length c3, .slice A4 a.f4.length c4, .slice A5 a.f5.length c5] 48)).heap.size (wo.alloc (.cells #[.string a.f0, .int .i64 a.f1, .int .i64 a.f2, .slice A3 a.f3.length c3, .slice A4 a.f4.length c4, .slice A5 a.f5.length c5] 48))) (.map #[] 0)
   have hBa : Below wo.heap.size wo Wa := by rw [← hWa]; exact qA1 hb' hb''
   have hKa : Wa.heap[wo.heap.size]? = some (.cells #[.string a.f0, .int .i64 a.f1, .int .i64 a.f2, .slice A3 a.f3.length c3, .slice A4 a.f4.length c4, .slice A5 a.f5.length c5] 48 (0, 0)) := by rw [← hWa]; exact qAN (heap_alloc_new _ _) (qB4 hb'' none) (by simp)
   have hNa : Names Wa (wo.heap.size + 1) [] := by
    have h := Names.made (wo.alloc (.cells #[.string a.f0, .int .i64 a.f1, .int .i64 a.f2, .slice A3 a.f3.length c3, .slice A4 a.f4.length c4, .slice A5 a.f5.length c5] 48))
    rw [← hWa]
    rwa [show (wo.alloc (.cells #[.string a.f0, .int .i64 a.f1, .int .i64 a.f2, .slice A3 a.f3.length c3, .slice A4 a.f4.length c4, .slice A5 a.f5.length c5] 48)).heap.size = wo.heap.size + 1 from by simp] at h
   have hza : wo.heap.size + 1 < Wa.heap.size := hNa.lt
   have hwo : W2.heap.size + 1 < wo.heap.size := Gen.qBH HCI.out.box
   have HWa := qA0.mk hWa
   have HCa := qA0.mk (HCI.out.keep hBa)
   have HKa := qA0.mk hKa
   have HNa := qA0.mk hNa
   have hk5 : Wa.cell? ⟨wo.heap.size, 5, none⟩ = some (.slice A5 a.f5.length c5) := (qA4 hKa 5).trans rfl
   clear hWa hb' hb'' hBa hKa hNa HCI
   go_wp2_with fail
   rw [HWa.out]
   clear HWa hx0 hx1 hx2 hx3 hx4 hx5 hk5
   go_loopw [6, 44] (fun v6 v44 wx => ∃ (j : Nat) (L : List ByteArray) (R' : Refs) (O' : qFB), j ≤ a.f5.length ∧ v44 = .int .i64 (j : Int) ∧ qA0 (∃ p, chk_in l0 a.f0 (a.f5.drop j) L R' O' = some p ∧ (if p.1 ≠ 0 then some p else qE5 l0 (l0.drop (i + 1)) p.2.1 p.2.2).bind (chk_k1 l0) = some r) ∧ qA0 (CI w wx W2.heap.size (W2.heap.size + 1) v6 R' O') ∧ qA0 (Names wx (wo.heap.size + 1) L) ∧ qA0 (wx.heap[wo.heap.size]? = some (.cells #[.string a.f0, .int .i64 a.f1, .int .i64 a.f2, .slice A3 a.f3.length c3, .slice A4 a.f4.length c4, .slice A5 a.f5.length c5] 48 (0, 0)))) (fun _ v44 _ => a.f5.length - (RowKit.intOf v44).toNat)
   case atStart =>
    obtain ⟨q, hq, hK⟩ := Option.bind_eq_some_iff.mp HG1.out
    obtain ⟨p, hp, hF⟩ := Option.bind_eq_some_iff.mp hq
    exact ⟨0, [], R, O, by omega, rfl, ⟨⟨p, by simpa using hp, Option.bind_eq_some_iff.mpr ⟨q, hF, hK⟩⟩⟩, HCa, HNa, HKa⟩
   case round =>
    clear HG1 HCa HNa HKa
    obtain ⟨j, L, R', O', hj, rfl, HG2, HC2, HN2, HK2⟩ := hrel
    by_cases hjl : j < a.f5.length
    ·obtain ⟨ad5, B2, d2, B3, d3, B4, d4, e5, y0, y1, y2, y3, y4, y5, hl2, hi2, hl3, hi3, hl4, hi4⟩ := at_T54 HI5.out.2 (j : Int) (by omega) (by omega)
     cases e5
     simp only [Int.toNat_natCast] at y0 y1 y2 y3 y4 y5
     have hB := HC2.out.hB
     replace y0 := (hB.cell (World.block_lt_of_cell? w _ y0)).trans y0
     replace y1 := (hB.cell (World.block_lt_of_cell? w _ y1)).trans y1
     replace y2 := (hB.cell (World.block_lt_of_cell? w _ y2)).trans y2
     replace y3 := (hB.cell (World.block_lt_of_cell? w _ y3)).trans y3
     replace y4 := (hB.cell (World.block_lt_of_cell? w _ y4)).trans y4
     replace y5 := (hB.cell (World.block_lt_of_cell? w _ y5)).trans y5
     have hd : a.f5.drop j = qAY a.f5 (j : Int) :: a.f5.drop (j + 1) := by rw [List.drop_eq_getElem_cons hjl]; simp [qAY, hjl]
     obtain ⟨p, hp, hK⟩ := HG2.out
     rw [hd] at hp
     generalize qAY a.f5 (j : Int) = x at hp y0 y1 y2 y3 y4 y5 hl2 hi2 hl3 hi3 hl4 hi4
     simp only [chk_in] at hp
     by_cases hg : L.length < 1000000 ∧ R'.length < 1000000 ∧ O'.length < 1000000 ∧ a.f0.size ≤ maxLen ∧ x.f0.size ≤ maxLen
     case neg => rw [if_neg hg] at hp; cases hp
     rw [if_pos hg] at hp
     obtain ⟨g1, g2, g3, g4, g5⟩ := hg
     have HP := qA0.mk hp
     have HK := qA0.mk hK
     have HI2 := qA0.mk (And.intro hl2 hi2)
     have HI3 := qA0.mk (And.intro hl3 hi3)
     have HI4 := qA0.mk (And.intro hl4 hi4)
     have HS2 := qA0.mk (Gen.qDZ hjl hm5)
     clear hp hK HG2 hd hB hl2 hi2 hl3 hi3 hl4 hi4
     obtain ⟨wi, rfl⟩ : ∃ wi : World, wi = wr := ⟨_, rfl⟩
     obtain ⟨v6, rfl⟩ : ∃ v6 : Value, v6 = u6 := ⟨_, rfl⟩
     generalize hW5 : wi.alloc (.cells #[.string x.f0, .string x.f1, .slice B2 x.f2.length d2, .slice B3 x.f3.length d3, .slice B4 x.f4.length d4, .int .i64 x.f5] 54) = W5
     have hB5 : Below wi.heap.size wi W5 := by rw [← hW5]; exact qAG (Below.refl _ _) _
     have hK5 : W5.heap[wi.heap.size]? = some (.cells #[.string x.f0, .string x.f1, .slice B2 x.f2.length d2, .slice B3 x.f3.length d3, .slice B4 x.f4.length d4, .int .i64 x.f5] 54 (0, 0)) := by rw [← hW5]; exact heap_alloc_new _ _
     have hwi : wo.heap.size + 1 < wi.heap.size := HN2.out.lt
     have hz5 : W5.heap.size = wi.heap.size + 1 := by rw [← hW5]; simp
     have HW5 := qA0.mk hW5
     have HC5 := qA0.mk (HC2.out.keep hB5)
     have HN5 := qA0.mk (HN2.out.below hB5)
     have HKa5 := qA0.mk (qAN HK2.out (qB4 hB5 none) (by simp))
     have HK5 := qA0.mk hK5
     clear hW5 hB5 hK5 HC2 HN2 HK2
     go_wp2_with fail
     rw [HW5.out]
     refine (names_add.walk (wo.heap.size + 1) L x.f0 W5 HN5.out (by simp only [maxLen]; omega)).mono ?_
     rintro e W6 ⟨rfl, hn, hg6⟩
     have HK6 := qA0.mk (qAN HK5.out hg6 (by simp; omega))
     have HKa6 := qA0.mk (qAN HKa5.out hg6 (by simp))
     have HC6 := qA0.mk (HC5.out.grown HN5.out (by omega) (by omega) hg6)
     have hz6 := hg6.size
     have HN6 := qA0.mk hn
     clear hn hg6 HK5 HKa5 HC5 HN5 HW5 y0 y1 y2 y3 y4 y5
     generalize addR L x.f0 = e3 at *
     by_cases c3 : e3 = 0
     case neg =>
      have hr : r = e3 := by
       have h := HP.out
       rw [if_pos c3] at h
       obtain rfl := Option.some.inj h
       have h := HK.out
       rw [if_pos (by simpa using c3), Option.bind_some] at h
       simp only [chk_k1] at h
       rw [if_pos (by simpa using c3)] at h
       exact (Option.some.inj h).symm
      subst hr
      have c3b : (r != 0) = true := bne_iff_ne.mpr c3
      clear c3
      go_wp2_with fail
      go_ret
      exact ⟨rfl, HC6.out.hB⟩
     subst c3
     rw [if_pos rfl] at HN6
     obtain ⟨e4, h6, h7⟩ := Option.bind_eq_some_iff.mp (by have := HP.out; rwa [if_neg (by simp)] at this)
     obtain ⟨k4, h6⟩ := Gen.lim_some h6
     have H6 := qA0.mk h6
     have H7 := qA0.mk h7
     clear h6 h7 HP
     have z0 := (qA4 HK6.out 0).trans rfl
     have z1 := (qA4 HK6.out 1).trans rfl
     have z2 := (qA4 HK6.out 2).trans rfl
     have z3 := (qA4 HK6.out 3).trans rfl
     have z4 := (qA4 HK6.out 4).trans rfl
     have z5 := (qA4 HK6.out 5).trans rfl
     go_wp2_with fail
     refine (qBB.calls k4 (some ad) c0 l0 x.f0 x.f1 B2 d2 x.f2 B3 d3 x.f3 B4 d4 x.f4 x.f5 e4 W6 (Kd.qAQ HR.out HC6.out.hB) HC.out (Kd.qAQ HI2.out.2 HC6.out.hB) HI2.out.1 (Kd.qAQ HI3.out.2 HC6.out.hB) HI3.out.1 (Kd.qAQ HI4.out.2 HC6.out.hB) HI4.out.1 H6.out).mono ?_
     rintro e W7 ⟨rfl, hb7⟩
     have HC7 := qA0.mk (HC6.out.keep hb7)
     have HN7 := qA0.mk (HN6.out.below hb7)
     have HK7 := qA0.mk (qAN HK6.out (qB4 hb7 none) (by simp))
     have HKa7 := qA0.mk (qAN HKa6.out (qB4 hb7 none) (by simp))
     have hz7 := hb7.size
     clear hb7 HC6 HN6 HK6 HKa6 z0 z1 z2 z3 z4 z5
     by_cases c4 : e4 = 0
     case neg =>
      have hr : r = e4 := by
       have h := H7.out
       rw [if_pos c4] at h
       obtain rfl := Option.some.inj h
       have h := HK.out
       rw [if_pos (by simpa using c4), Option.bind_some] at h
       simp only [chk_k1] at h
       rw [if_pos (by simpa using c4)] at h
       exact (Option.some.inj h).symm
      subst hr
      have c4b : (r != 0) = true := bne_iff_ne.mpr c4
      clear c4
      go_wp2_with fail
      go_ret
      exact ⟨rfl, HC7.out.hB⟩
     subst c4
     have HGn := qA0.mk (show ∃ p, chk_in l0 a.f0 (a.f5.drop (j + 1)) (x.f0 :: L) (R' ++ [⟨a.f0, x.f0⟩]) ((⟨a.f0, x.f0⟩, x.f4) :: O') = some p ∧ (if p.1 ≠ 0 then some p else qE5 l0 (l0.drop (i + 1)) p.2.1 p.2.2).bind (chk_k1 l0) = some r from ⟨p, by have := H7.out; rwa [if_neg (by simp)] at this, HK.out⟩)
     clear H7 HK
     generalize hW8 : W7.alloc (.cells #[.string a.f0, .string x.f0] 58) = W8
     have hB8 : Below W7.heap.size W7 W8 := by rw [← hW8]; exact qAG (Below.refl _ _) _
     have hz8 : W8.heap.size = W7.heap.size + 1 := by rw [← hW8]; simp
     have kr8 : W8.heap[W7.heap.size]? = some (.cells #[.string a.f0, .string x.f0] 58 (0, 0)) := by rw [← hW8]; exact heap_alloc_new _ _
     have HC8 := (HC7.out.keep hB8)
     have HN8 := qA0.mk (HN7.out.below hB8)
     have kx8 := qAN HK7.out (qB4 hB8 none) (by simp)
     have ka8 := qAN HKa7.out (qB4 hB8 none) (by simp)
     have kb8 := HC8.box
     have HW8 := qA0.mk hW8
     have za := (qA4 HKa7.out 0).trans rfl
     have zx := (qA4 HK7.out 0).trans rfl
     have hv6 : ∀ k, v6.ownBlock = some k → k < W7.heap.size ∧ ∃ cells, W8.heap[k]? = some (.cells cells 58 (0, 0)) := fun k hk => by
      obtain ⟨_, cells, hc⟩ := qEK HC7.out.row hk
      exact ⟨Gen.qBH hc, cells, (hB8.block k (Gen.qBH hc)).trans hc⟩
     clear hW8 HC7 HN7
     obtain ⟨WD, hWD⟩ : ∃ WD, WD = W8.drew := ⟨_, rfl⟩
     have hDh : WD.heap = W8.heap := by rw [hWD]; rfl
     obtain ⟨WA, hWA⟩ : ∃ WA, WA = (W8.alloc (.cells #[.string a.f0, .string x.f0] 58)).drew := ⟨_, rfl⟩
     have hgA : W8.grownBy WA none := by rw [hWA]; exact (World.grownBy_alloc W8 _ none).trans (⟨rfl, rfl, rfl, Nat.le_refl _, fun _ _ _ => rfl⟩)
     have hzA : WA.heap.size = W8.heap.size + 1 := by rw [hWA]; simp
     have hAn : WA.heap[W8.heap.size]? = some (.cells #[.string a.f0, .string x.f0] 58 (0, 0)) := by rw [hWA]; exact heap_alloc_new W8 _
     have rowA : WA.ownsRow w.heap.size 58 2 v6 R'.length (R'.flatMap qC3.enc) := qE2 HC8.row (fun k hk => hgA.block k (by have := (hv6 k hk).1; omega) (by simp))
     obtain ⟨v1, W9, hr1, o1, gr1, bl1⟩ := refs_app WA w.heap.size v6 R' rowA W8.heap.size ⟨a.f0, x.f0⟩ hAn (by have := HC8.hB.size; omega) (by omega)
     have hz9 := gr1.size
     have far9 : ∀ k, k < W8.heap.size → some k ≠ v6.ownBlock → W9.heap[k]? = W8.heap[k]? := fun k hk h0 => (gr1.block k (by omega) h0).trans (hgA.block k hk (by simp))
     have neT : ∀ {k : Nat} {cs : Array Value} {t : TypeId}, W8.heap[k]? = some (.cells cs t (0, 0)) → t ≠ 58 → some k ≠ v6.ownBlock := fun hk ht e => by
      obtain ⟨_, cells, hc⟩ := hv6 _ e.symm
      have := hk.symm.trans hc
      simp only [Option.some.injEq, Obj.cells.injEq] at this
      exact ht this.2.1
     obtain ⟨es, cl, hbm⟩ := HC8.om.blk
     have hbmlt : W2.heap.size < W8.heap.size := Gen.qBH hbm
     have neM : some W2.heap.size ≠ v6.ownBlock := fun e => by
      obtain ⟨_, cells, hc⟩ := hv6 _ e.symm
      rw [hbm] at hc; cases hc
     have neR : some W7.heap.size ≠ v6.ownBlock := fun e => by have := (hv6 _ e.symm).1; omega
     obtain ⟨W10, hup, hom10, gr2⟩ := (HC8.om.at_ (far9 _ hbmlt neM)).put (by simp only [maxLen]; omega) (r := ⟨a.f0, x.f0⟩) ⟨g4, g5⟩ HI4.out.1 HI4.out.2
     replace hup : (Instr.mapUpdate 42 (.map (some W2.heap.size)) (.agg #[.string a.f0, .string x.f0]) (.slice B4 x.f4.length d4)).run Try.prog W9 = .ok () W10 := hup
     have far10 : ∀ k, k < W8.heap.size → some k ≠ v6.ownBlock → k ≠ W2.heap.size → W10.heap[k]? = W8.heap[k]? := fun k hk h0 h1 => (gr2.block k (by omega) (fun e => h1 (Option.some.inj e))).trans (far9 k hk h0)
     have b10 : W10.heap[W2.heap.size + 1]? = some (.cells #[.map (some W2.heap.size)] 42 (0, 0)) := (far10 _ (Gen.qBH kb8) (neT kb8 (by decide)) (by omega)).trans kb8
     have b9 := (far9 _ (Gen.qBH kb8) (neT kb8 (by decide))).trans kb8
     have bA := qAN kb8 hgA (by simp)
     have x10 := (far10 _ (Gen.qBH kx8) (neT kx8 (by decide)) (by omega)).trans kx8
     have x9 := (far9 _ (Gen.qBH kx8) (neT kx8 (by decide))).trans kx8
     have xA := qAN kx8 hgA (by simp)
     have r10 := (far10 _ (Gen.qBH kr8) neR (by omega)).trans kr8
     have r9 := (far9 _ (Gen.qBH kr8) neR).trans kr8
     have rA := qAN kr8 hgA (by simp)
     have a10 := (far10 _ (Gen.qBH ka8) (neT ka8 (by decide)) (by omega)).trans ka8
     have HKa10 := qA0.mk a10
     have HN10 : qA0 (Names W10 (wo.heap.size + 1) (x.f0 :: L)) := ⟨by
      obtain ⟨n, D, hn, ⟨es, cl, hb, F, hs, hD⟩, at_⟩ := HN8.out.own
      have h0 : some (wo.heap.size + 1) ≠ v6.ownBlock := fun e => by
       obtain ⟨_, cells, hc⟩ := hv6 _ e.symm
       rw [hb] at hc; cases hc
      exact ⟨n, D, hn, ⟨es, cl, (far10 _ (Gen.qBH hb) h0 (by omega)).trans hb, F, hs, hD⟩, at_⟩⟩
     have HCI10 : qA0 (CI w W10 W2.heap.size (W2.heap.size + 1) v1 (R' ++ [⟨a.f0, x.f0⟩]) ((⟨a.f0, x.f0⟩, x.f4) :: O')) := ⟨by
      have s1 := qBN HC8.hB none HC8.hB.size hgA (fun k e => by cases e)
      have s2 := qBN s1 v6.ownBlock s1.size gr1 (fun k e => (qEK HC8.row e).1)
      have s3 := qBN s2 (some W2.heap.size) s2.size gr2 (fun k e => by obtain rfl := Option.some.inj e; exact hw2)
      refine ⟨s3, hom10, b10, qE2 o1 (fun k hk => ?_)⟩
      obtain ⟨_, cells, hc⟩ := qEK o1 hk
      refine gr2.block k (Gen.qBH hc) (fun e => ?_)
      obtain rfl := Option.some.inj e
      rw [(far9 _ hbmlt neM).trans hbm] at hc
      cases hc⟩
     rw [hz8] at hr1
     have HR1 := qA0.mk hr1
     have sD : W8.drew.cell? ⟨W2.heap.size + 1, 0, none⟩ = some (.map (some W2.heap.size)) ∧ W8.drew.cell? ⟨W7.heap.size, 0, none⟩ = some (.string a.f0) ∧ W8.drew.cell? ⟨W7.heap.size, 1, none⟩ = some (.string x.f0) ∧ W8.drew.cell? ⟨wi.heap.size, 4, none⟩ = some (.slice B4 x.f4.length d4) := ⟨(qA4 (w := W8.drew) kb8 0).trans rfl, (qA4 (w := W8.drew) kr8 0).trans rfl, (qA4 (w := W8.drew) kr8 1).trans rfl, (qA4 (w := W8.drew) kx8 4).trans rfl⟩
     have sA : WA.cell? ⟨W2.heap.size + 1, 0, none⟩ = some (.map (some W2.heap.size)) ∧ WA.cell? ⟨W7.heap.size, 0, none⟩ = some (.string a.f0) ∧ WA.cell? ⟨W7.heap.size, 1, none⟩ = some (.string x.f0) ∧ WA.cell? ⟨wi.heap.size, 4, none⟩ = some (.slice B4 x.f4.length d4) := ⟨(qA4 bA 0).trans rfl, (qA4 rA 0).trans rfl, (qA4 rA 1).trans rfl, (qA4 xA 4).trans rfl⟩
     have s9 : W9.cell? ⟨W2.heap.size + 1, 0, none⟩ = some (.map (some W2.heap.size)) ∧ W9.cell? ⟨W7.heap.size, 0, none⟩ = some (.string a.f0) ∧ W9.cell? ⟨W7.heap.size, 1, none⟩ = some (.string x.f0) ∧ W9.cell? ⟨wi.heap.size, 4, none⟩ = some (.slice B4 x.f4.length d4) := ⟨(qA4 b9 0).trans rfl, (qA4 r9 0).trans rfl, (qA4 r9 1).trans rfl, (qA4 x9 4).trans rfl⟩
     have s10 : W10.cell? ⟨W2.heap.size + 1, 0, none⟩ = some (.map (some W2.heap.size)) ∧ W10.cell? ⟨W7.heap.size, 0, none⟩ = some (.string a.f0) ∧ W10.cell? ⟨W7.heap.size, 1, none⟩ = some (.string x.f0) ∧ W10.cell? ⟨wi.heap.size, 4, none⟩ = some (.slice B4 x.f4.length d4) := ⟨(qA4 b10 0).trans rfl, (qA4 r10 0).trans rfl, (qA4 r10 1).trans rfl, (qA4 x10 4).trans rfl⟩
     rw [hWA] at HR1 sA
     clear hr1 hWD hDh hgA hzA hAn rowA o1 gr1 bl1 hz9 far9 neT hbm neM neR hom10 gr2 far10 b10 b9 bA x10 x9 xA r10 r9 rA a10 hv6 kr8 kx8 ka8 kb8 HC8 hB8 HN8 hWA WD
     go_wp2_with fail
     rw [HW8.out]
     go_region_held3 (fun w' => w'.cell? ⟨W2.heap.size + 1, 0, none⟩ = some (.map (some W2.heap.size)) ∧ w'.cell? ⟨W7.heap.size, 0, none⟩ = some (.string a.f0) ∧ w'.cell? ⟨W7.heap.size, 1, none⟩ = some (.string x.f0) ∧ w'.cell? ⟨wi.heap.size, 4, none⟩ = some (.slice B4 x.f4.length d4))
      (first | (with_reducible exact sD) | (with_reducible exact sA) | (with_reducible exact s9) | (with_reducible exact s10) | go_keep)
      (first | (refine step_app rfl _ _ 43 rfl rfl v6 (.slice (some ⟨W7.heap.size + 1, 0, none⟩) 1 1) rfl rfl HR1.out ?_))
     have hs := HS2.out
     clear sD sA s9 s10 hup za zx
     go_wp2_with fail
     go_roundw
     case rel => exact ⟨j + 1, x.f0 :: L, R' ++ [⟨a.f0, x.f0⟩], (⟨a.f0, x.f0⟩, x.f4) :: O', by omega, by first | rfl | (simp; done) | rw [Int.natCast_add]; rfl, HGn, HCI10, HN10, HKa10⟩
     case measure => simp [RowKit.intOf]; omega
    ·obtain rfl : j = a.f5.length := by omega
     obtain ⟨p, hp, hK⟩ := HG2.out
     rw [List.drop_length] at hp
     simp only [chk_in] at hp
     obtain rfl := Option.some.inj hp
     have HG3 := qA0.mk (by simpa using hK : (qE5 l0 (l0.drop (i + 1)) R' O').bind (chk_k1 l0) = some r)
     have hs := HS.out
     clear HG2 hp hK hj
     go_wp2_with fail
     go_roundw
     case rel => exact ⟨i + 1, R', O', by omega, by first | rfl | (simp; done) | rw [Int.natCast_add]; rfl, HG3, HC2⟩
     case measure => simp [RowKit.intOf]; omega
  ·obtain rfl : i = l0.length := by omega
   have HG1 := qA0.mk (by have := HG.out; rw [List.drop_length] at this; simpa [qE5, chk_k1] using this : (qD8 l0 l0).bind (chk_k2 l0 R O) = some r)
   clear HG hi
   obtain ⟨v6, rfl⟩ : ∃ v6 : Value, v6 = u6 := ⟨_, rfl⟩
   go_wp2_with fail
   go_loopw [78] (fun v78 wx => ∃ (i : Nat), i ≤ l0.length ∧ v78 = .int .i64 (i : Int) ∧ qA0 ((qD8 l0 (l0.drop i)).bind (chk_k2 l0 R O) = some r) ∧ qA0 (CI w wx W2.heap.size (W2.heap.size + 1) v6 R O)) (fun v78 _ => l0.length - (RowKit.intOf v78).toNat)
   case atStart => exact ⟨0, by omega, rfl, ⟨by simpa using HG1.out⟩, HCI⟩
   case round =>
    clear HG1 HCI
    obtain ⟨i, hi, rfl, HG, HCI⟩ := hrel
    by_cases hlt2 : i < l0.length
    ·obtain ⟨ad, A3, c3, A4, c4, A5, c5, e0, hx0, hx1, hx2, hx3, hx4, hx5, hl3, hi3, hl4, hi4, hl5, hi5⟩ := qEM HR.out (i : Int) (by omega) (by omega)
     cases e0
     simp only [Int.toNat_natCast] at hx0 hx1 hx2 hx3 hx4 hx5
     have hB := HCI.out.hB
     replace hx0 := (hB.cell (World.block_lt_of_cell? w _ hx0)).trans hx0
     replace hx1 := (hB.cell (World.block_lt_of_cell? w _ hx1)).trans hx1
     replace hx2 := (hB.cell (World.block_lt_of_cell? w _ hx2)).trans hx2
     replace hx3 := (hB.cell (World.block_lt_of_cell? w _ hx3)).trans hx3
     replace hx4 := (hB.cell (World.block_lt_of_cell? w _ hx4)).trans hx4
     replace hx5 := (hB.cell (World.block_lt_of_cell? w _ hx5)).trans hx5
     have hd : l0.drop i = qA3 l0 (i : Int) :: l0.drop (i + 1) := by rw [List.drop_eq_getElem_cons hlt2]; simp [qA3, hlt2]
     have hG := HG.out
     rw [hd] at hG
     generalize qA3 l0 (i : Int) = a at *
     simp only [qD8] at hG
     obtain ⟨q, hq, hK⟩ := Option.bind_eq_some_iff.mp hG
     obtain ⟨p, hp, hF⟩ := Option.bind_eq_some_iff.mp hq
     have HG1 := qA0.mk (show ∃ e, qEF l0 a.f0 (a.f5.drop 0) = some e ∧ (if e ≠ 0 then some e else qD8 l0 (l0.drop (i + 1))).bind (chk_k2 l0 R O) = some r from ⟨p, by simpa using hp, Option.bind_eq_some_iff.mpr ⟨q, hF, hK⟩⟩)
     have HI5 := qA0.mk (And.intro hl5 hi5)
     have hm5 := Kd.qEI hi5
     have HS := qA0.mk (Gen.qDZ hlt2 hm)
     clear hG HG hd hl3 hi3 hl4 hi4 hl5 hi5 hB hq hp hF hK
     obtain ⟨wo, rfl⟩ : ∃ wo : World, wo = wr := ⟨_, rfl⟩
     generalize hWa : wo.alloc (.cells #[.string a.f0, .int .i64 a.f1, .int .i64 a.f2, .slice A3 a.f3.length c3, .slice A4 a.f4.length c4, .slice A5 a.f5.length c5] 48) = Wa
     have hBa : Below wo.heap.size wo Wa := by rw [← hWa]; exact qAG (Below.refl _ _) _
     have hKa : Wa.heap[wo.heap.size]? = some (.cells #[.string a.f0, .int .i64 a.f1, .int .i64 a.f2, .slice A3 a.f3.length c3, .slice A4 a.f4.length c4, .slice A5 a.f5.length c5] 48 (0, 0)) := by rw [← hWa]; exact heap_alloc_new _ _
     have HWa := qA0.mk hWa
     have HCa := qA0.mk (HCI.out.keep hBa)
     have HKa := qA0.mk hKa
     have hk5 : Wa.cell? ⟨wo.heap.size, 5, none⟩ = some (.slice A5 a.f5.length c5) := (qA4 hKa 5).trans rfl
     clear hWa hBa hKa HCI
     go_wp2_with fail
     rw [HWa.out]
     clear HWa hx0 hx1 hx2 hx3 hx4 hx5 hk5
     go_loopw [85] (fun v85 wx => ∃ (j : Nat), j ≤ a.f5.length ∧ v85 = .int .i64 (j : Int) ∧ qA0 (∃ e, qEF l0 a.f0 (a.f5.drop j) = some e ∧ (if e ≠ 0 then some e else qD8 l0 (l0.drop (i + 1))).bind (chk_k2 l0 R O) = some r) ∧ qA0 (CI w wx W2.heap.size (W2.heap.size + 1) v6 R O) ∧ qA0 (wx.heap[wo.heap.size]? = some (.cells #[.string a.f0, .int .i64 a.f1, .int .i64 a.f2, .slice A3 a.f3.length c3, .slice A4 a.f4.length c4, .slice A5 a.f5.length c5] 48 (0, 0)))) (fun v85 _ => a.f5.length - (RowKit.intOf v85).toNat)
     case atStart => exact ⟨0, by omega, rfl, HG1, HCa, HKa⟩
     case round =>
      clear HG1 HCa HKa
      obtain ⟨j, hj, rfl, HG2, HC2, HK2⟩ := hrel
      by_cases hjl : j < a.f5.length
      ·obtain ⟨ad5, B2, d2, B3, d3, B4, d4, e5, y0, y1, y2, y3, y4, y5, hl2, hi2, hl3, hi3, hl4, hi4⟩ := at_T54 HI5.out.2 (j : Int) (by omega) (by omega)
       cases e5
       simp only [Int.toNat_natCast] at y0 y1 y2 y3 y4 y5
       have hB := HC2.out.hB
       replace y0 := (hB.cell (World.block_lt_of_cell? w _ y0)).trans y0
       replace y1 := (hB.cell (World.block_lt_of_cell? w _ y1)).trans y1
       replace y2 := (hB.cell (World.block_lt_of_cell? w _ y2)).trans y2
       replace y3 := (hB.cell (World.block_lt_of_cell? w _ y3)).trans y3
       replace y4 := (hB.cell (World.block_lt_of_cell? w _ y4)).trans y4
       replace y5 := (hB.cell (World.block_lt_of_cell? w _ y5)).trans y5
       have hd : a.f5.drop j = qAY a.f5 (j : Int) :: a.f5.drop (j + 1) := by rw [List.drop_eq_getElem_cons hjl]; simp [qAY, hjl]
       obtain ⟨p, hp, hK⟩ := HG2.out
       rw [hd] at hp
       generalize qAY a.f5 (j : Int) = x at hp y0 y1 y2 y3 y4 y5 hl2 hi2 hl3 hi3 hl4 hi4
       simp only [qEF] at hp
       obtain ⟨e6, h6, h7⟩ := Option.bind_eq_some_iff.mp hp
       obtain ⟨k6, h6⟩ := Gen.lim_some h6
       have H6 := qA0.mk h6
       have H7 := qA0.mk h7
       have HK := qA0.mk hK
       have HI2 := qA0.mk (And.intro hl2 hi2)
       have HI3 := qA0.mk (And.intro hl3 hi3)
       have HI4 := qA0.mk (And.intro hl4 hi4)
       have HS2 := qA0.mk (Gen.qDZ hjl hm5)
       clear hp hK HG2 hd hB hl2 hi2 hl3 hi3 hl4 hi4 h6 h7
       obtain ⟨wi, rfl⟩ : ∃ wi : World, wi = wr := ⟨_, rfl⟩
       generalize hW5 : wi.alloc (.cells #[.string x.f0, .string x.f1, .slice B2 x.f2.length d2, .slice B3 x.f3.length d3, .slice B4 x.f4.length d4, .int .i64 x.f5] 54) = W5
       have hB5 : Below wi.heap.size wi W5 := by rw [← hW5]; exact qAG (Below.refl _ _) _
       have hK5 : W5.heap[wi.heap.size]? = some (.cells #[.string x.f0, .string x.f1, .slice B2 x.f2.length d2, .slice B3 x.f3.length d3, .slice B4 x.f4.length d4, .int .i64 x.f5] 54 (0, 0)) := by rw [← hW5]; exact heap_alloc_new _ _
       have HW5 := qA0.mk hW5
       have HC5 := qA0.mk (HC2.out.keep hB5)
       have hKa5 := qAN HK2.out (qB4 hB5 none) (by simp)
       have z0 := (qA4 hK5 0).trans rfl
       have z1 := (qA4 hK5 1).trans rfl
       have z2 := (qA4 hK5 2).trans rfl
       have z3 := (qA4 hK5 3).trans rfl
       have z4 := (qA4 hK5 4).trans rfl
       have z5 := (qA4 hK5 5).trans rfl
       have za : (wi.alloc (.cells #[.string x.f0, .string x.f1, .slice B2 x.f2.length d2, .slice B3 x.f3.length d3, .slice B4 x.f4.length d4, .int .i64 x.f5] 54)).cell? ⟨wo.heap.size, 0, none⟩ = some (.string a.f0) := by rw [hW5]; exact (qA4 hKa5 0).trans rfl
       have HKa5 := qA0.mk hKa5
       clear hW5 hB5 hK5 HC2 HK2 hKa5
       go_wp2_with fail
       rw [HW5.out]
       clear y0 y1 y2 y3 y4 y5
       refine (qBA.calls k6 (some ad) c0 l0 a.f0 x.f0 x.f0 x.f1 B2 d2 x.f2 B3 d3 x.f3 B4 d4 x.f4 x.f5 e6 W5 (Kd.qAQ HR.out HC5.out.hB) HC.out (Kd.qAQ HI2.out.2 HC5.out.hB) HI2.out.1 (Kd.qAQ HI3.out.2 HC5.out.hB) HI3.out.1 (Kd.qAQ HI4.out.2 HC5.out.hB) HI4.out.1 H6.out).mono ?_
       rintro e W7 ⟨rfl, hb7⟩
       have HC7 := qA0.mk (HC5.out.keep hb7)
       have HKa7 := qA0.mk (qAN HKa5.out (qB4 hb7 none) (by simp))
       clear hb7 HC5 HKa5 z0 z1 z2 z3 z4 z5 za HW5
       by_cases c4 : e6 = 0
       case neg =>
        have hr : r = e6 := by
         have h := H7.out
         rw [if_pos c4] at h
         obtain rfl := Option.some.inj h
         have h := HK.out
         rw [if_pos c4, Option.bind_some] at h
         simp only [chk_k2] at h
         rw [if_pos c4] at h
         exact (Option.some.inj h).symm
        subst hr
        have c4b : (r != 0) = true := bne_iff_ne.mpr c4
        clear c4
        go_wp2_with fail
        go_ret
        exact ⟨rfl, HC7.out.hB⟩
       subst c4
       have HGn := qA0.mk (show ∃ e, qEF l0 a.f0 (a.f5.drop (j + 1)) = some e ∧ (if e ≠ 0 then some e else qD8 l0 (l0.drop (i + 1))).bind (chk_k2 l0 R O) = some r from ⟨p, by have := H7.out; rwa [if_neg (by simp)] at this, HK.out⟩)
       clear H7 HK
       have hs := HS2.out
       go_wp2_with fail
       go_roundw
       case rel => exact ⟨j + 1, by omega, by first | rfl | (simp; done) | rw [Int.natCast_add]; rfl, HGn, HC7, HKa7⟩
       case measure => simp [RowKit.intOf]; omega
      ·obtain rfl : j = a.f5.length := by omega
       obtain ⟨p, hp, hK⟩ := HG2.out
       rw [List.drop_length] at hp
       simp only [qEF] at hp
       obtain rfl := Option.some.inj hp
       have HG3 := qA0.mk (by simpa using hK : (qD8 l0 (l0.drop (i + 1))).bind (chk_k2 l0 R O) = some r)
       have hs := HS.out
       clear HG2 hp hK hj
       go_wp2_with fail
       go_roundw
       case rel => exact ⟨i + 1, by omega, by first | rfl | (simp; done) | rw [Int.natCast_add]; rfl, HG3, HC2⟩
       case measure => simp [RowKit.intOf]; omega
    ·obtain rfl : i = l0.length := by omega
     have HE := qA0.mk (by have := HG.out; rw [List.drop_length] at this; simpa [qD8, chk_k2] using this : chk_end l0 R O = some r)
     clear HG hi
     obtain ⟨wq, rfl⟩ : ∃ wq : World, wq = wr := ⟨_, rfl⟩
     have hE := HE.out
     unfold chk_end at hE
     by_cases g1 : (∀ x, x ∈ allRefs R O → x.f0.size ≤ maxLen ∧ x.f1.size ≤ maxLen) ∧ 2 * (allRefs R O).length < maxLen
     case neg => rw [if_neg g1] at hE; cases hE
     rw [if_pos g1] at hE
     have HE2 := qA0.mk hE
     obtain ⟨Ar, cr, hv6, hcr, hCr⟩ := Kd.R_reads (d := k58) (e := 58) (w := wq) (base := w.heap.size) (ok := fun _ => True) (v := v6) (xs := R) ⟨fun _ _ => trivial, _, HCI.out.row, Gen.flat_reps _ qC3.enc 2 (fun _ => rfl) R (fun p => k58_mkM _ _ _ p)⟩
     subst hv6
     have X : qCV.Ctx wq (lookO O) (allRefs R O) ⟨W2.heap.size + 1, 0, none⟩ := ⟨fun x y hy => List.mem_append.2 (.inr (lookO_mem hy)), g1.1, fun W hW x hx => by
      have k := HCI.out.keep hW
      exact next1 k.om ((qA4 k.box 0).trans rfl) k.hB (g1.1 x hx)⟩
     have hS0 := qCV.search Ar cr R wq (lookO O) (allRefs R O) ⟨W2.heap.size + 1, 0, none⟩ hCr hcr X (fun x hx => List.mem_append.2 (.inl hx)) g1.2
     obtain ⟨bb, hbb, hS1⟩ : ∃ bb : Bool, (bb = true ↔ ∃ x, x ∈ R ∧ Dfs.Cyc (lookO O) x) ∧ Calls Try.prog 16 #[.slice Ar (List.length R) cr, .func (.func 17) #[] #[.pointer (some ⟨W2.heap.size + 1, 0, none⟩)]] wq fun e w' => e = .returned (.bool bb) ∧ Below wq.heap.size wq w' := by
      refine ⟨_, ?_, hS0⟩
      open Classical in exact decide_eq_true_iff
     clear hS0
     have HS1 := qA0.mk hS1
     have HBB := qA0.mk hbb
     clear hE HE X hCr g1 hS1 hbb
     go_wp2_with fail
     refine HS1.out.mono ?_
     rintro e Wc ⟨rfl, hbc⟩
     have HCc := qA0.mk (HCI.out.keep hbc)
     clear hbc HCI HS1
     cases bb
     case true =>
      have q1 := HBB.out.1 rfl
      have hr : r = 10 := by have := HE2.out; rw [if_pos q1] at this; exact (Option.some.inj this).symm
      subst hr
      clear q1
      go_wp2_with fail
      go_ret
      exact ⟨rfl, HCc.out.hB⟩
     have q1 : ¬ ∃ x, x ∈ R ∧ Dfs.Cyc (lookO O) x := fun h => by have := HBB.out.2 h; cases this
     obtain ⟨P, hP, hL⟩ := Option.bind_eq_some_iff.mp (by have := HE2.out; rwa [if_neg q1] at this)
     have HPl := qA0.mk hP
     unfold chk_last at hL
     by_cases g2 : (∀ s, s ∈ qEH P → s.size ≤ maxLen) ∧ 2 * (qEH P).length < maxLen ∧ P.length < 1000000
     case neg => rw [if_neg g2] at hL; cases hL
     rw [if_pos g2] at hL
     have HL := qA0.mk hL
     have HG2 := qA0.mk g2
     clear q1 hP hL g2 HE2
     go_wp2_with fail
     refine (qCH.walk A0 c0 l0 P Wc (Kd.qAQ HR.out HCc.out.hB) HC.out HPl.out).mono ?_
     rintro e Wl ⟨g, rfl, hlm⟩
     have HBw := qA0.mk (qA1 HCc.out.hB hlm.below)
     generalize hWq : Wl.alloc (.cells #[.map (some Wc.heap.size)] 62) = Wq
     have hBq : Below Wl.heap.size Wl Wq := by rw [← hWq]; exact qAG (Below.refl _ _) _
     have hxq : Wq.heap[Wl.heap.size]? = some (.cells #[.map (some Wc.heap.size)] 62 (0, 0)) := by rw [← hWq]; exact heap_alloc_new _ _
     have HLM := qA0.mk (hlm.keep hBq)
     have HWq := qA0.mk hWq
     have HXq := qA0.mk hxq
     have hzq : Wl.heap.size < Wq.heap.size := by rw [← hWq]; simp
     have hzc : Wc.heap.size < Wl.heap.size := by obtain ⟨_, _, hb⟩ := hlm.blk; exact Gen.qBH hb
     have HBw2 := qA0.mk (qA1 HBw.out hBq)
     obtain ⟨nn, D, hnn, own, at_⟩ := HLM.out.own
     obtain ⟨W3, hrg3, hra, hgr3, hsz3⟩ := own.range keyed9 Try.underlying62
     have hB3 : Below Wq.heap.size Wq W3 := ⟨hgr3.os, hgr3.tape, hgr3.output, hgr3.size, fun k hk => hgr3.block k hk (by simp)⟩
     have hcnt : Maps.size D ≤ nn := own.size_le
     have hkx : Wq.cell? ⟨Wl.heap.size, 0, none⟩ = some (.map (some Wc.heap.size)) := (qA4 hxq 0).trans rfl
     have hzq' : Wq.heap.size = Wl.heap.size + 1 := by rw [← hWq]; simp
     replace hrg3 : (Instr.range 62 (.map (some Wc.heap.size))).run Try.prog (Wl.alloc (.cells #[.map (some Wc.heap.size)] 62)) = .ok (.pointer (some ⟨Wl.heap.size + 1, 0, none⟩)) W3 := by rw [hWq, ← hzq']; exact hrg3
     rw [hzq'] at hra
     have HT := qA0.mk (And.intro hra (And.intro hB3 (show Wl.heap.size + 1 + 1 ≤ W3.heap.size by omega)))
     have HAt := qA0.mk at_
     have HZQ := qA0.mk hzq'
     have HN1 := qA0.mk (show Maps.size D ≤ P.length from Nat.le_trans hcnt hnn)
     clear hWq hBq hlm hra hgr3 hxq own at_ hB3 HCc HPl hzq' hsz3 hcnt hnn hkx
     go_wp2_with fail
     clear hrg3 HWq
     go_loopw [21] (fun v21 wx => ∃ (left : Lit → Bool) (cnt : Nat) (done : List ByteArray), qA0 (wx.ranges Try.prog 9 sliR Wc.heap.size (Wl.heap.size + 1) nn D left cnt ∧ (∀ s : ByteArray, s.size ≤ maxLen → (left (.string s.data.toList) = true ↔ (s ∈ P.map (·.1) ∧ s ∉ done))) ∧ (∀ s ∈ done, s ∈ P.map (·.1)) ∧
      wx.ownsRow (Wl.heap.size + 1 + 1) 9 1 v21 done.length (encs Value.string done) ∧ Below Wq.heap.size Wq wx ∧ Wl.heap.size + 1 + 1 ≤ wx.heap.size ∧ done.length + cnt ≤ P.length)) (fun _ wx => wx.rangeLeft Wc.heap.size (Wl.heap.size + 1))
     case atStart =>
      obtain ⟨hra, hB3, hz⟩ := HT.out
      refine ⟨_, _, [], ⟨hra, fun s hs => ?_, (fun s h => by cases h), World.ownsRow_nil _ _ _ _, hB3, hz, by simpa using HN1.out⟩⟩
      have h1 := fun zd => HAt.out s zd hs
      by_cases e : s ∈ P.map (·.1)
      ·have : Maps.has D (.string s.data.toList) = true := Maps.has_true_of_atKey (y := encV (g s)) (fun z => by rw [h1, if_pos e])
       simp [this, e]
      ·have : Maps.has D (.string s.data.toList) = false := Maps.has_false_of_atKey (fun z => by rw [h1, if_neg e])
       simp [this, e]
     case round =>
      clear HT
      obtain ⟨wx, rfl⟩ : ∃ wx : World, wx = wr := ⟨_, rfl⟩
      obtain ⟨left, cnt, done, HRg⟩ := hrel
      obtain ⟨hra, hleft, hin, hown, hB, hz, hcnt⟩ := HRg.out
      rcases hra.next keyed9 0 with ⟨hc0, hl0, hrun⟩ | ⟨key, v, kl, y, W5, cnt5, hkey, hlk, hR5, hat5, hrun, hra5, hlt5, hgr5, hsz5, hen⟩
      ·have hall : ∀ s, s ∈ P.map (·.1) → s ∈ done := fun s hs => Decidable.byContradiction fun hn => by
        have hsz : s.size ≤ maxLen := by
         obtain ⟨p, hp, rfl⟩ := List.mem_map.1 hs
         exact HG2.out.1 _ (List.mem_flatMap.2 ⟨p, hp, List.mem_cons_self ..⟩)
        have := (hleft s hsz).2 ⟨hs, hn⟩
        rw [hl0] at this
        cases this
       have hiff : (∃ x, x ∈ done ∧ Dfs.Cyc (qED P) x) ↔ ∃ s, s ∈ P.map (·.1) ∧ Dfs.Cyc (qED P) s := ⟨fun ⟨x, hx, hc⟩ => ⟨x, hin x hx, hc⟩, fun ⟨x, hx, hc⟩ => ⟨x, hall x hx, hc⟩⟩
       have hxw : wx.heap[Wl.heap.size]? = some (.cells #[.map (some Wc.heap.size)] 62 (0, 0)) := (hB.block _ (by have := HZQ.out; omega)).trans HXq.out
       obtain ⟨Ar2, cr2, hv21, hcr2, hCr2⟩ := Kd.R_reads (Kd.R_of_own (h1 := fun _ => rfl) hown (ok := fun _ => True) (fun _ _ => trivial))
       have hkey : ∀ x, x ∈ done → x ∈ qEH P := fun x hx => by
        obtain ⟨p, hp, rfl⟩ := List.mem_map.1 (hin x hx)
        exact List.mem_flatMap.2 ⟨p, hp, List.mem_cons_self ..⟩
       have X2 : qCX.Ctx wx (qED P) (qEH P) ⟨Wl.heap.size, 0, none⟩ := ⟨fun x y hy => lookN_mem hy, HG2.out.1, fun W hW x hx => next2 ((HLM.out.keep hB).keep hW) ((qA4 (qAN hxw (qB4 hW none) (by simp)) 0).trans rfl) (HG2.out.1 x hx)⟩
       have hS0 := qCX.search Ar2 cr2 done wx (qED P) (qEH P) ⟨Wl.heap.size, 0, none⟩ hCr2 hcr2 X2 hkey HG2.out.2.1
       obtain ⟨bb, hbb, hS1⟩ : ∃ bb : Bool, (bb = true ↔ ∃ x, x ∈ done ∧ Dfs.Cyc (qED P) x) ∧ Calls Try.prog 19 #[.slice Ar2 done.length cr2, .func (.func 20) #[] #[.pointer (some ⟨Wl.heap.size, 0, none⟩)]] wx fun e w' => e = .returned (.bool bb) ∧ Below wx.heap.size wx w' := by
        refine ⟨_, ?_, hS0⟩
        open Classical in exact decide_eq_true_iff
       have HS2 := qA0.mk hS1
       have HBB2 := qA0.mk (hbb.trans hiff)
       have HBx := qA0.mk (qA1 HBw2.out hB)
       clear hS0 hS1 hbb X2 hCr2 hkey hxw hiff hall hl0 hc0 hown hB hra hleft hin
       subst hv21
       go_wp2_with fail
       refine HS2.out.mono ?_
       rintro e Wz ⟨rfl, hbz⟩
       have HBz := qA0.mk (qA1 HBx.out hbz)
       clear hbz
       cases bb
       case true =>
        have q2 := HBB2.out.1 rfl
        have hr : r = 10 := by have := HL.out; rw [if_pos q2] at this; exact (Option.some.inj this).symm
        subst hr
        clear q2
        go_wp2_with fail
        go_ret
        exact ⟨rfl, HBz.out⟩
       case false =>
        have q2 : ¬ ∃ s, s ∈ P.map (·.1) ∧ Dfs.Cyc (qED P) s := fun h => by have := HBB2.out.2 h; cases this
        have hr : r = 0 := by have := HL.out; rw [if_neg q2] at this; exact (Option.some.inj this).symm
        subst hr
        clear q2
        go_wp2_with fail
        go_ret
        exact ⟨rfl, HBz.out⟩
      ·obtain ⟨s, rfl, rfl, hss⟩ := key9_inv hkey
       obtain ⟨hs1, hs2⟩ := (hleft s hss).1 hlk
       generalize hW6 : W5.alloc (.cells #[.string s] 9) = W6
       have hz6 : W6.heap.size = W5.heap.size + 1 := by rw [← hW6]; simp
       have hB56 : Below W5.heap.size W5 W6 := by rw [← hW6]; exact qAG (Below.refl _ _) _
       have hu : W6.ownsRow W5.heap.size 9 1 (.slice (some ⟨W5.heap.size, 0, none⟩) 1 1) 1 (encs Value.string [s]) := by
        rw [← hW6]
        exact own_lit_of (enc := Value.string) W5 W5.heap.size 9 [s] (Nat.le_refl _) (by simp)
       have hge : ∀ k, u21.ownBlock = some k → Wl.heap.size + 1 + 1 ≤ k ∧ k < wx.heap.size := fun k hk => by
        obtain ⟨h1, cells, hc⟩ := qD1 hown hk
        exact ⟨h1, Gen.qBH hc⟩
       have hown6 : W6.ownsRow (Wl.heap.size + 1 + 1) 9 1 u21 done.length (encs Value.string done) := qE2 hown (fun k hk => by
        obtain ⟨h1, h2⟩ := hge k hk
        rw [hB56.block k (by omega), hgr5.block k h2 (by simp; omega)])
       obtain ⟨v1, W7, hr7, o7, gr7, bl7⟩ := looks_app W6 (Wl.heap.size + 1 + 1) W5.heap.size u21 (.slice (some ⟨W5.heap.size, 0, none⟩) 1 1) done [s] hown6 hu (by omega) (by have := HG2.out.2.2; simp; omega)
       have hz7 := gr7.size
       have hbW : Wc.heap.size < wx.heap.size := hra.owns.lt
       have hrng := (hra5.alloc (.cells #[.string s] 9))
       rw [hW6] at hrng
       have hrng7 := hrng.kept gr7 (fun e => by have := (hge _ e.symm).1; omega) (fun e => by have := (hge _ e.symm).1; omega)
       have hB7 : Below Wq.heap.size Wq W7 := by
        have hzq := HZQ.out
        have s1 := qBN hB (some (Wl.heap.size + 1)) hB.size hgr5 (fun k e => by obtain rfl := Option.some.inj e; omega)
        have s2 := qBN s1 none s1.size (qB4 hB56 none) (fun k e => by cases e)
        exact qBN s2 u21.ownBlock s2.size gr7 (fun k e => by have := (hge k e).1; omega)
       rw [← hW6] at hr7
       have HR7 := qA0.mk hr7
       have HF := qA0.mk (And.intro hrng7 (And.intro o7 (And.intro hB7 (show Wl.heap.size + 1 + 1 ≤ W7.heap.size by omega))))
       have HM := qA0.mk (show W7.rangeLeft Wc.heap.size (Wl.heap.size + 1) < wx.rangeLeft Wc.heap.size (Wl.heap.size + 1) from by rw [hrng7.left_eq, hra.left_eq]; exact hlt5)
       have HLf := qA0.mk (And.intro hleft (And.intro hin (And.intro hs1 (And.intro hs2 (show done.length + 1 + cnt5 ≤ P.length by omega)))))
       clear hr7 hrng hrng7 o7 gr7 bl7 hu hown6 hge hown hB hra hra5 hleft hin hlt5 hgr5 hB56 hz6 hz7 hW6 hB7 hs1 hs2 hat5 hR5 hkey hlk hsz5
       go_wp2_with (at_builtin; (refine wp_app rfl _ _ 64 rfl rfl u21 (.slice (some ⟨W5.heap.size, 0, none⟩) 1 1) rfl rfl HR7.out ?_))
       obtain ⟨f1, f2, f3, f4⟩ := HF.out
       obtain ⟨m1, m2, m3, m4, m5⟩ := HLf.out
       refine ⟨⟨_, cnt5, done ++ [s], ⟨f1, fun x hx => ?_, fun x hx => ?_, f2, f3, f4, by simp; omega⟩⟩, HM.out⟩
       ·by_cases e : x = s
        ·subst e
         simp [WideAt.sameKey_self (show WideAt.IsKeyLit (.string x.data.toList) from trivial)]
        ·rw [Maps.sameKey_ne (show (Lit.string x.data.toList) ≠ Lit.string s.data.toList from fun e2 => e (str_inj (by injection e2)))]
         simp [m1 x hx, e]
       ·rcases List.mem_append.1 hx with h | h
        ·exact m2 x h
        ·rw [show x = s from by simpa using h]; exact m3
end
end Go.Proofs.Ytnliaialemfcaaa.PRateFinds
end
section
namespace Go.Proofs.Ytnliaialemfcaaa.PRateFinds
noncomputable section
open Go.RowKit Go.Proofs.YtnliaialemfcaaaW.PrintWords Go.Proofs.YtnliaialemfcaaaW.PrintLast Go.Proofs.YtnliaialemfcaaaW.PrintMore
def qBM.l0 : Nat → List (S25) → List (S80) → Int → Int → ByteArray → ByteArray → Int → Int → Option ((List (S25)))
 | 0, _, _, _, _, _, _, _, _ => none
 | k + 1, x0, x9, x10, x11, x395000, x395001, x395002, x395003 => if x11 < x10 then (if 0 ≤ x11 then (if x11 < (x9.length : Int) then (if ((qA2 x9 x11).f0) = 0 then (if ((qA2 x9 x11).f2) = 1 then (qBM.l0 k x0 x9 x10 (wrap64 (x11 + 1)) x395000 x395001 x395002 x395003) else (if x0.length < 2932031007402 then (qBM.l0 k (x0 ++ [(⟨x395000, x395001, x395002, x11⟩ : S25)]) x9 x10 (wrap64 (x11 + 1)) x395000 x395001 x395002 x11) else (none))) else (qBM.l0 k x0 x9 x10 (wrap64 (x11 + 1)) x395000 x395001 x395002 x395003)) else (none)) else (none)) else (some x0)
def qBM.f (k : Nat) (l0 : List (S25)) (a1_0 : ByteArray) (a1_1 : ByteArray) (a1_2 : Int) (a1_3 : Int) (l2 : List (S80)) : Option ((List (S25))) := qBM.l0 k l0 l2 (l2.length : Int) 0 a1_0 a1_1 a1_2 a1_3
set_option maxHeartbeats 8000000 in
set_option maxRecDepth 100000 in
theorem qBM.calls (k : Nat) (P0_ : Nat → Prop) (u9000_ : Value) (l0 : List (S25)) (a1_0 : ByteArray) (a1_1 : ByteArray) (a1_2 : Int) (a1_3 : Int) (A2 : Option Addr) (c2 : Nat) (l2 : List (S80)) (r : List (S25)) (w0 w : World) (hB : Below w0.heap.size w0 w) (ho0 : Kd.R k25 25 w w0.heap.size P0_ u9000_ l0) (hr2 : ∀ W_, Kept w W_ (fun k_ => P0_ k_) → Kd.C k80 W_ A2 l2.length l2) (hc2 : l2.length ≤ c2) (h : qBM.f k l0 a1_0 a1_1 a1_2 a1_3 l2 = some r) :
  Calls Try.prog 21 #[u9000_, .agg #[.string a1_0, .string a1_1, .int .i64 a1_2, .int .i64 a1_3], .slice A2 l2.length c2] w fun e w' => ∃ v0_ : Value, e = .returned (v0_) ∧ Kd.R k25 25 w' w0.heap.size (fun k_ => (P0_ k_ ∨ w.heap.size ≤ k_)) v0_ r ∧ Below w0.heap.size w0 w' ∧ Kept w w' (fun k_ => P0_ k_) := by
 have hu25 := Try.underlying25
 have hu80 := Try.underlying80
 have HO0 := qA0.mk (show Kd.R k25 25 w w0.heap.size (fun k_ => (P0_ k_ ∨ w.heap.size ≤ k_)) u9000_ l0 from Kd.qB6 ho0 (fun k_ hk => (.inl hk)))
 have HR2 := qA0.mk hr2
 have HC2 := qA0.mk hc2
 clear hr2 hc2
 have HK := qA0.mk (Kept.refl w (fun k_ => P0_ k_))
 have HW0 := qA0.mk hB.size
 have HB := qA0.mk hB
 clear hB
 have H : (qBM.l0 k l0 l2 (l2.length : Int) 0 a1_0 a1_1 a1_2 a1_3) = some r := h
 clear h
 have H' := qA0.mk H
 clear H
 go_enter Try.func21, Try.ntmps21
 go_wp2_with (((with_reducible refine qAC (N := 4) rfl ?_); refine qAD ?hg (N := 4) ?hd (cs := #[.string a1_0, .string a1_1, .int .i64 a1_2, .int .i64 a1_3]) (t := 25) ?hr ?_; (case hd => rfl); (case hg => rfl); (case hr => first | (go_simp; done) | (go_simp; rfl)); intro gb394 hg w4 hbox hb; have BK394 := qA0.mk (hbox); have GW394 := qA0.mk ((by rw [hg]; exact (by first | exact HK.out.1 | exact (show Kept w _ (fun k_ => P0_ k_) from by repeat (first | (with_reducible first | exact HK.out | apply Kept.alloc | apply Kept.drewN | apply Kept.drew) | exact HK.out)).1) : w.heap.size ≤ gb394)); have GE394 := zg w0 gb394; replace HO0 := qA0.mk (Kd.qBC (Kd.R_elderB (by (with_reducible repeat refine sR ?_); exact HO0.out) gb394 (Nat.le_of_eq hg.symm)) hb); replace HK := qA0.mk (Kept.below (S := (fun k_ => P0_ k_)) (by repeat (first | (with_reducible first | exact HK.out | apply Kept.alloc | apply Kept.drewN | apply Kept.drew) | exact HK.out)) hb); replace HB := qA0.mk (qA1 zb hb); clear hb hbox hg))
 go_loopg [0, 11] k (fun kq v0 v11 w' => ∃ (x0_1 : List (S25)) (x11_1 : Int) (x395003_1 : Int), v11 = .int .i64 x11_1 ∧ qA0 (qBM.l0 kq x0_1 l2 (l2.length : Int) x11_1 a1_0 a1_1 a1_2 x395003_1 = some r) ∧ qA0 (kq ≤ k) ∧ qA0 (Kd.R k25 25 w' w0.heap.size (fun k_ => (P0_ k_ ∨ w.heap.size ≤ k_) ∧ k_ ≠ gb394) v0 x0_1) ∧ qA0 (w'.heap[gb394]? = some (.cells #[.string a1_0, .string a1_1, .int .i64 a1_2, .int .i64 x395003_1] 25 (0, 0))) ∧ qA0 (Kept w w' (fun k_ => P0_ k_)) ∧ qA0 (Below w0.heap.size w0 w'))
 case atStart => exact ⟨(l0), (0), (a1_3), zs, H', ⟨Nat.le_refl _⟩, zR HO0, ⟨zk BK394⟩, ⟨by repeat (first | (with_reducible first | exact HK.out | apply Kept.alloc | apply Kept.drewN | apply Kept.drew | refine Kept.setCell ?_ (.inr GW394.out) _) | exact HK.out)⟩, ⟨zb⟩⟩
 case round =>
  clear H'
  obtain ⟨x0_1, x11_1, x395003_1, rfl, HA, HK1, HO_0, BK394, HK, HB⟩ := hrel
  cases gk with
  | zero => exact absurd HA.out (by simp [qBM.l0])
  | succ k1 =>
   have H := HA.out
   clear HA
   simp only [qBM.l0] at H
   by_cases c5 : x11_1 < (l2.length : Int)
   ·rw [if_pos c5] at H
    have c5b0 := decide_eq_true c5
    clear c5
    by_cases c6 : 0 ≤ x11_1
    ·rw [if_pos c6] at H
     have c6b0 := decide_eq_true c6
     clear c6
     by_cases c7 : x11_1 < (l2.length : Int)
     ·rw [if_pos c7] at H
      have c7b0 := decide_eq_true c7
      clear c7
      by_cases c8 : ((qA2 l2 x11_1).f0) = 0
      ·rw [if_pos c8] at H
       have ⟨c8b0, c8b1⟩ := ze c8
       clear c8
       by_cases c9 : ((qA2 l2 x11_1).f2) = 1
       ·rw [if_pos c9] at H
        have ⟨c9b0, c9b1⟩ := ze c9
        clear c9
        have H' := qA0.mk H
        clear H
        have p395 : 0 ≤ (x11_1 : Int) := zd
        have q395 : x11_1 < (l2.length : Int) := zd
        obtain ⟨ad395, A395_1, c395_1, e395, hx395_0, hx395_1, hx395_2, hx395_3, hx395_4, hl395_1, hi395_1⟩ := at_T80 (Kd.C_kept_now HR2.out HK.out) x11_1 p395 q395
        cases e395
        have HR395_1 := qA0.mk hi395_1
        have HC395_1 := qA0.mk hl395_1
        clear hi395_1 hl395_1
        replace p395 := eq_true p395
        replace q395 := eq_true q395
        go_wp2_with (((with_reducible refine qAC (N := 8) rfl ?_); refine qAD ?hg (N := 8) ?hd (cs := #[.int .i64 0, .slice none 0 0, .int .i64 0, .int .i64 0, .string (⟨#[]⟩ : ByteArray)]) (t := 80) ?hr ?_; (case hd => rfl); (case hg => rfl); (case hr => first | (go_simp; done) | (go_simp; rfl)); intro gb396 hg w10 hbox hb; have BK396 := qA0.mk (hbox); have GW396 := qA0.mk ((by rw [hg]; exact (by first | exact HK.out.1 | exact (show Kept w _ (fun k_ => P0_ k_) from by repeat (first | (with_reducible first | exact HK.out | apply Kept.alloc | apply Kept.drewN | apply Kept.drew | refine Kept.setCell ?_ (.inr GW394.out) _) | exact HK.out)).1) : w.heap.size ≤ gb396)); have GE396 := zg w0 gb396; have NB394_396 := zl BK394 gb396; have NB396_394 := zu BK394 gb396; replace HO_0 := qA0.mk (Kd.qBC (by (with_reducible repeat refine sR ?_); exact HO_0.out) hb); replace BK394 := qA0.mk (qA5 (zk BK394) hb); replace HR395_1 := qA0.mk (Kd.qAQ (by repeat (first | (with_reducible exact HR395_1.out) | (with_reducible refine Kd.qFD ?_ _) | (with_reducible refine Kd.C_drewN ?_ _) | (with_reducible refine Kd.C_drew ?_) | exact HR395_1.out)) hb); replace HK := qA0.mk (Kept.below (S := (fun k_ => P0_ k_)) (by repeat (first | (with_reducible first | exact HK.out | apply Kept.alloc | apply Kept.drewN | apply Kept.drew | refine Kept.setCell ?_ (.inr GW394.out) _) | exact HK.out)) hb); replace HB := qA0.mk (qA1 zb hb); clear hb hbox hg; have hnb11 := NB396_394.out; have hnc11 := NB394_396.out; obtain ⟨hcz12_0, hcz12_1, hcz12_2, hcz12_3, hcz12_4, hfz12_0, hfz12_1, hfz12_2, hfz12_3, hfz12_4⟩ := bc5 BK396.out))
        go_roundg k1
        case measure => have := HK1.out; omega
        case rel => exact ⟨(x0_1), (wrap64 (x11_1 + 1)), (x395003_1), zs, H', ⟨by have := HK1.out; omega⟩, ⟨by (with_reducible repeat refine sR ?_); exact Kd.qB6 (Kd.qAS (Kd.qAS (Kd.qAS (Kd.qAS (Kd.qAS (Kd.qBZ HO_0.out BK396.out (by decide)) (fun _ hk => hk.2) _) (fun _ hk => hk.2) _) (fun _ hk => hk.2) _) (fun _ hk => hk.2) _) (fun _ hk => hk.2) _) (fun _ hk => ⟨hk.1.1, hk.1.2⟩)⟩, ⟨by refine zf_ ?_ NB394_396; refine zf_ ?_ NB394_396; refine zf_ ?_ NB394_396; refine zf_ ?_ NB394_396; refine zf_ ?_ NB394_396; (with_reducible repeat refine st ?_); exact BK394.out⟩, ⟨by repeat (first | (with_reducible first | exact HK.out | apply Kept.alloc | apply Kept.drewN | apply Kept.drew | refine Kept.setCell ?_ (.inr GW394.out) _ | refine Kept.setCell ?_ (.inr GW396.out) _) | exact HK.out)⟩, ⟨zb⟩⟩
       ·rw [if_neg c9] at H
        have ⟨c9b0, c9b1⟩ := zn c9
        by_cases c13 : x0_1.length < 2932031007402
        ·rw [if_pos c13] at H
         have LMc13 := qA0.mk c13
         clear c13
         obtain ⟨y397, hy_⟩ : ∃ y_ : List (S25), y_ = (x0_1 ++ [(⟨a1_0, a1_1, a1_2, x11_1⟩ : S25)]) := ⟨_, rfl⟩
         replace H : (qBM.l0 k1 y397 l2 (l2.length : Int) (wrap64 (x11_1 + 1)) a1_0 a1_1 a1_2 x11_1) = some r := zr
         have Ny397 := qA0.mk hy_
         clear hy_
         have H' := qA0.mk H
         clear H
         have p395 : 0 ≤ (x11_1 : Int) := zd
         have q395 : x11_1 < (l2.length : Int) := zd
         obtain ⟨ad395, A395_1, c395_1, e395, hx395_0, hx395_1, hx395_2, hx395_3, hx395_4, hl395_1, hi395_1⟩ := at_T80 (Kd.C_kept_now HR2.out HK.out) x11_1 p395 q395
         cases e395
         have HR395_1 := qA0.mk hi395_1
         have HC395_1 := qA0.mk hl395_1
         clear hi395_1 hl395_1
         replace p395 := eq_true p395
         replace q395 := eq_true q395
         go_wp2_with (first | ((with_reducible refine qAC (N := 8) rfl ?_); refine qAD ?hg (N := 8) ?hd (cs := #[.int .i64 0, .slice none 0 0, .int .i64 0, .int .i64 0, .string (⟨#[]⟩ : ByteArray)]) (t := 80) ?hr ?_; (case hd => rfl); (case hg => rfl); (case hr => first | (go_simp; done) | (go_simp; rfl)); intro gb396 hg w14 hbox hb; have BK396 := qA0.mk (hbox); have GW396 := qA0.mk ((by rw [hg]; exact (by first | exact HK.out.1 | exact (show Kept w _ (fun k_ => P0_ k_) from by repeat (first | (with_reducible first | exact HK.out | apply Kept.alloc | apply Kept.drewN | apply Kept.drew | refine Kept.setCell ?_ (.inr GW394.out) _) | exact HK.out)).1) : w.heap.size ≤ gb396)); have GE396 := zg w0 gb396; have NB394_396 := zl BK394 gb396; have NB396_394 := zu BK394 gb396; replace HO_0 := qA0.mk (Kd.qBC (by (with_reducible repeat refine sR ?_); exact HO_0.out) hb); replace BK394 := qA0.mk (qA5 (zk BK394) hb); replace HR395_1 := qA0.mk (Kd.qAQ (by repeat (first | (with_reducible exact HR395_1.out) | (with_reducible refine Kd.qFD ?_ _) | (with_reducible refine Kd.C_drewN ?_ _) | (with_reducible refine Kd.C_drew ?_) | exact HR395_1.out)) hb); replace HK := qA0.mk (Kept.below (S := (fun k_ => P0_ k_)) (by repeat (first | (with_reducible first | exact HK.out | apply Kept.alloc | apply Kept.drewN | apply Kept.drew | refine Kept.setCell ?_ (.inr GW394.out) _) | exact HK.out)) hb); replace HB := qA0.mk (qA1 zb hb); clear hb hbox hg; have hnb15 := NB396_394.out; have hnc15 := NB394_396.out; obtain ⟨hcz16_0, hcz16_1, hcz16_2, hcz16_3, hcz16_4, hfz16_0, hfz16_1, hfz16_2, hfz16_3, hfz16_4⟩ := bc5 BK396.out; obtain ⟨hcz17_0, hcz17_1, hcz17_2, hcz17_3, hfz17_0, hfz17_1, hfz17_2, hfz17_3⟩ := bc4 BK394.out) | ((with_reducible refine qDM (b := .append) (xs := #[.tmp 26, .tmp 28]) rfl ?_); at_builtin; refine Kd.R_append k25 (w0 := w0) w0.heap.size rfl (.tmp 26) (.tmp 28) 28 25 (.agg #[(.string ⟨#[]⟩), (.string ⟨#[]⟩), (.int .i64 0), (.int .i64 0)]) 48 rfl Try.underlying28 info25 rfl (by decide) (by omega) u0 x0_1 (⟨a1_0, a1_1, a1_2, x11_1⟩ : S25) [.string a1_0, .string a1_1, .int .i64 a1_2, .int .i64 x11_1] (fun k_ => (P0_ k_ ∨ w.heap.size ≤ k_) ∧ k_ ≠ gb394) (fun _ => False) rfl (by first | (go_simp; done) | (go_simp; rfl)) ?aP (fun _ hk => hk.elim) ?aF ?aO ?aB ?aS ?aL ?_; (case aP => exact k25_mkM _ _ _ (⟨a1_0, a1_1, a1_2, x11_1⟩ : S25)); (case aB => exact zb); (case aF => exact (fun k_ hk => ⟨(.inr (Nat.le_trans (show Kept w _ (fun k_ => P0_ k_) from by repeat (first | (with_reducible first | exact HK.out | apply Kept.alloc | apply Kept.drewN | apply Kept.drew | refine Kept.setCell ?_ (.inr GW394.out) _ | refine Kept.setCell ?_ (.inr GW396.out) _) | exact HK.out)).1 hk)), Kd.freshB (g := gb394) (o := .cells #[.string a1_0, .string a1_1, .int .i64 a1_2, .int .i64 x11_1] 25 (0, 0)) (by refine zp_ (cs := #[.string a1_0, .string a1_1, .int .i64 a1_2, .int .i64 x395003_1]) ?_ 3; refine zf_ ?_ NB394_396; refine zf_ ?_ NB394_396; refine zf_ ?_ NB394_396; refine zf_ ?_ NB394_396; refine zf_ ?_ NB394_396; (with_reducible repeat refine st ?_); exact BK394.out) k_ hk⟩)); (case aO => exact (by (with_reducible repeat refine sR ?_); exact Kd.qB6 (Kd.qAS (Kd.qAS (Kd.qAS (Kd.qAS (Kd.qAS (Kd.qAS (Kd.qB6 (Kd.qBZ HO_0.out BK396.out (by decide)) (fun k_ hk => (⟨hk, hk.1.2⟩ : _ ∧ k_ ≠ gb394))) (fun _ hk => hk.1.2) _) (fun _ hk => hk.1.2) _) (fun _ hk => hk.1.2) _) (fun _ hk => hk.1.2) _) (fun _ hk => hk.1.2) _) (fun _ hk => hk.2) _) (fun _ hk => ⟨hk.1.1.1, hk.1.1.2⟩))); (case aS => exact (qAM zb)); (case aL => have := LMc13.out; omega); intro v398 w18 ho hb hg hat; rw [← Ny397.out] at ho; have HO399 := qA0.mk (ho); replace BK394 := qA0.mk (qAN (g := gb394) (o := .cells #[.string a1_0, .string a1_1, .int .i64 a1_2, .int .i64 x11_1] 25 (0, 0)) (by refine zp_ (cs := #[.string a1_0, .string a1_1, .int .i64 a1_2, .int .i64 x395003_1]) ?_ 3; refine zf_ ?_ NB394_396; refine zf_ ?_ NB394_396; refine zf_ ?_ NB394_396; refine zf_ ?_ NB394_396; refine zf_ ?_ NB394_396; (with_reducible repeat refine st ?_); exact BK394.out) hg (Kd.R_away HO_0.out (fun _ hk => hk.2))); replace BK396 := qA0.mk (qAN (g := gb396) (o := .cells #[.int .i64 ((qA2 l2 x11_1).f0), .slice A395_1 ((qA2 l2 x11_1).f1).length c395_1, .int .i64 ((qA2 l2 x11_1).f2), .int .i64 ((qA2 l2 x11_1).f3), .string ((qA2 l2 x11_1).f4)] 80 (0, 0)) (by refine zf_ ?_ NB396_394; (with_reducible repeat refine st ?_); refine qAJ (cs := #[.int .i64 ((qA2 l2 x11_1).f0), .slice A395_1 ((qA2 l2 x11_1).f1).length c395_1, .int .i64 ((qA2 l2 x11_1).f2), .int .i64 ((qA2 l2 x11_1).f3), .string (⟨#[]⟩ : ByteArray)]) ?_ 4 _ rfl; (with_reducible repeat refine st ?_); refine qAJ (cs := #[.int .i64 ((qA2 l2 x11_1).f0), .slice A395_1 ((qA2 l2 x11_1).f1).length c395_1, .int .i64 ((qA2 l2 x11_1).f2), .int .i64 0, .string (⟨#[]⟩ : ByteArray)]) ?_ 3 _ rfl; (with_reducible repeat refine st ?_); refine qAJ (cs := #[.int .i64 ((qA2 l2 x11_1).f0), .slice A395_1 ((qA2 l2 x11_1).f1).length c395_1, .int .i64 0, .int .i64 0, .string (⟨#[]⟩ : ByteArray)]) ?_ 2 _ rfl; (with_reducible repeat refine st ?_); refine qAJ (cs := #[.int .i64 ((qA2 l2 x11_1).f0), .slice none 0 0, .int .i64 0, .int .i64 0, .string (⟨#[]⟩ : ByteArray)]) ?_ 1 _ rfl; (with_reducible repeat refine st ?_); refine qAJ (cs := #[.int .i64 0, .slice none 0 0, .int .i64 0, .int .i64 0, .string (⟨#[]⟩ : ByteArray)]) ?_ 0 _ rfl; (with_reducible repeat refine st ?_); exact BK396.out) hg (Kd.R_ne HO_0.out BK396.out (by decide))); replace HK := qA0.mk (Kept.of_grown (S := (fun k_ => P0_ k_)) hg (by repeat (first | (with_reducible first | exact HK.out | apply Kept.alloc | apply Kept.drewN | apply Kept.drew | refine Kept.setCell ?_ (.inr GW394.out) _ | refine Kept.setCell ?_ (.inr GW396.out) _) | exact HK.out)) (fun k_ e_ => (HO_0.out.1 k_ e_).1)); replace HB := qA0.mk (hb); clear HO_0; clear ho hb hg hat))
         go_roundg k1
         case measure => have := HK1.out; omega
         case rel => exact ⟨(y397), (wrap64 (x11_1 + 1)), (x11_1), zs, H', ⟨by have := HK1.out; omega⟩, zR HO399, ⟨zk BK394⟩, ⟨by repeat (first | (with_reducible first | exact HK.out | apply Kept.alloc | apply Kept.drewN | apply Kept.drew | refine Kept.setCell ?_ (.inr GW394.out) _ | refine Kept.setCell ?_ (.inr GW396.out) _) | exact HK.out)⟩, ⟨zb⟩⟩
        ·rw [if_neg c13] at H
         exact absurd H (by simp)
      ·rw [if_neg c8] at H
       have ⟨c8b0, c8b1⟩ := zn c8
       have H' := qA0.mk H
       clear H
       have p395 : 0 ≤ (x11_1 : Int) := zd
       have q395 : x11_1 < (l2.length : Int) := zd
       obtain ⟨ad395, A395_1, c395_1, e395, hx395_0, hx395_1, hx395_2, hx395_3, hx395_4, hl395_1, hi395_1⟩ := at_T80 (Kd.C_kept_now HR2.out HK.out) x11_1 p395 q395
       cases e395
       have HR395_1 := qA0.mk hi395_1
       have HC395_1 := qA0.mk hl395_1
       clear hi395_1 hl395_1
       replace p395 := eq_true p395
       replace q395 := eq_true q395
       go_wp2_with (((with_reducible refine qAC (N := 8) rfl ?_); refine qAD ?hg (N := 8) ?hd (cs := #[.int .i64 0, .slice none 0 0, .int .i64 0, .int .i64 0, .string (⟨#[]⟩ : ByteArray)]) (t := 80) ?hr ?_; (case hd => rfl); (case hg => rfl); (case hr => first | (go_simp; done) | (go_simp; rfl)); intro gb396 hg w19 hbox hb; have BK396 := qA0.mk (hbox); have GW396 := qA0.mk ((by rw [hg]; exact (by first | exact HK.out.1 | exact (show Kept w _ (fun k_ => P0_ k_) from by repeat (first | (with_reducible first | exact HK.out | apply Kept.alloc | apply Kept.drewN | apply Kept.drew | refine Kept.setCell ?_ (.inr GW394.out) _) | exact HK.out)).1) : w.heap.size ≤ gb396)); have GE396 := zg w0 gb396; have NB394_396 := zl BK394 gb396; have NB396_394 := zu BK394 gb396; replace HO_0 := qA0.mk (Kd.qBC (by (with_reducible repeat refine sR ?_); exact HO_0.out) hb); replace BK394 := qA0.mk (qA5 (zk BK394) hb); replace HR395_1 := qA0.mk (Kd.qAQ (by repeat (first | (with_reducible exact HR395_1.out) | (with_reducible refine Kd.qFD ?_ _) | (with_reducible refine Kd.C_drewN ?_ _) | (with_reducible refine Kd.C_drew ?_) | exact HR395_1.out)) hb); replace HK := qA0.mk (Kept.below (S := (fun k_ => P0_ k_)) (by repeat (first | (with_reducible first | exact HK.out | apply Kept.alloc | apply Kept.drewN | apply Kept.drew | refine Kept.setCell ?_ (.inr GW394.out) _) | exact HK.out)) hb); replace HB := qA0.mk (qA1 zb hb); clear hb hbox hg; have hnb20 := NB396_394.out; have hnc20 := NB394_396.out; obtain ⟨hcz21_0, hcz21_1, hcz21_2, hcz21_3, hcz21_4, hfz21_0, hfz21_1, hfz21_2, hfz21_3, hfz21_4⟩ := bc5 BK396.out))
       go_roundg k1
       case measure => have := HK1.out; omega
       case rel => exact ⟨(x0_1), (wrap64 (x11_1 + 1)), (x395003_1), zs, H', ⟨by have := HK1.out; omega⟩, ⟨by (with_reducible repeat refine sR ?_); exact Kd.qB6 (Kd.qAS (Kd.qAS (Kd.qAS (Kd.qAS (Kd.qAS (Kd.qBZ HO_0.out BK396.out (by decide)) (fun _ hk => hk.2) _) (fun _ hk => hk.2) _) (fun _ hk => hk.2) _) (fun _ hk => hk.2) _) (fun _ hk => hk.2) _) (fun _ hk => ⟨hk.1.1, hk.1.2⟩)⟩, ⟨by refine zf_ ?_ NB394_396; refine zf_ ?_ NB394_396; refine zf_ ?_ NB394_396; refine zf_ ?_ NB394_396; refine zf_ ?_ NB394_396; (with_reducible repeat refine st ?_); exact BK394.out⟩, ⟨by repeat (first | (with_reducible first | exact HK.out | apply Kept.alloc | apply Kept.drewN | apply Kept.drew | refine Kept.setCell ?_ (.inr GW394.out) _ | refine Kept.setCell ?_ (.inr GW396.out) _) | exact HK.out)⟩, ⟨zb⟩⟩
     ·rw [if_neg c7] at H
      exact absurd H (by simp)
    ·rw [if_neg c6] at H
     exact absurd H (by simp)
   ·rw [if_neg c5] at H
    have c5b0 := decide_eq_false c5
    clear c5
    obtain rfl := Option.some.inj H
    go_wp2
    go_ret
    exact ⟨_, zf, by (with_reducible repeat refine sR ?_); exact Kd.qB6 HO_0.out (fun _ hk => hk.1), by repeat (first | (with_reducible first | exact HB.out | apply qAG | apply qA8 | apply qBO | refine qDN ?_ GE394.out) | exact HB.out), by repeat (first | (with_reducible first | exact HK.out | apply Kept.alloc | apply Kept.drewN | apply Kept.drew | refine Kept.setCell ?_ (.inr GW394.out) _) | exact HK.out)⟩
mutual
def qB1.l0 : Nat → List (S25) → List (S48) → Int → Int → Option ((List (S25)) × Int)
 | 0, _, _, _, _ => none
 | k + 1, x5, x18, x19, x20 => if x20 < x19 then (if 0 ≤ x20 then (if x20 < (x18.length : Int) then (qB1.l1 k x5 x18 x19 x20 ((qA3 x18 x20).f4) (((qA3 x18 x20).f4).length : Int) 0 ((qA3 x18 x20).f0) ((qA3 x18 x20).f1) ((qA3 x18 x20).f2) ((qA3 x18 x20).f3) ((qA3 x18 x20).f4) ((qA3 x18 x20).f5)) else (none)) else (none)) else (some (x5, 0))
def qB1.l1 : Nat → List (S25) → List (S48) → Int → Int → List (S69) → Int → Int → ByteArray → Int → Int → List (S83) → List (S69) → List (S54) → Option ((List (S25)) × Int)
 | 0, _, _, _, _, _, _, _, _, _, _, _, _, _ => none
 | k + 1, x5, x18, x19, x20, x25, x26, x27, x403000, x403001, x403002, x403003, x403004, x403005 => if x27 < x26 then (if 0 ≤ x27 then (if x27 < (x25.length : Int) then (qB1.l2 k x5 x18 x19 x20 x25 x26 x27 (((qAL x25 x27).f4).length : Int) 0 x403000 x403001 x403002 x403003 x403004 x403005 ((qAL x25 x27).f0) ((qAL x25 x27).f1) ((qAL x25 x27).f2) ((qAL x25 x27).f3) ((qAL x25 x27).f4)) else (none)) else (none)) else (qB1.l3 k x5 x18 x19 x20 x403005 (x403005.length : Int) 0 x403000 x403001 x403002 x403003 x403004 x403005)
def qB1.l2 : Nat → List (S25) → List (S48) → Int → Int → List (S69) → Int → Int → Int → Int → ByteArray → Int → Int → List (S83) → List (S69) → List (S54) → ByteArray → Int → Int → Bool → List (S76) → Option ((List (S25)) × Int)
 | 0, _, _, _, _, _, _, _, _, _, _, _, _, _, _, _, _, _, _, _, _ => none
 | k + 1, x5, x18, x19, x20, x25, x26, x27, x33, x34, x403000, x403001, x403002, x403003, x403004, x403005, x405000, x405001, x405002, x405003, x405004 => if x34 < x33 then ((some (([(⟨x403000, x405000, 2, x34⟩ : S25), (⟨x403000, x405000, 3, x34⟩ : S25)] : List (S25)) : List (S25))).bind fun y405 => (if x5.length + y405.length < 2932031007402 then (qB1.l2 k (x5 ++ y405) x18 x19 x20 x25 x26 x27 x33 (wrap64 (x34 + 1)) x403000 x403001 x403002 x403003 x403004 x403005 x405000 x405001 x405002 x405003 x405004) else (none))) else (qB1.l1 k x5 x18 x19 x20 x25 x26 (wrap64 (x27 + 1)) x403000 x403001 x403002 x403003 x403004 x403005)
def qB1.l3 : Nat → List (S25) → List (S48) → Int → Int → List (S54) → Int → Int → ByteArray → Int → Int → List (S83) → List (S69) → List (S54) → Option ((List (S25)) × Int)
 | 0, _, _, _, _, _, _, _, _, _, _, _, _, _ => none
 | k + 1, x5, x18, x19, x20, x55, x56, x57, x403000, x403001, x403002, x403003, x403004, x403005 => if x57 < x56 then (if 0 ≤ x57 then (if x57 < (x55.length : Int) then ((qBM.f k x5 x403000 ((qAY x55 x57).f0) 0 0 ((qAY x55 x57).f2)).bind fun t413 => ((qBM.f k t413 x403000 ((qAY x55 x57).f0) 1 0 ((qAY x55 x57).f3)).bind fun t416 => (qB1.l3 k t416 x18 x19 x20 x55 x56 (wrap64 (x57 + 1)) x403000 x403001 x403002 x403003 x403004 x403005))) else (none)) else (none)) else (qB1.l0 k x5 x18 x19 (wrap64 (x20 + 1)))
end
def qB1.f (k : Nat) (l0 : List (S48)) : Option ((List (S25)) × Int) := (qCI.f l0).bind fun t400 => (if t400 = 0 then (qB1.l0 k ([] : List (S25)) l0 (l0.length : Int) 0) else (some (([] : List (S25)), t400)))
set_option maxHeartbeats 8000000 in
set_option maxRecDepth 100000 in
theorem qB1.calls (k : Nat) (A0 : Option Addr) (c0 : Nat) (l0 : List (S48)) (r1 : List (S25)) (r2 : Int) (w : World) (hr0 : Kd.C k48 w A0 l0.length l0) (hc0 : l0.length ≤ c0) (h : qB1.f k l0 = some (r1, r2)) :
  Calls Try.prog 5 #[.slice A0 l0.length c0] w fun e w' => ∃ v0_ : Value, e = .returned (.tuple #[v0_, .int .i64 r2]) ∧ Kd.R k25 25 w' w.heap.size (fun _ => True) v0_ r1 ∧ Below w.heap.size w w' := by
 have hu48 := Try.underlying48
 have hu69 := Try.underlying69
 have hu25 := Try.underlying25
 have hu54 := Try.underlying54
 have HR0 := qA0.mk hr0
 have HC0 := qA0.mk hc0
 clear hr0 hc0
 have HB := qA0.mk (Below.refl w.heap.size w)
 have H : ((qCI.f l0).bind fun t400 => (if t400 = 0 then (qB1.l0 k ([] : List (S25)) l0 (l0.length : Int) 0) else (some (([] : List (S25)), t400)))) = some (r1, r2) := h
 clear h
 replace H := Option.bind_eq_some_iff.mp H
 obtain ⟨t400, A20, H⟩ := H
 have A2 := qA0.mk A20
 clear A20
 by_cases c3 : t400 = 0
 ·rw [if_pos c3] at H
  have ⟨c3b0, c3b1⟩ := ze c3
  clear c3
  have H' := qA0.mk H
  clear H
  go_enter Try.func5, Try.ntmps5
  go_wp2_with (((with_reducible refine qA9 (f := 4) rfl ?_); refine qC2 (some 14) Try.func4 #[.slice A0 l0.length c0] ?_; (with_reducible refine (qCI.calls _ _ l0 t400 _ ?side1 ?side2 A2.out).mono ?_); (case side1 => repeat (first | exact HR0.out | refine sC ?_)); (case side2 => exact HC0.out); rintro e w4 ⟨rfl, hb⟩; refine ⟨_, rfl, ?_⟩; replace HB := qA0.mk (qA1 zb hb); (try clear hb); (try clear hb2); (try clear hk); (try clear hi)))
  go_loopg [5, 20] k (fun kq v5 v20 w' => ∃ (x5_1 : List (S25)) (x20_1 : Int), v20 = .int .i64 x20_1 ∧ qA0 (qB1.l0 kq x5_1 l0 (l0.length : Int) x20_1 = some (r1, r2)) ∧ qA0 (kq ≤ k) ∧ qA0 (Kd.R k25 25 w' w.heap.size (fun _ => True) v5 x5_1) ∧ qA0 (Below w.heap.size w w'))
  case atStart => exact ⟨(([] : List (S25))), (0), zs, H', ⟨Nat.le_refl _⟩, ⟨by first | exact Kd.R_nil _ _ _ _ _ | exact Kd.N_nil _ _ _ _ _ | exact Kd.V_nil _ _ _ _ _ | exact Kd.Q_nil _ _ _ _ _ | exact Kd.S_nil _ _ _ _ _⟩, ⟨zb⟩⟩
  case round =>
   clear H' c3b0 c3b1
   obtain ⟨x5_1, x20_1, rfl, HA, HK1, HO_5, HB⟩ := hrel
   cases gk with
   | zero => exact absurd HA.out (by simp [qB1.l0])
   | succ k1 =>
    have H := HA.out
    clear HA
    simp only [qB1.l0] at H
    by_cases c5 : x20_1 < (l0.length : Int)
    ·rw [if_pos c5] at H
     have c5b0 := decide_eq_true c5
     clear c5
     by_cases c6 : 0 ≤ x20_1
     ·rw [if_pos c6] at H
      have c6b0 := decide_eq_true c6
      clear c6
      by_cases c7 : x20_1 < (l0.length : Int)
      ·rw [if_pos c7] at H
       have c7b0 := decide_eq_true c7
       clear c7
       have H' := qA0.mk H
       clear H
       have p401 : 0 ≤ (x20_1 : Int) := zd
       have q401 : x20_1 < (l0.length : Int) := zd
       obtain ⟨ad401, A401_3, c401_3, A401_4, c401_4, A401_5, c401_5, e401, hx401_0, hx401_1, hx401_2, hx401_3, hx401_4, hx401_5, hl401_3, hi401_3, hl401_4, hi401_4, hl401_5, hi401_5⟩ := qEM HR0.out x20_1 p401 q401
       cases e401
       (try replace hx401_0 := zh hx401_0)
       replace hx401_1 := zh hx401_1
       replace hx401_2 := zh hx401_2
       replace hx401_3 := zh hx401_3
       replace hx401_4 := zh hx401_4
       replace hx401_5 := zh hx401_5
       have HR401_3 := qA0.mk hi401_3
       have HC401_3 := qA0.mk hl401_3
       clear hi401_3 hl401_3
       have HR401_4 := qA0.mk hi401_4
       have HC401_4 := qA0.mk hl401_4
       clear hi401_4 hl401_4
       have HR401_5 := qA0.mk hi401_5
       have HC401_5 := qA0.mk hl401_5
       clear hi401_5 hl401_5
       replace p401 := eq_true p401
       replace q401 := eq_true q401
       go_wp2_with (((with_reducible refine qAC (N := 7) rfl ?_); refine qAD ?hg (N := 7) ?hd (cs := #[.string (⟨#[]⟩ : ByteArray), .int .i64 0, .int .i64 0, .slice none 0 0, .slice none 0 0, .slice none 0 0]) (t := 48) ?hr ?_; (case hd => rfl); (case hg => rfl); (case hr => first | (go_simp; done) | (go_simp; rfl)); intro gb402 hg w8 hbox hb; have BK402 := qA0.mk (hbox); have GW402 := zg w gb402; have GE402 := zg w gb402; replace HO_5 := qA0.mk (Kd.qBC (by (with_reducible repeat refine sR ?_); exact HO_5.out) hb); replace HB := qA0.mk (qA1 zb hb); clear hb hbox hg; obtain ⟨hcz9_0, hcz9_1, hcz9_2, hcz9_3, hcz9_4, hcz9_5, hfz9_0, hfz9_1, hfz9_2, hfz9_3, hfz9_4, hfz9_5⟩ := bc6 BK402.out))
       go_loopg [5, 27] k1 (fun kq v5 v27 w' => ∃ (x5_2 : List (S25)) (x27_2 : Int), v27 = .int .i64 x27_2 ∧ qA0 (qB1.l1 kq x5_2 l0 (l0.length : Int) x20_1 ((qA3 l0 x20_1).f4) (((qA3 l0 x20_1).f4).length : Int) x27_2 ((qA3 l0 x20_1).f0) ((qA3 l0 x20_1).f1) ((qA3 l0 x20_1).f2) ((qA3 l0 x20_1).f3) ((qA3 l0 x20_1).f4) ((qA3 l0 x20_1).f5) = some (r1, r2)) ∧ qA0 (kq ≤ k1) ∧ qA0 (Kd.R k25 25 w' w.heap.size (fun _ => True) v5 x5_2) ∧ qA0 (w'.heap[gb402]? = some (.cells #[.string ((qA3 l0 x20_1).f0), .int .i64 ((qA3 l0 x20_1).f1), .int .i64 ((qA3 l0 x20_1).f2), (.slice A401_3 ((qA3 l0 x20_1).f3).length c401_3), (.slice A401_4 ((qA3 l0 x20_1).f4).length c401_4), (.slice A401_5 ((qA3 l0 x20_1).f5).length c401_5)] 48 (0, 0))) ∧ qA0 (Below w.heap.size w w'))
       case atStart => exact ⟨(x5_1), (0), zs, H', ⟨Nat.le_refl _⟩, ⟨by (with_reducible repeat refine sR ?_); exact Kd.qB6 (Kd.qAS (Kd.qAS (Kd.qAS (Kd.qAS (Kd.qAS (Kd.qAS (Kd.qBZ HO_5.out BK402.out (by decide)) (fun _ hk => hk.2) _) (fun _ hk => hk.2) _) (fun _ hk => hk.2) _) (fun _ hk => hk.2) _) (fun _ hk => hk.2) _) (fun _ hk => hk.2) _) (fun _ hk => trivial)⟩, ⟨by refine zp_ (cs := #[.string ((qA3 l0 x20_1).f0), .int .i64 ((qA3 l0 x20_1).f1), .int .i64 ((qA3 l0 x20_1).f2), .slice A401_3 ((qA3 l0 x20_1).f3).length c401_3, .slice A401_4 ((qA3 l0 x20_1).f4).length c401_4, .slice none 0 0]) ?_ 5; refine zp_ (cs := #[.string ((qA3 l0 x20_1).f0), .int .i64 ((qA3 l0 x20_1).f1), .int .i64 ((qA3 l0 x20_1).f2), .slice A401_3 ((qA3 l0 x20_1).f3).length c401_3, .slice none 0 0, .slice none 0 0]) ?_ 4; refine zp_ (cs := #[.string ((qA3 l0 x20_1).f0), .int .i64 ((qA3 l0 x20_1).f1), .int .i64 ((qA3 l0 x20_1).f2), .slice none 0 0, .slice none 0 0, .slice none 0 0]) ?_ 3; refine zp_ (cs := #[.string ((qA3 l0 x20_1).f0), .int .i64 ((qA3 l0 x20_1).f1), .int .i64 0, .slice none 0 0, .slice none 0 0, .slice none 0 0]) ?_ 2; refine zp_ (cs := #[.string ((qA3 l0 x20_1).f0), .int .i64 0, .int .i64 0, .slice none 0 0, .slice none 0 0, .slice none 0 0]) ?_ 1; (with_reducible repeat refine st ?_); refine qAJ (cs := #[.string (⟨#[]⟩ : ByteArray), .int .i64 0, .int .i64 0, .slice none 0 0, .slice none 0 0, .slice none 0 0]) ?_ 0 _ rfl; (with_reducible repeat refine st ?_); exact BK402.out⟩, ⟨zb⟩⟩
       case round =>
        clear H' c5b0 c6b0 c7b0 hcz9_0 hcz9_1 hcz9_2 hcz9_3 hcz9_4 hcz9_5 hfz9_0 hfz9_1 hfz9_2 hfz9_3 hfz9_4 hfz9_5 hx401_0 hx401_1 hx401_2 hx401_3 hx401_4 hx401_5 p401 q401
        obtain ⟨x5_2, x27_2, rfl, HA, HK2, HO_5, BK402, HB⟩ := hrel
        cases gk with
        | zero => exact absurd HA.out (by simp [qB1.l1])
        | succ k2 =>
         have H := HA.out
         clear HA
         simp only [qB1.l1] at H
         by_cases c10 : x27_2 < (((qA3 l0 x20_1).f4).length : Int)
         ·rw [if_pos c10] at H
          have c10b0 := decide_eq_true c10
          clear c10
          by_cases c11 : 0 ≤ x27_2
          ·rw [if_pos c11] at H
           have c11b0 := decide_eq_true c11
           clear c11
           by_cases c12 : x27_2 < (((qA3 l0 x20_1).f4).length : Int)
           ·rw [if_pos c12] at H
            have c12b0 := decide_eq_true c12
            clear c12
            have H' := qA0.mk H
            clear H
            have p403 : 0 ≤ (x27_2 : Int) := zd
            have q403 : x27_2 < (((qA3 l0 x20_1).f4).length : Int) := zd
            obtain ⟨ad403, A403_4, c403_4, e403, hx403_0, hx403_1, hx403_2, hx403_3, hx403_4, hl403_4, hi403_4⟩ := at_T69 HR401_4.out x27_2 p403 q403
            cases e403
            (try replace hx403_0 := zh hx403_0)
            replace hx403_1 := zh hx403_1
            replace hx403_2 := zh hx403_2
            replace hx403_3 := zh hx403_3
            replace hx403_4 := zh hx403_4
            have HR403_4 := qA0.mk hi403_4
            have HC403_4 := qA0.mk hl403_4
            clear hi403_4 hl403_4
            replace p403 := eq_true p403
            replace q403 := eq_true q403
            go_wp2_with (((with_reducible refine qAC (N := 9) rfl ?_); refine qAD ?hg (N := 9) ?hd (cs := #[.string (⟨#[]⟩ : ByteArray), .int .i64 0, .int .i64 0, .bool false, .slice none 0 0]) (t := 69) ?hr ?_; (case hd => rfl); (case hg => rfl); (case hr => first | (go_simp; done) | (go_simp; rfl)); intro gb404 hg w13 hbox hb; have BK404 := qA0.mk (hbox); have GW404 := zg w gb404; have GE404 := zg w gb404; have NB402_404 := zl BK402 gb404; have NB404_402 := zu BK402 gb404; replace HO_5 := qA0.mk (Kd.qBC (by (with_reducible repeat refine sR ?_); exact HO_5.out) hb); replace BK402 := qA0.mk (qA5 (zk BK402) hb); replace HB := qA0.mk (qA1 zb hb); clear hb hbox hg; have hnb14 := NB404_402.out; have hnc14 := NB402_404.out; obtain ⟨hcz15_0, hcz15_1, hcz15_2, hcz15_3, hcz15_4, hfz15_0, hfz15_1, hfz15_2, hfz15_3, hfz15_4⟩ := bc5 BK404.out))
            go_loopg [5, 34] k2 (fun kq v5 v34 w' => ∃ (x5_3 : List (S25)) (x34_3 : Int), v34 = .int .i64 x34_3 ∧ qA0 (qB1.l2 kq x5_3 l0 (l0.length : Int) x20_1 ((qA3 l0 x20_1).f4) (((qA3 l0 x20_1).f4).length : Int) x27_2 (((qAL ((qA3 l0 x20_1).f4) x27_2).f4).length : Int) x34_3 ((qA3 l0 x20_1).f0) ((qA3 l0 x20_1).f1) ((qA3 l0 x20_1).f2) ((qA3 l0 x20_1).f3) ((qA3 l0 x20_1).f4) ((qA3 l0 x20_1).f5) ((qAL ((qA3 l0 x20_1).f4) x27_2).f0) ((qAL ((qA3 l0 x20_1).f4) x27_2).f1) ((qAL ((qA3 l0 x20_1).f4) x27_2).f2) ((qAL ((qA3 l0 x20_1).f4) x27_2).f3) ((qAL ((qA3 l0 x20_1).f4) x27_2).f4) = some (r1, r2)) ∧ qA0 (kq ≤ k2) ∧ qA0 (Kd.R k25 25 w' w.heap.size (fun _ => True) v5 x5_3) ∧ qA0 (w'.heap[gb402]? = some (.cells #[.string ((qA3 l0 x20_1).f0), .int .i64 ((qA3 l0 x20_1).f1), .int .i64 ((qA3 l0 x20_1).f2), (.slice A401_3 ((qA3 l0 x20_1).f3).length c401_3), (.slice (some ad403) ((qA3 l0 x20_1).f4).length c401_4), (.slice A401_5 ((qA3 l0 x20_1).f5).length c401_5)] 48 (0, 0))) ∧ qA0 (w'.heap[gb404]? = some (.cells #[.string ((qAL ((qA3 l0 x20_1).f4) x27_2).f0), .int .i64 ((qAL ((qA3 l0 x20_1).f4) x27_2).f1), .int .i64 ((qAL ((qA3 l0 x20_1).f4) x27_2).f2), .bool ((qAL ((qA3 l0 x20_1).f4) x27_2).f3), (.slice A403_4 ((qAL ((qA3 l0 x20_1).f4) x27_2).f4).length c403_4)] 69 (0, 0))) ∧ qA0 (Below w.heap.size w w'))
            case atStart => exact ⟨(x5_2), (0), zs, H', ⟨Nat.le_refl _⟩, ⟨by (with_reducible repeat refine sR ?_); exact Kd.qB6 (Kd.qAS (Kd.qAS (Kd.qAS (Kd.qAS (Kd.qAS (Kd.qBZ HO_5.out BK404.out (by decide)) (fun _ hk => hk.2) _) (fun _ hk => hk.2) _) (fun _ hk => hk.2) _) (fun _ hk => hk.2) _) (fun _ hk => hk.2) _) (fun _ hk => trivial)⟩, ⟨by refine zf_ ?_ NB402_404; refine zf_ ?_ NB402_404; refine zf_ ?_ NB402_404; refine zf_ ?_ NB402_404; refine zf_ ?_ NB402_404; (with_reducible repeat refine st ?_); exact BK402.out⟩, ⟨by refine zp_ (cs := #[.string ((qAL ((qA3 l0 x20_1).f4) x27_2).f0), .int .i64 ((qAL ((qA3 l0 x20_1).f4) x27_2).f1), .int .i64 ((qAL ((qA3 l0 x20_1).f4) x27_2).f2), .bool ((qAL ((qA3 l0 x20_1).f4) x27_2).f3), .slice none 0 0]) ?_ 4; refine zp_ (cs := #[.string ((qAL ((qA3 l0 x20_1).f4) x27_2).f0), .int .i64 ((qAL ((qA3 l0 x20_1).f4) x27_2).f1), .int .i64 ((qAL ((qA3 l0 x20_1).f4) x27_2).f2), .bool false, .slice none 0 0]) ?_ 3; refine zp_ (cs := #[.string ((qAL ((qA3 l0 x20_1).f4) x27_2).f0), .int .i64 ((qAL ((qA3 l0 x20_1).f4) x27_2).f1), .int .i64 0, .bool false, .slice none 0 0]) ?_ 2; refine zp_ (cs := #[.string ((qAL ((qA3 l0 x20_1).f4) x27_2).f0), .int .i64 0, .int .i64 0, .bool false, .slice none 0 0]) ?_ 1; (with_reducible repeat refine st ?_); refine qAJ (cs := #[.string (⟨#[]⟩ : ByteArray), .int .i64 0, .int .i64 0, .bool false, .slice none 0 0]) ?_ 0 _ rfl; (with_reducible repeat refine st ?_); exact BK404.out⟩, ⟨zb⟩⟩
            case round =>
             clear H' c10b0 c11b0 c12b0 hcz15_0 hcz15_1 hcz15_2 hcz15_3 hcz15_4 hfz15_0 hfz15_1 hfz15_2 hfz15_3 hfz15_4 hx403_0 hx403_1 hx403_2 hx403_3 hx403_4 p403 q403
             obtain ⟨x5_3, x34_3, rfl, HA, HK3, HO_5, BK402, BK404, HB⟩ := hrel
             cases gk with
             | zero => exact absurd HA.out (by simp [qB1.l2])
             | succ k3 =>
              have H := HA.out
              clear HA
              simp only [qB1.l2] at H
              by_cases c16 : x34_3 < (((qAL ((qA3 l0 x20_1).f4) x27_2).f4).length : Int)
              ·rw [if_pos c16] at H
               have c16b0 := decide_eq_true c16
               clear c16
               obtain ⟨y405, hy_⟩ : ∃ y_ : List (S25), y_ = (([(⟨((qA3 l0 x20_1).f0), ((qAL ((qA3 l0 x20_1).f4) x27_2).f0), 2, x34_3⟩ : S25), (⟨((qA3 l0 x20_1).f0), ((qAL ((qA3 l0 x20_1).f4) x27_2).f0), 3, x34_3⟩ : S25)] : List (S25))) := ⟨_, rfl⟩
               replace H : (if x5_3.length + y405.length < 2932031007402 then (qB1.l2 k3 (x5_3 ++ y405) l0 (l0.length : Int) x20_1 ((qA3 l0 x20_1).f4) (((qA3 l0 x20_1).f4).length : Int) x27_2 (((qAL ((qA3 l0 x20_1).f4) x27_2).f4).length : Int) (wrap64 (x34_3 + 1)) ((qA3 l0 x20_1).f0) ((qA3 l0 x20_1).f1) ((qA3 l0 x20_1).f2) ((qA3 l0 x20_1).f3) ((qA3 l0 x20_1).f4) ((qA3 l0 x20_1).f5) ((qAL ((qA3 l0 x20_1).f4) x27_2).f0) ((qAL ((qA3 l0 x20_1).f4) x27_2).f1) ((qAL ((qA3 l0 x20_1).f4) x27_2).f2) ((qAL ((qA3 l0 x20_1).f4) x27_2).f3) ((qAL ((qA3 l0 x20_1).f4) x27_2).f4)) else (none)) = some (r1, r2) := zr
               have Ny405 := qA0.mk hy_
               clear hy_
               by_cases c17 : x5_3.length + y405.length < 2932031007402
               ·rw [if_pos c17] at H
                have LMc17 := qA0.mk c17
                clear c17
                obtain ⟨y408, hy_⟩ : ∃ y_ : List (S25), y_ = (x5_3 ++ y405) := ⟨_, rfl⟩
                replace H : (qB1.l2 k3 y408 l0 (l0.length : Int) x20_1 ((qA3 l0 x20_1).f4) (((qA3 l0 x20_1).f4).length : Int) x27_2 (((qAL ((qA3 l0 x20_1).f4) x27_2).f4).length : Int) (wrap64 (x34_3 + 1)) ((qA3 l0 x20_1).f0) ((qA3 l0 x20_1).f1) ((qA3 l0 x20_1).f2) ((qA3 l0 x20_1).f3) ((qA3 l0 x20_1).f4) ((qA3 l0 x20_1).f5) ((qAL ((qA3 l0 x20_1).f4) x27_2).f0) ((qAL ((qA3 l0 x20_1).f4) x27_2).f1) ((qAL ((qA3 l0 x20_1).f4) x27_2).f2) ((qAL ((qA3 l0 x20_1).f4) x27_2).f3) ((qAL ((qA3 l0 x20_1).f4) x27_2).f4)) = some (r1, r2) := zr
                have Ny408 := qA0.mk hy_
                clear hy_
                have H' := qA0.mk H
                clear H
                have hnb18 := NB402_404.out
                have hnc18 := NB404_402.out
                obtain ⟨hcz19_0, hcz19_1, hcz19_2, hcz19_3, hcz19_4, hcz19_5, hfz19_0, hfz19_1, hfz19_2, hfz19_3, hfz19_4, hfz19_5⟩ := bc6 BK402.out
                obtain ⟨hcz20_0, hcz20_1, hcz20_2, hcz20_3, hcz20_4, hfz20_0, hfz20_1, hfz20_2, hfz20_3, hfz20_4⟩ := bc5 BK404.out
                go_wp2_with (first | ((with_reducible refine qAC (N := 50) rfl ?_); refine Kd.qF5 k25 _ 25 ?hg (N := 50) ?hd (xs := ([(⟨((qA3 l0 x20_1).f0), ((qAL ((qA3 l0 x20_1).f4) x27_2).f0), 2, x34_3⟩ : S25), (⟨((qA3 l0 x20_1).f0), ((qAL ((qA3 l0 x20_1).f4) x27_2).f0), 3, x34_3⟩ : S25)] : List (S25))) (inner := [.string ((qA3 l0 x20_1).f0), .string ((qAL ((qA3 l0 x20_1).f4) x27_2).f0), .int .i64 2, .int .i64 x34_3, .string ((qA3 l0 x20_1).f0), .string ((qAL ((qA3 l0 x20_1).f4) x27_2).f0), .int .i64 3, .int .i64 x34_3]) (ok := fun _ => True) (okp := fun _ => True) ?hr ?hp (fun _ hk => hk) trivial (Below.refl _ _) (Nat.le_refl _) (by simp) ?_; (case hd => rfl); (case hg => rfl); (case hr => first | (go_simp; done) | (go_simp; rfl)); (case hp => exact (Reps.c4 (show Kd.M k25 _ _ _ (⟨((qA3 l0 x20_1).f0), ((qAL ((qA3 l0 x20_1).f4) x27_2).f0), 2, x34_3⟩ : S25) [.string ((qA3 l0 x20_1).f0), .string ((qAL ((qA3 l0 x20_1).f4) x27_2).f0), .int .i64 2, .int .i64 x34_3] from (k25_mkM _ _ _ (⟨((qA3 l0 x20_1).f0), ((qAL ((qA3 l0 x20_1).f4) x27_2).f0), 2, x34_3⟩ : S25) )) (Reps.c4 (show Kd.M k25 _ _ _ (⟨((qA3 l0 x20_1).f0), ((qAL ((qA3 l0 x20_1).f4) x27_2).f0), 3, x34_3⟩ : S25) [.string ((qA3 l0 x20_1).f0), .string ((qAL ((qA3 l0 x20_1).f4) x27_2).f0), .int .i64 3, .int .i64 x34_3] from (k25_mkM _ _ _ (⟨((qA3 l0 x20_1).f0), ((qAL ((qA3 l0 x20_1).f4) x27_2).f0), 3, x34_3⟩ : S25) )) (Reps.none _ _)))); intro v406 w21 ho22 hb hg_ hnew_; clear hg_ hnew_; (first | rw [← Ny405.out] at ho22 | (simp only [Int.reduceToNat] at ho22; rw [← Ny405.out] at ho22)); have HO407 := qA0.mk (Kd.qC9 (Kd.R_new' ho22 (Kd.R_lt (by (with_reducible repeat refine sR ?_); exact HO_5.out))) (qAM zb)); replace HO_5 := qA0.mk (Kd.qFA (by (with_reducible repeat refine sR ?_); exact HO_5.out) (Kd.qEO ho22) hb); replace BK402 := qA0.mk (qA5 (zk BK402) hb); replace BK404 := qA0.mk (qA5 (zk BK404) hb); replace HB := qA0.mk (qA1 zb hb); clear hb ho22; obtain ⟨Ao24, co24, eo24⟩ := Kd.qBW HO407.out; subst eo24) | ((with_reducible refine qDM (b := .append) (xs := #[.tmp 37, .tmp 50]) rfl ?_); at_builtin; refine Kd.R_append_rows k25 (w0 := w) w.heap.size rfl (.tmp 37) (.tmp 50) 28 25 (.agg #[(.string ⟨#[]⟩), (.string ⟨#[]⟩), (.int .i64 0), (.int .i64 0)]) 48 rfl Try.underlying28 info25 rfl (by decide) (by omega) u5 x5_3 y405 _ _ _ (fun k_ => some k_ ≠ (.slice Ao24 y405.length co24 : Value).ownBlock) (fun _ => False) rfl rfl ?aO ?aR (fun _ _ h => h) (fun _ h => h.elim) ?aF ?aB ?aS ?aL ?_; (case aR => repeat (first | exact (Kd.qAU HO407.out).2.2 | refine sC ?_)); (case aB => exact zb); (case aF => exact (fun k_ hk => Kd.fresh' (Kd.R_lt (by (with_reducible repeat refine sR ?_); exact HO407.out)) k_ hk)); (case aO => exact (by (with_reducible repeat refine sR ?_); exact Kd.qB6 HO_5.out (fun _ hk => hk.2))); (case aS => exact (qAM zb)); (case aL => have := LMc17.out; omega); intro v409 w23 ho hb hg hat; rw [← Ny408.out] at ho; have HO410 := qA0.mk (ho); replace BK402 := qA0.mk (qAN (g := gb402) (o := .cells #[.string ((qA3 l0 x20_1).f0), .int .i64 ((qA3 l0 x20_1).f1), .int .i64 ((qA3 l0 x20_1).f2), .slice A401_3 ((qA3 l0 x20_1).f3).length c401_3, .slice (some ad403) ((qA3 l0 x20_1).f4).length c401_4, .slice A401_5 ((qA3 l0 x20_1).f5).length c401_5] 48 (0, 0)) (zk BK402) hg (Kd.R_ne HO_5.out BK402.out (by decide))); replace BK404 := qA0.mk (qAN (g := gb404) (o := .cells #[.string ((qAL ((qA3 l0 x20_1).f4) x27_2).f0), .int .i64 ((qAL ((qA3 l0 x20_1).f4) x27_2).f1), .int .i64 ((qAL ((qA3 l0 x20_1).f4) x27_2).f2), .bool ((qAL ((qA3 l0 x20_1).f4) x27_2).f3), .slice A403_4 ((qAL ((qA3 l0 x20_1).f4) x27_2).f4).length c403_4] 69 (0, 0)) (zk BK404) hg (Kd.R_ne HO_5.out BK404.out (by decide))); replace HO407 := qA0.mk (Kd.R_after (ok := (fun _ => True)) (by (with_reducible repeat refine sR ?_); exact HO407.out) hg hat); replace HB := qA0.mk (hb); clear HO_5; clear ho hb hg hat))
                go_roundg k3
                case measure => have := HK1.out; have := HK2.out; have := HK3.out; omega
                case rel => exact ⟨(y408), (wrap64 (x34_3 + 1)), zs, H', ⟨by have := HK1.out; have := HK2.out; have := HK3.out; omega⟩, ⟨by (with_reducible repeat refine sR ?_); exact Kd.qB6 HO410.out (fun _ hk => trivial)⟩, ⟨zk BK402⟩, ⟨zk BK404⟩, ⟨zb⟩⟩
               ·rw [if_neg c17] at H
                exact absurd H (by simp)
              ·rw [if_neg c16] at H
               have c16b0 := decide_eq_false c16
               clear c16
               have H' := qA0.mk H
               clear H
               go_wp2
               go_roundg k3
               case measure => have := HK1.out; have := HK2.out; have := HK3.out; omega
               case rel => exact ⟨(x5_3), (wrap64 (x27_2 + 1)), zs, H', ⟨by have := HK1.out; have := HK2.out; have := HK3.out; omega⟩, zR HO_5, ⟨zk BK402⟩, ⟨zb⟩⟩
           ·rw [if_neg c12] at H
            exact absurd H (by simp)
          ·rw [if_neg c11] at H
           exact absurd H (by simp)
         ·rw [if_neg c10] at H
          have c10b0 := decide_eq_false c10
          clear c10
          have H' := qA0.mk H
          clear H
          obtain ⟨hcz25_0, hcz25_1, hcz25_2, hcz25_3, hcz25_4, hcz25_5, hfz25_0, hfz25_1, hfz25_2, hfz25_3, hfz25_4, hfz25_5⟩ := bc6 BK402.out
          go_wp2
          go_loopg [5, 57] k2 (fun kq v5 v57 w' => ∃ (x5_3 : List (S25)) (x57_3 : Int), v57 = .int .i64 x57_3 ∧ qA0 (qB1.l3 kq x5_3 l0 (l0.length : Int) x20_1 ((qA3 l0 x20_1).f5) (((qA3 l0 x20_1).f5).length : Int) x57_3 ((qA3 l0 x20_1).f0) ((qA3 l0 x20_1).f1) ((qA3 l0 x20_1).f2) ((qA3 l0 x20_1).f3) ((qA3 l0 x20_1).f4) ((qA3 l0 x20_1).f5) = some (r1, r2)) ∧ qA0 (kq ≤ k2) ∧ qA0 (Kd.R k25 25 w' w.heap.size (fun _ => True) v5 x5_3) ∧ qA0 (w'.heap[gb402]? = some (.cells #[.string ((qA3 l0 x20_1).f0), .int .i64 ((qA3 l0 x20_1).f1), .int .i64 ((qA3 l0 x20_1).f2), (.slice A401_3 ((qA3 l0 x20_1).f3).length c401_3), (.slice A401_4 ((qA3 l0 x20_1).f4).length c401_4), (.slice A401_5 ((qA3 l0 x20_1).f5).length c401_5)] 48 (0, 0))) ∧ qA0 (Below w.heap.size w w'))
          case atStart => exact ⟨(x5_2), (0), zs, H', ⟨Nat.le_refl _⟩, zR HO_5, ⟨zk BK402⟩, ⟨zb⟩⟩
          case round =>
           clear H' c10b0 hcz25_0 hcz25_1 hcz25_2 hcz25_3 hcz25_4 hcz25_5 hfz25_0 hfz25_1 hfz25_2 hfz25_3 hfz25_4 hfz25_5
           obtain ⟨x5_3, x57_3, rfl, HA, HK3, HO_5, BK402, HB⟩ := hrel
           cases gk with
           | zero => exact absurd HA.out (by simp [qB1.l3])
           | succ k3 =>
            have H := HA.out
            clear HA
            simp only [qB1.l3] at H
            by_cases c26 : x57_3 < (((qA3 l0 x20_1).f5).length : Int)
            ·rw [if_pos c26] at H
             have c26b0 := decide_eq_true c26
             clear c26
             by_cases c27 : 0 ≤ x57_3
             ·rw [if_pos c27] at H
              have c27b0 := decide_eq_true c27
              clear c27
              by_cases c28 : x57_3 < (((qA3 l0 x20_1).f5).length : Int)
              ·rw [if_pos c28] at H
               have c28b0 := decide_eq_true c28
               clear c28
               replace H := Option.bind_eq_some_iff.mp H
               obtain ⟨t413, A290, H⟩ := H
               have A29 := qA0.mk A290
               clear A290
               replace H := Option.bind_eq_some_iff.mp H
               obtain ⟨t416, A300, H⟩ := H
               have A30 := qA0.mk A300
               clear A300
               have H' := qA0.mk H
               clear H
               have p411 : 0 ≤ (x57_3 : Int) := zd
               have q411 : x57_3 < (((qA3 l0 x20_1).f5).length : Int) := zd
               obtain ⟨ad411, A411_2, c411_2, A411_3, c411_3, A411_4, c411_4, e411, hx411_0, hx411_1, hx411_2, hx411_3, hx411_4, hx411_5, hl411_2, hi411_2, hl411_3, hi411_3, hl411_4, hi411_4⟩ := at_T54 HR401_5.out x57_3 p411 q411
               cases e411
               (try replace hx411_0 := zh hx411_0)
               replace hx411_1 := zh hx411_1
               replace hx411_2 := zh hx411_2
               replace hx411_3 := zh hx411_3
               replace hx411_4 := zh hx411_4
               replace hx411_5 := zh hx411_5
               have HR411_2 := qA0.mk hi411_2
               have HC411_2 := qA0.mk hl411_2
               clear hi411_2 hl411_2
               have HR411_3 := qA0.mk hi411_3
               have HC411_3 := qA0.mk hl411_3
               clear hi411_3 hl411_3
               have HR411_4 := qA0.mk hi411_4
               have HC411_4 := qA0.mk hl411_4
               clear hi411_4 hl411_4
               replace p411 := eq_true p411
               replace q411 := eq_true q411
               go_wp2_with (first | ((with_reducible refine qAC (N := 12) rfl ?_); refine qAD ?hg (N := 12) ?hd (cs := #[.string (⟨#[]⟩ : ByteArray), .string (⟨#[]⟩ : ByteArray), .slice none 0 0, .slice none 0 0, .slice none 0 0, .int .i64 0]) (t := 54) ?hr ?_; (case hd => rfl); (case hg => rfl); (case hr => first | (go_simp; done) | (go_simp; rfl)); intro gb412 hg w31 hbox hb; have BK412 := qA0.mk (hbox); have GW412 := zg w gb412; have GE412 := zg w gb412; have NB402_412 := zl BK402 gb412; have NB412_402 := zu BK402 gb412; replace HO_5 := qA0.mk (Kd.qBC (by (with_reducible repeat refine sR ?_); exact HO_5.out) hb); replace BK402 := qA0.mk (qA5 (zk BK402) hb); replace HB := qA0.mk (qA1 zb hb); clear hb hbox hg; have hnb32 := NB412_402.out; have hnc32 := NB402_412.out; obtain ⟨hcz33_0, hcz33_1, hcz33_2, hcz33_3, hcz33_4, hcz33_5, hfz33_0, hfz33_1, hfz33_2, hfz33_3, hfz33_4, hfz33_5⟩ := bc6 BK412.out) | ((with_reducible refine qCB (t := 54) (p := 12) rfl ?_); refine qDK (t := 54) (p := 12) (v := ?vo_w34) (w1 := ((((((w31.setCell ⟨gb412, 0, none⟩ (.string ((qAY ((qA3 l0 x20_1).f5) x57_3).f0))).setCell ⟨gb412, 1, none⟩ (.string ((qAY ((qA3 l0 x20_1).f5) x57_3).f1))).setCell ⟨gb412, 2, none⟩ (.slice A411_2 ((qAY ((qA3 l0 x20_1).f5) x57_3).f2).length c411_2)).setCell ⟨gb412, 3, none⟩ (.slice A411_3 ((qAY ((qA3 l0 x20_1).f5) x57_3).f3).length c411_3)).setCell ⟨gb412, 4, none⟩ (.slice A411_4 ((qAY ((qA3 l0 x20_1).f5) x57_3).f4).length c411_4)).setCell ⟨gb412, 5, none⟩ (.int .i64 ((qAY ((qA3 l0 x20_1).f5) x57_3).f5)))) ?hg ?ho ?hn ?hr ?_; (case ho => rfl); (case hg => rfl); (case hn => rfl); (case hr => first | (go_simp; done) | (go_simp; rfl)); intro w34 hw; have n0_ : qA0 (Kd.R k25 25 w34 w.heap.size (fun _ => True) u5 x5_3) := ⟨(by rw [hw]; exact (by (with_reducible repeat refine sR ?_); exact Kd.qB6 (Kd.qAS (Kd.qAS (Kd.qAS (Kd.qAS (Kd.qAS (Kd.qAS (Kd.qBZ HO_5.out BK412.out (by decide)) (fun _ hk => hk.2) _) (fun _ hk => hk.2) _) (fun _ hk => hk.2) _) (fun _ hk => hk.2) _) (fun _ hk => hk.2) _) (fun _ hk => hk.2) _) (fun _ hk => trivial)))⟩; have n1_ : qA0 (w34.heap[gb402]? = some (.cells #[.string ((qA3 l0 x20_1).f0), .int .i64 ((qA3 l0 x20_1).f1), .int .i64 ((qA3 l0 x20_1).f2), .slice A401_3 ((qA3 l0 x20_1).f3).length c401_3, .slice A401_4 ((qA3 l0 x20_1).f4).length c401_4, .slice (some ad411) ((qA3 l0 x20_1).f5).length c401_5] 48 (0, 0))) := ⟨(by rw [hw]; exact (by refine zf_ ?_ NB402_412; refine zf_ ?_ NB402_412; refine zf_ ?_ NB402_412; refine zf_ ?_ NB402_412; refine zf_ ?_ NB402_412; refine zf_ ?_ NB402_412; (with_reducible repeat refine st ?_); exact BK402.out))⟩; have n2_ : qA0 (w34.heap[gb412]? = some (.cells #[.string ((qAY ((qA3 l0 x20_1).f5) x57_3).f0), .string ((qAY ((qA3 l0 x20_1).f5) x57_3).f1), .slice A411_2 ((qAY ((qA3 l0 x20_1).f5) x57_3).f2).length c411_2, .slice A411_3 ((qAY ((qA3 l0 x20_1).f5) x57_3).f3).length c411_3, .slice A411_4 ((qAY ((qA3 l0 x20_1).f5) x57_3).f4).length c411_4, .int .i64 ((qAY ((qA3 l0 x20_1).f5) x57_3).f5)] 54 (0, 0))) := ⟨(by rw [hw]; exact (by refine zp_ (cs := #[.string ((qAY ((qA3 l0 x20_1).f5) x57_3).f0), .string ((qAY ((qA3 l0 x20_1).f5) x57_3).f1), .slice A411_2 ((qAY ((qA3 l0 x20_1).f5) x57_3).f2).length c411_2, .slice A411_3 ((qAY ((qA3 l0 x20_1).f5) x57_3).f3).length c411_3, .slice A411_4 ((qAY ((qA3 l0 x20_1).f5) x57_3).f4).length c411_4, .int .i64 0]) ?_ 5; refine zp_ (cs := #[.string ((qAY ((qA3 l0 x20_1).f5) x57_3).f0), .string ((qAY ((qA3 l0 x20_1).f5) x57_3).f1), .slice A411_2 ((qAY ((qA3 l0 x20_1).f5) x57_3).f2).length c411_2, .slice A411_3 ((qAY ((qA3 l0 x20_1).f5) x57_3).f3).length c411_3, .slice none 0 0, .int .i64 0]) ?_ 4; refine zp_ (cs := #[.string ((qAY ((qA3 l0 x20_1).f5) x57_3).f0), .string ((qAY ((qA3 l0 x20_1).f5) x57_3).f1), .slice A411_2 ((qAY ((qA3 l0 x20_1).f5) x57_3).f2).length c411_2, .slice none 0 0, .slice none 0 0, .int .i64 0]) ?_ 3; refine zp_ (cs := #[.string ((qAY ((qA3 l0 x20_1).f5) x57_3).f0), .string ((qAY ((qA3 l0 x20_1).f5) x57_3).f1), .slice none 0 0, .slice none 0 0, .slice none 0 0, .int .i64 0]) ?_ 2; (with_reducible repeat refine st ?_); refine qAJ (cs := #[.string ((qAY ((qA3 l0 x20_1).f5) x57_3).f0), .string (⟨#[]⟩ : ByteArray), .slice none 0 0, .slice none 0 0, .slice none 0 0, .int .i64 0]) ?_ 1 _ rfl; (with_reducible repeat refine st ?_); refine qAJ (cs := #[.string (⟨#[]⟩ : ByteArray), .string (⟨#[]⟩ : ByteArray), .slice none 0 0, .slice none 0 0, .slice none 0 0, .int .i64 0]) ?_ 0 _ rfl; (with_reducible repeat refine st ?_); exact BK412.out))⟩; have n3_ : qA0 (Below w.heap.size w w34) := ⟨(by rw [hw]; exact zb)⟩; clear hw; clear HO_5; clear BK402; clear BK412; clear HB; have HO_5 := n0_; have BK402 := n1_; have BK412 := n2_; have HB := n3_; clear n0_ n1_ n2_ n3_; obtain ⟨hcz35_0, hcz35_1, hcz35_2, hcz35_3, hcz35_4, hcz35_5, hfz35_0, hfz35_1, hfz35_2, hfz35_3, hfz35_4, hfz35_5⟩ := bc6 BK402.out; obtain ⟨hcz36_0, hcz36_1, hcz36_2, hcz36_3, hcz36_4, hcz36_5, hfz36_0, hfz36_1, hfz36_2, hfz36_3, hfz36_4, hfz36_5⟩ := bc6 BK412.out; obtain ⟨Ao37, co37, eo37⟩ := Kd.qBW HO_5.out; subst eo37) | ((with_reducible refine qA9 (f := 21) rfl ?_); refine qC2 (some 69) Try.func21 #[.slice Ao37 x5_3.length co37, .agg #[.string ((qA3 l0 x20_1).f0), .string ((qAY ((qA3 l0 x20_1).f5) x57_3).f0), .int .i64 0, .int .i64 0], .slice A411_2 ((qAY ((qA3 l0 x20_1).f5) x57_3).f2).length c411_2] ?_; (with_reducible refine (qBM.calls k3 (fun k_ => some k_ = (.slice Ao37 x5_3.length co37 : Value).ownBlock) (.slice Ao37 x5_3.length co37) x5_3 ((qA3 l0 x20_1).f0) ((qAY ((qA3 l0 x20_1).f5) x57_3).f0) 0 0 _ _ ((qAY ((qA3 l0 x20_1).f5) x57_3).f2) t413 w _ ?side1 ?side2 ?side3 ?side4 A29.out).mono ?_); (case side1 => repeat (first | (with_reducible first | exact HB.out | apply qAG | apply qA8 | apply qBO | refine qDN ?_ GE402.out | refine qDN ?_ GE412.out) | exact HB.out)); (case side2 => exact Kd.qEZ rfl HO_5.out); (case side3 => exact Kd.C_kept_came k80_heap HR411_2.out zb (fun k_ hs_ => (fun e_ => Kd.qEO HO_5.out k_ e_.symm) hs_)); (case side4 => exact HC411_2.out); rintro e w38 ⟨v414, rfl, ho0, hb, hkp⟩; refine ⟨_, rfl, ?_⟩; have HO415 := qA0.mk (Kd.qB6 (ok' := fun k_ => True) ho0 (fun k_ hk_ => trivial)); replace BK402 := qA0.mk (blk_kept (zk BK402) hkp (fun hs_ => (fun e_ => (Kd.R_ne HO_5.out BK402.out (by decide)) e_) hs_)); replace BK412 := qA0.mk (blk_kept (zk BK412) hkp (fun hs_ => (fun e_ => (Kd.R_ne HO_5.out BK412.out (by decide)) e_) hs_)); replace HB := qA0.mk (hb); clear HO_5; (try clear hb); (try clear hkp); (try clear ho0); obtain ⟨hcz39_0, hcz39_1, hcz39_2, hcz39_3, hcz39_4, hcz39_5, hfz39_0, hfz39_1, hfz39_2, hfz39_3, hfz39_4, hfz39_5⟩ := bc6 BK402.out; obtain ⟨hcz40_0, hcz40_1, hcz40_2, hcz40_3, hcz40_4, hcz40_5, hfz40_0, hfz40_1, hfz40_2, hfz40_3, hfz40_4, hfz40_5⟩ := bc6 BK412.out; obtain ⟨Ao41, co41, eo41⟩ := Kd.qBW HO415.out; subst eo41) | ((with_reducible refine qA9 (f := 21) rfl ?_); refine qC2 (some 78) Try.func21 #[.slice Ao41 t413.length co41, .agg #[.string ((qA3 l0 x20_1).f0), .string ((qAY ((qA3 l0 x20_1).f5) x57_3).f0), .int .i64 1, .int .i64 0], .slice A411_3 ((qAY ((qA3 l0 x20_1).f5) x57_3).f3).length c411_3] ?_; (with_reducible refine (qBM.calls k3 (fun k_ => some k_ = (.slice Ao41 t413.length co41 : Value).ownBlock) (.slice Ao41 t413.length co41) t413 ((qA3 l0 x20_1).f0) ((qAY ((qA3 l0 x20_1).f5) x57_3).f0) 1 0 _ _ ((qAY ((qA3 l0 x20_1).f5) x57_3).f3) t416 w _ ?side1 ?side2 ?side3 ?side4 A30.out).mono ?_); (case side1 => repeat (first | (with_reducible first | exact HB.out | apply qAG | apply qA8 | apply qBO | refine qDN ?_ GE402.out | refine qDN ?_ GE412.out) | exact HB.out)); (case side2 => exact Kd.qEZ rfl HO415.out); (case side3 => exact Kd.C_kept_came k80_heap HR411_3.out zb (fun k_ hs_ => (fun e_ => Kd.qEO HO415.out k_ e_.symm) hs_)); (case side4 => exact HC411_3.out); rintro e w42 ⟨v417, rfl, ho0, hb, hkp⟩; refine ⟨_, rfl, ?_⟩; have HO418 := qA0.mk (Kd.qB6 (ok' := fun k_ => True) ho0 (fun k_ hk_ => trivial)); replace BK402 := qA0.mk (blk_kept (zk BK402) hkp (fun hs_ => (fun e_ => (Kd.R_ne HO415.out BK402.out (by decide)) e_) hs_)); replace BK412 := qA0.mk (blk_kept (zk BK412) hkp (fun hs_ => (fun e_ => (Kd.R_ne HO415.out BK412.out (by decide)) e_) hs_)); replace HB := qA0.mk (hb); clear HO415; (try clear hb); (try clear hkp); (try clear ho0)))
               go_roundg k3
               case measure => have := HK1.out; have := HK2.out; have := HK3.out; omega
               case rel => exact ⟨(t416), (wrap64 (x57_3 + 1)), zs, H', ⟨by have := HK1.out; have := HK2.out; have := HK3.out; omega⟩, zR HO418, ⟨zk BK402⟩, ⟨zb⟩⟩
              ·rw [if_neg c28] at H
               exact absurd H (by simp)
             ·rw [if_neg c27] at H
              exact absurd H (by simp)
            ·rw [if_neg c26] at H
             have c26b0 := decide_eq_false c26
             clear c26
             have H' := qA0.mk H
             clear H
             go_wp2
             go_roundg k3
             case measure => have := HK1.out; have := HK2.out; have := HK3.out; omega
             case rel => exact ⟨(x5_3), (wrap64 (x20_1 + 1)), zs, H', ⟨by have := HK1.out; have := HK2.out; have := HK3.out; omega⟩, zR HO_5, ⟨zb⟩⟩
      ·rw [if_neg c7] at H
       exact absurd H (by simp)
     ·rw [if_neg c6] at H
      exact absurd H (by simp)
    ·rw [if_neg c5] at H
     have c5b0 := decide_eq_false c5
     clear c5
     simp only [Option.some.injEq, Prod.mk.injEq] at H
     obtain ⟨rfl, rfl⟩ := H
     go_wp2
     go_ret2
     exact ⟨_, zf, by (with_reducible repeat refine sR ?_); exact HO_5.out, zb⟩
 ·rw [if_neg c3] at H
  have ⟨c3b0, c3b1⟩ := zn c3
  simp only [Option.some.injEq, Prod.mk.injEq] at H
  obtain ⟨rfl, rfl⟩ := H
  go_enter Try.func5, Try.ntmps5
  go_wp2_with (((with_reducible refine qA9 (f := 4) rfl ?_); refine qC2 (some 14) Try.func4 #[.slice A0 l0.length c0] ?_; (with_reducible refine (qCI.calls _ _ l0 t400 _ ?side1 ?side2 A2.out).mono ?_); (case side1 => repeat (first | exact HR0.out | refine sC ?_)); (case side2 => exact HC0.out); rintro e w43 ⟨rfl, hb⟩; refine ⟨_, rfl, ?_⟩; replace HB := qA0.mk (qA1 zb hb); (try clear hb); (try clear hb2); (try clear hk); (try clear hi)))
  go_ret2
  exact ⟨_, zf, by first | exact Kd.R_nil _ _ _ _ _ | exact Kd.N_nil _ _ _ _ _ | exact Kd.V_nil _ _ _ _ _ | exact Kd.Q_nil _ _ _ _ _ | exact Kd.S_nil _ _ _ _ _, zb⟩
end
end Go.Proofs.Ytnliaialemfcaaa.PRateFinds
end
