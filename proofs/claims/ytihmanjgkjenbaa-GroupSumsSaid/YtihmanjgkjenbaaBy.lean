import Derived.Maps.RangeWalk
import Derived.Maps.OwnOps
import Derived.Maps.Own
import Derived.Shelf.Abstract
import Derived.Shelf.RegionOpenPlain
import Derived.WalkKit
import Derived.Laws.OwnMore
import Derived.Test.YtihmanjgkjenbaaSeq
import Derived.Test.YtihmanjgkjenbaaWMore
namespace Go.Proofs.Ytihmanjgkjenbaa.By
set_option linter.unusedVariables false
set_option linter.unusedSimpArgs false
open Go.RowKit Go.Shelf Go.Maps Go.Proofs.YtihmanjgkjenbaaW.PrintWords Go.Proofs.YtihmanjgkjenbaaW.PrintLast Go.Proofs.YtihmanjgkjenbaaW.PrintMore
open Go.Proofs.Ytihmanjgkjenbaa.Seq (Ints)

/-- What is known of a key after some pairs: how often it came, and the sum. -/
def grp (k : Int) : List (Int × Int) → Int × Int
  | [] => (0, 0)
  | (x, v) :: r => if x = k then (wrap64 ((grp k r).1 + 1), wrap64 ((grp k r).2 + v)) else grp k r
/-- An element of the map: a pointer to a group; it reads as its block's number. -/
def ptrR : Value → Option (DataW Unit × List MemPlace)
  | .pointer none => some (.nil, [])
  | .pointer (some ⟨p, 0, none⟩) => some (.lit (.int .i64 p), [])
  | _ => none
def datum : Option Nat → DataW Unit → DataW Unit
  | some p, _ => .lit (.int .i64 p)
  | none, z => z
theorem keyed : Keyed Try.prog 3 := int_keyed Try.underlying3
structure Grp (w0 w : World) (b n : Nat) (rev : List (Int × Int)) (ks : List Int) (g : Int → Option Nat) (D : DataW Unit) : Prop where
  own : w.ownsMap Try.prog 3 ptrR b n D
  at_ : ∀ k zd, D.atKey (.int .i64 k) zd = datum (g k) zd
  mem : ∀ k, (g k).isSome = true ↔ k ∈ ks
  blk : ∀ k p, g k = some p → w0.heap.size ≤ p ∧ p ≠ b ∧ w.heap[p]? = some (.cells #[.int .i64 k, .int .i64 (grp k rev).1, .int .i64 (grp k rev).2] 50 (0, 0))
  inj : ∀ k k' p, g k = some p → g k' = some p → k = k'
  all : ∀ x ∈ rev, x.1 ∈ ks
  below : Below w0.heap.size w0 w
  hb : w0.heap.size ≤ b
theorem look' {w : World} {b n : Nat} {g : Int → Option Nat} {D : DataW Unit} (own : w.ownsMap Try.prog 3 ptrR b n D) (at_ : ∀ k zd, D.atKey (.int .i64 k) zd = datum (g k) zd) (k : Int) (hk : (Lit.int .i64 k).wf = true) :
    (Instr.lookup 58 (.map (some b)) (.int .i64 k) false).run Try.prog w = .ok (.pointer ((g k).map fun p => ⟨p, 0, none⟩)) w := by
  obtain ⟨v, ps, hrun, hR⟩ := own.lookup keyed Try.underlying58 (z := .pointer none) (Try.zeroValue59 w) (zd := .nil) (zp := []) rfl (keyOf_int_mk Try.underlying3 hk)
  rw [hrun]
  rw [at_] at hR
  congr 1
  cases e : g k with
  | none =>
    rw [e] at hR
    unfold ptrR at hR
    split at hR
    · rfl
    · simp [datum] at hR
    · cases hR
  | some p =>
    rw [e] at hR
    unfold ptrR at hR
    split at hR
    · simp [datum] at hR
    · simp [datum] at hR
      simp [hR]
    · cases hR
theorem Grp.look {w0 w : World} {b n : Nat} {rev : List (Int × Int)} {ks : List Int} {g : Int → Option Nat} {D : DataW Unit} (h : Grp w0 w b n rev ks g D) (k : Int) (hk : (Lit.int .i64 k).wf = true) :
    (Instr.lookup 58 (.map (some b)) (.int .i64 k) false).run Try.prog w = .ok (.pointer ((g k).map fun p => ⟨p, 0, none⟩)) w := look' h.own h.at_ k hk
theorem has_iff {w : World} {b n : Nat} {g : Int → Option Nat} {D : DataW Unit} (own : w.ownsMap Try.prog 3 ptrR b n D) (at_ : ∀ k zd, D.atKey (.int .i64 k) zd = datum (g k) zd) (k : Int) : Maps.has D (.int .i64 k) = true ↔ (g k).isSome = true := by
  cases e : g k with
  | none =>
    have : Maps.has D (.int .i64 k) = false := has_false_of_atKey (fun z => by rw [at_, e]; rfl)
    simp [this]
  | some p =>
    have : Maps.has D (.int .i64 k) = true := has_true_of_atKey (y := .lit (.int .i64 p)) (fun z => by rw [at_, e]; rfl)
    simp [this]
theorem set_row {w : World} {p : Nat} {cur : Array Value} {t : TypeId} (hp : w.heap[p]? = some (.cells cur t (0, 0))) (i : Nat) (u : Value) :
    w.grownBy (w.setCell ⟨p, i, none⟩ u) (some p) ∧ (w.setCell ⟨p, i, none⟩ u).heap[p]? = some (.cells (cur.setIfInBounds i u) t (0, 0)) := by
  rw [setCell_eq_setRow w p i cur t (0, 0) u hp]
  exact ⟨⟨rfl, rfl, rfl, by simp [World.setRow], fun k _ hne => setRow_other w p k _ (fun e => hne (by rw [e]))⟩, setRow_heap w p cur _ t (0, 0) hp⟩
theorem al_heap (w : World) (o : Obj) : (w.alloc o).heap = w.heap.push o := rfl
theorem al_size (w : World) (o : Obj) : (w.alloc o).heap.size = w.heap.size + 1 := by rw [al_heap, Array.size_push]
theorem Grp.insert {w0 w : World} {b n : Nat} {rev : List (Int × Int)} {ks : List Int} {g : Int → Option Nat} {D : DataW Unit} (h : Grp w0 w b n rev ks g D) (hn : n < maxLen) (k : Int) (hk : (Lit.int .i64 k).wf = true) (hg : g k = none) (w1 : World) (hw1 : w1 = w.alloc (.cells #[.int .i64 k, .int .i64 0, .int .i64 0] 50)) :
    ∃ w2, (Instr.mapUpdate 58 (.map (some b)) (.int .i64 k) (.pointer (some ⟨w.heap.size, 0, none⟩))).run Try.prog w1 = .ok () w2 ∧
      Grp w0 w2 b (n + 1) rev (k :: ks) (fun x => if x = k then some w.heap.size else g x) (D.put (.int .i64 k) (.lit (.int .i64 w.heap.size))) := by
  subst hw1
  obtain ⟨w2, hrun, ho, hgr⟩ := (h.own.alloc (.cells #[.int .i64 k, .int .i64 0, .int .i64 0] 50)).update keyed Try.underlying58 hn (keyOf_int_mk Try.underlying3 hk) (val := .pointer (some ⟨w.heap.size, 0, none⟩)) (d := .lit (.int .i64 w.heap.size)) (ps := []) rfl
  have hlt : b < w.heap.size := h.own.lt
  have hother : ∀ q, q < w.heap.size → q ≠ b → w2.heap[q]? = w.heap[q]? := fun q hq hqb => by
    rw [hgr.block q (by rw [al_size]; omega) (by intro e; exact hqb (Option.some.inj e)), al_heap, Array.getElem?_push, if_neg (by omega)]
  have hnk : k ∉ ks := fun hm => by have := (h.mem k).2 hm; rw [hg] at this; cases this
  have hz : ∀ r : List (Int × Int), (∀ x ∈ r, x.1 ∈ ks) → grp k r = (0, 0) := fun r => by
    induction r with
    | nil => intro _; rfl
    | cons x r ih =>
      intro hr
      obtain ⟨a, c⟩ := x
      have : a ≠ k := fun e => hnk (e ▸ hr (a, c) (by simp))
      simp only [grp, if_neg this]
      exact ih (fun y hy => hr y (by simp [hy]))
  have hp : ∀ x q, g x = some q → q < w.heap.size := fun x q e => by
    have := (h.blk x q e).2.2
    rcases Nat.lt_or_ge q w.heap.size with h | h
    · exact h
    · rw [Array.getElem?_eq_none h] at this; cases this
  refine ⟨w2, hrun, ho, ?_, ?_, ?_, ?_, ?_, ?_, h.hb⟩
  · intro x zd
    by_cases e : x = k
    · subst e
      rw [atKey_put_same h.own.isMap (show WideAt.IsKeyLit (.int .i64 x) from trivial), if_pos rfl]
      rfl
    · rw [atKey_put_other (by intro e'; cases e'; exact e rfl), h.at_, if_neg e]
  · intro x
    by_cases e : x = k
    · simp [e]
    · simp [e, h.mem]
  · intro x q hq
    by_cases e : x = k
    · subst e
      rw [if_pos rfl] at hq
      obtain rfl := Option.some.inj hq
      refine ⟨h.below.size, by omega, ?_⟩
      rw [hz rev h.all, hgr.block _ (by rw [al_size]; omega) (by intro e; have := Option.some.inj e; omega), al_heap, Array.getElem?_push_size]
    · rw [if_neg e] at hq
      obtain ⟨h1, h2, h3⟩ := h.blk x q hq
      exact ⟨h1, h2, (hother q (hp x q hq) h2).trans h3⟩
  · intro x y q hx hy
    by_cases e : x = k <;> by_cases e2 : y = k
    · omega
    · rw [if_pos e] at hx; rw [if_neg e2] at hy
      have := hp y q hy
      have := Option.some.inj hx
      omega
    · rw [if_neg e] at hx; rw [if_pos e2] at hy
      have := hp x q hx
      have := Option.some.inj hy
      omega
    · rw [if_neg e] at hx; rw [if_neg e2] at hy
      exact h.inj x y q hx hy
  · intro x hx
    exact List.mem_cons_of_mem _ (h.all x hx)
  · exact pw_below_grown (below_alloc h.below _) (some b) (by rw [al_size]; have := h.below.size; omega) hgr (fun k e => by obtain rfl := Option.some.inj e; exact h.hb)

/-- One more pair: the group's count and sum are stored. -/
theorem Grp.bump {w0 w w' : World} {b n : Nat} {rev : List (Int × Int)} {ks : List Int} {g : Int → Option Nat} {D : DataW Unit} (h : Grp w0 w b n rev ks g D) (k v : Int) (p : Nat) (hg : g k = some p) (hgr : w.grownBy w' (some p))
    (hp : w'.heap[p]? = some (.cells #[.int .i64 k, .int .i64 (wrap64 ((grp k rev).1 + 1)), .int .i64 (wrap64 ((grp k rev).2 + v))] 50 (0, 0))) : Grp w0 w' b n ((k, v) :: rev) ks g D := by
  obtain ⟨p1, p2, p3⟩ := h.blk k p hg
  refine ⟨h.own.kept hgr (by intro e; exact p2 (Option.some.inj e).symm), h.at_, h.mem, ?_, h.inj, ?_, ?_, h.hb⟩
  · intro x q hq
    obtain ⟨q1, q2, q3⟩ := h.blk x q hq
    refine ⟨q1, q2, ?_⟩
    by_cases e : x = k
    · subst e
      rw [hg] at hq
      obtain rfl := Option.some.inj hq
      simp only [grp, if_true]
      exact hp
    · have hqp : q ≠ p := fun e2 => e (h.inj x k q hq (by rw [hg, e2]))
      have hlt : q < w.heap.size := by
        rcases Nat.lt_or_ge q w.heap.size with h | h
        · exact h
        · rw [Array.getElem?_eq_none h] at q3; cases q3
      rw [hgr.block q hlt (by intro e2; exact hqp (Option.some.inj e2))]
      simp only [grp, if_neg (show ¬ k = x from fun e2 => e e2.symm)]
      exact q3
  · intro x hx
    rcases List.mem_cons.1 hx with rfl | hx
    · exact (h.mem k).1 (by rw [hg]; rfl)
    · exact h.all x hx
  · exact pw_below_grown h.below (some p) h.below.size hgr (fun j e => by obtain rfl := Option.some.inj e; exact p1)
theorem Grp.drew {w0 w : World} {b n : Nat} {rev : List (Int × Int)} {ks : List Int} {g : Int → Option Nat} {D : DataW Unit} (h : Grp w0 w b n rev ks g D) : Grp w0 w.drew b n rev ks g D := 
  ⟨h.own.drew, h.at_, h.mem, h.blk, h.inj, h.all, below_drew1 h.below, h.hb⟩
theorem Grp.made (w0 w : World) (h : Below w0.heap.size w0 w) : Grp w0 (w.alloc (.map #[] 0)) w.heap.size 0 [] [] (fun _ => none) (.map []) :=
  ⟨World.ownsMap_made w _ _ _, fun _ _ => rfl, fun _ => (by simp), fun _ _ e => (by cases e), fun _ _ _ e => (by cases e), fun _ h => (by cases h), below_alloc h _, h.size⟩
def encG (x : Int × Int × Int) : List Value := [.int .i64 x.1, .int .i64 x.2.1, .int .i64 x.2.2]
/-- A key's group. -/
def gOf (r : List (Int × Int)) (k : Int) : Int × Int × Int := (k, grp k r)
theorem encG_len (l : List (Int × Int × Int)) : (l.flatMap encG).length = l.length * 3 := by
  induction l with
  | nil => rfl
  | cons x r ih => rw [List.flatMap_cons, List.length_append, ih, List.length_cons]; simp [encG]; omega
theorem ptrR_inv {v : Value} {p : Nat} {ps : List MemPlace} (h : ptrR v = some (.lit (.int .i64 p), ps)) : v = .pointer (some ⟨p, 0, none⟩) := by
  unfold ptrR at h
  split at h
  · simp at h
  · rename_i q
    have e : q = p := by simp at h; omega
    rw [e]
  · cases h
theorem info50 : (Try.prog.info? 50).map (fun i => (i.zero.map (·.cells.size), i.size, i.bytes)) = some (some 3, 3, 24) := by kernel_rfl
/-- What slices.SortFunc does with a row of groups. -/
def SortOk : Prop := ∀ (W : World) (v : Value) (base : Nat) (gsl : List (Int × Int × Int)), W.ownsRow base 50 3 v gsl.length (gsl.flatMap encG) → base ≤ W.heap.size → gsl.length ≤ 1000 →
  Calls Try.prog 35 #[v, .func (.func 36) #[] #[]] W fun e W' => e = .returned (.tuple #[]) ∧ ∃ gsl' : List (Int × Int × Int), gsl'.Perm gsl ∧ gsl'.Pairwise (fun a b => a.1 ≤ b.1) ∧ W'.ownsRow base 50 3 v gsl'.length (gsl'.flatMap encG) ∧ Below base W W'
/-- The pairs, up to the i-th, the last one first. -/
def rev (keys vals : List Int) (i : Nat) : List (Int × Int) := ((keys.zip vals).take i).reverse
set_option maxRecDepth 100000 in
theorem walk (a0 a1 : Option Addr) (c0 c1 : Nat) (keys vals : List Int) (hlen : keys.length = vals.length) (hsm : vals.length ≤ 1000) (hwf : ∀ x ∈ keys, (Lit.int .i64 x).wf = true) (w : World) (hI0 : Ints w.heap.size w (.slice a0 keys.length c0) keys) (hI1 : Ints w.heap.size w (.slice a1 vals.length c1) vals)
    (hsort : SortOk) (hchk : ∀ W, Below w.heap.size w W → Calls Try.prog 27 #[.slice a1 vals.length c1] W fun e W' => e = .returned (.int .i64 0) ∧ Below w.heap.size w W') :
    Calls Try.prog 26 #[.slice a0 keys.length c0, .slice a1 vals.length c1] w fun e w' => ∃ (v : Value) (gsl : List (Int × Int × Int)), e = .returned (.tuple #[v, .int .i64 0]) ∧ w'.ownsRow w.heap.size 50 3 v gsl.length (gsl.flatMap encG) ∧ Below w.heap.size w w' ∧
      gsl.Pairwise (fun a b => a.1 ≤ b.1) ∧ (gsl.map (·.1)).Nodup ∧ gsl.length ≤ 1000 ∧ ∀ x, x ∈ gsl ↔ ∃ k ∈ keys, x = gOf (rev keys vals vals.length) k := by
  go_enter Try.func26, Try.ntmps26
  go_wp2_with fail
  refine (hchk _ (by repeat (first | exact Below.refl _ _ | apply pw_below_drewN))).mono ?_
  rintro e w1 ⟨rfl, hB1⟩
  clear hchk
  have hl2 : (keys.length : Int) = (vals.length : Int) := by omega
  go_wp2_with fail
  rw [run_makeMap]
  have G0 := Aside0.mk (Grp.made w w1 hB1)
  go_wp2_with fail
  go_loopw [26] (fun v26 wr => ∃ i : Nat, i ≤ vals.length ∧ v26 = .int .i64 (i : Int) ∧ ∃ n ks g D, n ≤ i ∧ (∀ x ∈ ks, x ∈ keys) ∧ Aside0 (Grp w wr w1.heap.size n (rev keys vals i) ks g D)) (fun v26 _ => vals.length - (RowKit.intOf v26).toNat)
  case atStart => exact ⟨0, by omega, rfl, 0, [], _, _, by omega, fun x h => (by cases h), G0⟩
  case round =>
    clear G0
    obtain ⟨i, hi, rfl, n, ks, g, D, hni, hkk, HG⟩ := hrel
    by_cases hlt : i < vals.length
    · have hi2 : (i : Int) < (vals.length : Int) := by omega
      rcases hI0 with ⟨_, _, _, e⟩ | ⟨b0, o0, q0, e0, hb0, hc0⟩
      · rw [e] at hlen; simp at hlen; omega
      rcases hI1 with ⟨_, _, _, e⟩ | ⟨b1, o1, q1, e1, hb1, hc1⟩
      · rw [e] at hlt; simp at hlt
      injection e0 with e0a e0b e0c
      injection e1 with e1a e1b e1c
      subst e0a e1a e0c e1c
      have k0 := hc0 i (by omega)
      have k1 := hc1 i hlt
      generalize hk : keys[i]?.getD 0 = k at k0
      generalize hv : vals[i]?.getD 0 = v at k1
      have hcx0 : wr.cell? ⟨b0, o0 + i, none⟩ = some (.int .i64 k) := (HG.out.below.cell (p := ⟨b0, o0 + i, none⟩) hb0).trans k0
      have hkmem : k ∈ keys := by rw [← hk]; rw [List.getElem?_eq_getElem (by omega)]; exact List.getElem_mem _
      have hkw : (Lit.int .i64 k).wf = true := hwf k hkmem
      have hrev : rev keys vals (i + 1) = (k, v) :: rev keys vals i := by
        unfold rev
        rw [List.take_add_one, List.reverse_append]
        have e1 : keys[i]? = some k := by rw [← hk, List.getElem?_eq_getElem (by omega)]; rfl
        have e2 : vals[i]? = some v := by rw [← hv, List.getElem?_eq_getElem hlt]; rfl
        simp [List.getElem?_zip_eq_some, List.zip, List.getElem?_zipWith, e1, e2]
      have hw26 : IntKind.i64.wrap ((i : Int) + 1) = ((i + 1 : Nat) : Int) := by rw [IntKind.wrap_i64]; omega
      cases hg : g k with
      | none =>
        have HL := HG.out.look k hkw
        rw [hg, Option.map_none] at HL
        obtain ⟨w2, hr, G2⟩ := HG.out.insert (by simp [maxLen]; omega) k hkw hg _ rfl
        generalize hg' : (fun x => if x = k then some wr.heap.size else g x) = g' at G2
        have hgk : g' k = some wr.heap.size := by rw [← hg']; exact if_pos rfl
        have GI := Aside0.mk G2
        clear G2 hg'
        obtain ⟨p1, p2, p3⟩ := GI.out.blk k wr.heap.size hgk
        have HL_ := GI.out.look k hkw
        rw [hgk, Option.map_some] at HL_
        generalize hcc : (grp k (rev keys vals i)).1 = c at p3
        generalize hss : (grp k (rev keys vals i)).2 = s at p3
        have hc1 : w2.cell? ⟨wr.heap.size, 1, none⟩ = some (.int .i64 c) := by simp [World.cell?, p3]
        have hf1 : w2.frozen? ⟨wr.heap.size, 1, none⟩ = false := by simp [World.frozen?, p3]
        obtain ⟨q1, q2⟩ := set_row p3 1 (.int .i64 (wrap64 (c + 1)))
        generalize hW2 : w2.setCell ⟨wr.heap.size, 1, none⟩ (.int .i64 (wrap64 (c + 1))) = W2 at q1 q2
        have own2 := (GI.out.own.kept q1 (by intro e; exact p2 (Option.some.inj e).symm)).drew
        have HL2 := look' own2 GI.out.at_ k hkw
        rw [hgk, Option.map_some] at HL2
        have hc2 : W2.drew.cell? ⟨wr.heap.size, 2, none⟩ = some (.int .i64 s) := by show W2.cell? _ = _; simp [World.cell?, q2]
        have hf2 : W2.drew.frozen? ⟨wr.heap.size, 2, none⟩ = false := by show W2.frozen? _ = _; simp [World.frozen?, q2]
        have hcx1 : W2.drew.cell? ⟨b1, o1 + i, none⟩ = some (.int .i64 v) := ((pw_below_grown GI.out.below (some wr.heap.size) GI.out.below.size q1 (fun j e => by obtain rfl := Option.some.inj e; exact p1)).cell (p := ⟨b1, o1 + i, none⟩) hb1).trans k1
        obtain ⟨r1, r2⟩ := set_row q2 2 (.int .i64 (wrap64 (s + v)))
        have hmo : Try.prog.follows Departure.mixedOrders = true := by kernel_rfl
        have G3 := Aside0.mk (GI.out.bump k v wr.heap.size hgk (q1.trans r1) (by rw [r2, hcc, hss]; rfl)).drew
        rw [← hrev] at G3
        clear own2 p3 q2 q1 r1 r2
        go_wp2_with fail
        try rw [hW2]
        go_region
        all_goals go_simp
        refine (by assumption : ∀ _ _, _ → _) _ _ ?_
        go_wp2_with fail
        go_roundw
        case measure =>
          show vals.length - (((i : Int) + 1)).toNat < vals.length - ((i : Int)).toNat
          omega
        case rel =>
          exact ⟨i + 1, by omega, by rw [Int.natCast_add]; first | rfl | skip, _, _, _, _, by omega, by first | exact hkk | (intro x hx; rcases List.mem_cons.1 hx with e | hx; (rw [e]; exact hkmem); exact hkk x hx), G3⟩
      | some p =>
        obtain ⟨p1, p2, p3⟩ := HG.out.blk k p hg
        have HL_ := HG.out.look k hkw
        rw [hg, Option.map_some] at HL_
        generalize hcc : (grp k (rev keys vals i)).1 = c at p3
        generalize hss : (grp k (rev keys vals i)).2 = s at p3
        have hc1 : wr.cell? ⟨p, 1, none⟩ = some (.int .i64 c) := by simp [World.cell?, p3]
        have hf1 : wr.frozen? ⟨p, 1, none⟩ = false := by simp [World.frozen?, p3]
        obtain ⟨q1, q2⟩ := set_row p3 1 (.int .i64 (wrap64 (c + 1)))
        generalize hW2 : wr.setCell ⟨p, 1, none⟩ (.int .i64 (wrap64 (c + 1))) = W2 at q1 q2
        have own2 := (HG.out.own.kept q1 (by intro e; exact p2 (Option.some.inj e).symm)).drew
        have HL2 := look' own2 HG.out.at_ k hkw
        rw [hg, Option.map_some] at HL2
        have hc2 : W2.drew.cell? ⟨p, 2, none⟩ = some (.int .i64 s) := by show W2.cell? _ = _; simp [World.cell?, q2]
        have hf2 : W2.drew.frozen? ⟨p, 2, none⟩ = false := by show W2.frozen? _ = _; simp [World.frozen?, q2]
        have hcx1 : W2.drew.cell? ⟨b1, o1 + i, none⟩ = some (.int .i64 v) := ((pw_below_grown HG.out.below (some p) HG.out.below.size q1 (fun j e => by obtain rfl := Option.some.inj e; exact p1)).cell (p := ⟨b1, o1 + i, none⟩) hb1).trans k1
        obtain ⟨r1, r2⟩ := set_row q2 2 (.int .i64 (wrap64 (s + v)))
        have hmo : Try.prog.follows Departure.mixedOrders = true := by kernel_rfl
        have G3 := Aside0.mk (HG.out.bump k v p hg (q1.trans r1) (by rw [r2, hcc, hss]; rfl)).drew
        rw [← hrev] at G3
        clear own2 p3 q2 q1 r1 r2
        go_wp2_with fail
        try rw [hW2]
        go_region
        all_goals go_simp
        refine (by assumption : ∀ _ _, _ → _) _ _ ?_
        go_wp2_with fail
        go_roundw
        case measure =>
          show vals.length - (((i : Int) + 1)).toNat < vals.length - ((i : Int)).toNat
          omega
        case rel =>
          exact ⟨i + 1, by omega, by rw [Int.natCast_add]; first | rfl | skip, _, _, _, _, by omega, by first | exact hkk | (intro x hx; rcases List.mem_cons.1 hx with e | hx; (rw [e]; exact hkmem); exact hkk x hx), G3⟩
    · have : i = vals.length := by omega
      subst this
      obtain ⟨wq, rfl⟩ : ∃ wq, wq = wr := ⟨wr, rfl⟩
      have hks : n ≤ 1000 := by omega
      obtain ⟨w3, hr3, hrg, hgr, hsz⟩ := HG.out.own.range keyed Try.underlying58
      have hB3 : Below w.heap.size w w3 := pw_below_grown HG.out.below none HG.out.below.size hgr (fun _ e => by cases e)
      have hG3 : ∀ k p, g k = some p → p < wq.heap.size ∧ w3.heap[p]? = some (.cells #[.int .i64 k, .int .i64 (grp k (rev keys vals vals.length)).1, .int .i64 (grp k (rev keys vals vals.length)).2] 50 (0, 0)) := fun k p e => by
        obtain ⟨_, _, q3⟩ := HG.out.blk k p e
        have hlt : p < wq.heap.size := by
          rcases Nat.lt_or_ge p wq.heap.size with h | h
          · exact h
          · rw [Array.getElem?_eq_none h] at q3; cases q3
        exact ⟨hlt, (hgr.block p hlt (by simp)).trans q3⟩
      have HT := Aside0.mk (And.intro hrg (And.intro hB3 hG3))
      clear hrg hgr hB3 hG3
      go_wp2_with fail
      go_loopw [10] (fun v10 wx => ∃ (left : Lit → Bool) (cnt : Nat) (done : List Int), Aside0 (wx.ranges Try.prog 3 ptrR w1.heap.size wq.heap.size n D left cnt ∧ (∀ k, left (.int .i64 k) = true ↔ (k ∈ ks ∧ k ∉ done)) ∧ done.Nodup ∧ (∀ k ∈ done, k ∈ ks) ∧
        wx.ownsRow (wq.heap.size + 1) 50 3 v10 done.length ((done.map (gOf (rev keys vals vals.length))).flatMap encG) ∧ Below w.heap.size w wx ∧ wq.heap.size + 1 ≤ wx.heap.size ∧ done.length + cnt ≤ 1000 ∧
        (∀ k p, g k = some p → p < wq.heap.size ∧ p ≠ w1.heap.size ∧ wx.heap[p]? = some (.cells #[.int .i64 k, .int .i64 (grp k (rev keys vals vals.length)).1, .int .i64 (grp k (rev keys vals vals.length)).2] 50 (0, 0))))) (fun _ wx => wx.rangeLeft w1.heap.size wq.heap.size)
      case atStart =>
        obtain ⟨hrg, hB3, hG3⟩ := HT.out
        have hsl := HG.out.own.size_le
        refine ⟨_, _, [], ⟨hrg, ?_, List.nodup_nil, fun k h => (by cases h), World.ownsRow_nil _ _ _ _, hB3, by omega, by simp; omega, ?_⟩⟩
        · intro k
          have hh := HG.out.mem k
          rw [has_iff HG.out.own HG.out.at_ k, hh]
          simp
        · intro k p e
          exact ⟨(hG3 k p e).1, (HG.out.blk k p e).2.1, (hG3 k p e).2⟩
      case round =>
        obtain ⟨wx, rfl⟩ : ∃ wx, wx = wr := ⟨wr, rfl⟩
        obtain ⟨left, cnt, done, HR⟩ := hrel
        obtain ⟨hrg, hleft, hnd, hin, hown, hB, hsz2, hcnt, hblk⟩ := HR.out
        rcases hrg.next keyed 0 with ⟨hc0, hl0, hrun⟩ | ⟨key, v, kl, y, w5, cnt5, hkey, hlk, hR5, hat5, hrun, hrg5, hlt5, hgr5, hsz5, hen⟩
        · have hobge : ∀ j, u10.ownBlock = some j → wq.heap.size + 1 ≤ j := fun j e => by
            rcases hown.2 with ⟨rfl, _⟩ | ⟨g, cap, cur, rfl, hg, _⟩
            · cases e
            · simp [Value.ownBlock] at e; omega
          go_wp2_with fail
          refine (hsort wx u10 (wq.heap.size + 1) (done.map (gOf (rev keys vals vals.length))) (by rw [List.length_map]; exact hown) hsz2 (by rw [List.length_map]; omega)).mono ?_
          rintro e w8 ⟨rfl, gsl, hperm, hpw, ho8, hB8⟩
          go_wp2_with fail
          go_ret2
          have hmemd : ∀ k, k ∈ done ↔ k ∈ keys := fun k => by
            constructor
            · intro h; exact hkk k (hin k h)
            · intro h
              have h1 : k ∈ ks := by
                have hz : (keys.zip vals).map Prod.fst = keys := List.map_fst_zip (by omega)
                rw [← hz] at h
                obtain ⟨⟨a, c⟩, hx, rfl⟩ := List.mem_map.1 h
                refine HG.out.all (a, c) ?_
                unfold rev
                rw [List.mem_reverse, List.take_of_length_le (by simp [List.length_zip]; omega)]
                exact hx
              refine Decidable.byContradiction fun hnd2 => ?_
              have := (hleft k).2 ⟨h1, hnd2⟩
              rw [hl0] at this
              cases this
          refine ⟨u10, gsl, rfl, ?_, ?_, hpw, ?_, ?_, ?_⟩
          · refine ⟨ho8.1, ?_⟩
            rcases ho8.2 with h | ⟨g, cap, cur, h1, h2, h3⟩
            · exact .inl h
            · exact .inr ⟨g, cap, cur, h1, by have := HG.out.below.size; omega, h3⟩
          · exact ⟨hB8.os.trans hB.os, hB8.tape.trans hB.tape, hB8.output.trans hB.output, Nat.le_trans hB.size hB8.size, fun j hj => (hB8.block j (by have := HG.out.below.size; omega)).trans (hB.block j hj)⟩
          · have e : (done.map (gOf (rev keys vals vals.length))).map (·.1) = done := by rw [List.map_map]; exact List.map_id'' (fun _ => rfl) _
            exact (hperm.map _).nodup_iff.2 (by rw [e]; exact hnd)
          · rw [hperm.length_eq, List.length_map]; omega
          · intro x
            rw [hperm.mem_iff, List.mem_map]
            constructor
            · rintro ⟨k, hk, rfl⟩; exact ⟨k, (hmemd k).1 hk, rfl⟩
            · rintro ⟨k, hk, rfl⟩; exact ⟨k, (hmemd k).2 hk, rfl⟩
        · obtain ⟨k, rfl, rfl, hkw⟩ := Maps.keyOf_int_inv Try.underlying3 hkey
          obtain ⟨hk1, hk2⟩ := (hleft k).1 hlk
          obtain ⟨p, hp⟩ := Option.isSome_iff_exists.1 ((HG.out.mem k).2 hk1)
          obtain ⟨y1, y2⟩ := y
          have hy : y1 = .lit (.int .i64 p) := by
            have e1 := hat5 .nil
            have e2 := HG.out.at_ k .nil
            rw [hp] at e2
            exact e1.symm.trans e2
          subst hy
          obtain rfl := ptrR_inv hR5
          obtain ⟨hb1, hb2, hb3⟩ := hblk k p hp
          have hb5 : w5.heap[p]? = some (.cells #[.int .i64 k, .int .i64 (grp k (rev keys vals vals.length)).1, .int .i64 (grp k (rev keys vals vals.length)).2] 50 (0, 0)) :=
            (hgr5.block p (by omega) (by intro e; have := Option.some.inj e; omega)).trans hb3
          have hobge : ∀ j, u10.ownBlock = some j → wq.heap.size + 1 ≤ j := fun j e => by
            rcases hown.2 with ⟨rfl, _⟩ | ⟨g, cap, cur, rfl, hg, _⟩
            · cases e
            · simp [Value.ownBlock] at e; omega
          generalize hcc : (grp k (rev keys vals vals.length)).1 = c at hb5
          generalize hss : (grp k (rev keys vals vals.length)).2 = s at hb5
          have hd0 : w5.cell? ⟨p, 0, none⟩ = some (.int .i64 k) := by simp [World.cell?, hb5]
          have hd1 : w5.cell? ⟨p, 1, none⟩ = some (.int .i64 c) := by simp [World.cell?, hb5]
          have hd2 : w5.cell? ⟨p, 2, none⟩ = some (.int .i64 s) := by simp [World.cell?, hb5]
          obtain ⟨i50, z50, hi50, hzz, hz50, hs50, hb50⟩ : ∃ i z, Try.prog.info? 50 = some i ∧ i.zero = some z ∧ z.cells.size = 3 ∧ i.size = 3 ∧ i.bytes = 24 := by
            have h := info50
            cases e : Try.prog.info? 50 with
            | none => rw [e] at h; cases h
            | some i =>
              rw [e] at h
              cases e2 : i.zero with
              | none => simp [e2] at h
              | some z => simp [e2] at h; exact ⟨i, z, rfl, e2, h.1, h.2.1, h.2.2⟩
          have ownA : (w5.alloc (.cells #[.int .i64 k, .int .i64 c, .int .i64 s] 50)).ownsRow (wq.heap.size + 1) 50 3 u10 done.length ((done.map (gOf (rev keys vals vals.length))).flatMap encG) :=
            (hown.kept hgr5 (by
              rcases e : u10.ownBlock with _ | j
              · exact .inl rfl
              · exact .inr (fun e2 => by have := hobge j e; have := Option.some.inj e2; omega))).alloc _
          have hnews : ∀ j u, [Value.int .i64 k, .int .i64 c, .int .i64 s][j]? = some u → (w5.alloc (.cells #[.int .i64 k, .int .i64 c, .int .i64 s] 50)).cell? ((⟨w5.heap.size, 0, none⟩ : Addr).add j) = some u := by
            intro j u hu
            have hj : j < 3 := by
              rcases Nat.lt_or_ge j 3 with h | h
              · exact h
              · rw [List.getElem?_eq_none (by simpa using h)] at hu; cases hu
            have ha : (⟨w5.heap.size, 0, none⟩ : Addr).add j = ⟨w5.heap.size, j, none⟩ := by unfold Addr.add; split <;> simp_all
            rw [ha]
            simp only [World.cell?, al_heap, Array.getElem?_push_size]
            simpa using hu
          have HS5 := Aside0.mk hsz5
          have HC := Aside0.mk (show done.length + 1 + cnt5 ≤ 1000 by omega)
          clear hcnt hat5 hR5 hkey hsz5
          go_wp2_with (at_builtin; (refine wpList_append_own_at (P := Try.prog) _ rfl _ _ 46 rfl (wq.heap.size + 1) 50 i50 _ 3 24 Try.underlying46 hi50 hzz hs50 hb50 hz50 (by omega) u10 done.length _ rfl ownA ⟨w5.heap.size, 0, none⟩ 1 1 _ rfl rfl hnews (by simp [Value.oneCell']) (by have := HC.out; simp [maxLen]; omega) (by have := HC.out; omega) (by have := HS5.out; rw [al_size]; omega) ?_; intro v' w7 ho7 hg7 _ _))
          have hrb : ∀ q, q < wq.heap.size + 1 → u10.ownBlock ≠ some q := fun q hq e => by have := hobge q e; omega
          have hb0 : w1.heap.size < wq.heap.size := HG.out.own.lt
          have hr7 := (hrg5.alloc (.cells #[.int .i64 k, .int .i64 c, .int .i64 s] 50)).kept hg7 (fun e => hrb _ (by omega) e.symm) (fun e => hrb _ (by omega) e.symm)
          have h57 : ∀ q, q < wq.heap.size → w7.heap[q]? = wx.heap[q]? := fun q hq => by
            have := HS5.out
            rw [hg7.block q (by rw [al_size]; omega) (fun e => hrb q (by omega) e.symm), al_heap, Array.getElem?_push, if_neg (by omega), hgr5.block q (by omega) (by intro e; have := Option.some.inj e; omega)]
          refine ⟨⟨_, cnt5, done ++ [k], ⟨hr7, ?_, ?_, ?_, ?_, ?_, ?_, ?_, ?_⟩⟩, ?_⟩
          · intro x
            by_cases e : x = k
            · subst e
              simp [WideAt.sameKey_self (show WideAt.IsKeyLit (.int .i64 x) from trivial)]
            · rw [sameKey_ne (show (Lit.int .i64 x) ≠ Lit.int .i64 k from fun e2 => by cases e2; exact e rfl)]
              simp [hleft, e]
          · rw [List.nodup_append]
            exact ⟨hnd, by simp, fun a ha b hb e => hk2 ((show b = k by simpa using hb) ▸ e ▸ ha)⟩
          · intro x hx
            rcases List.mem_append.1 hx with h | h
            · exact hin x h
            · have : x = k := by simpa using h
              subst this
              exact hk1
          · have e : ((done ++ [k]).map (gOf (rev keys vals vals.length))).flatMap encG = (done.map (gOf (rev keys vals vals.length))).flatMap encG ++ [.int .i64 k, .int .i64 c, .int .i64 s] := by
              simp [encG, gOf, hcc, hss]
            rw [e, List.length_append]
            exact ho7
          · have hB5 := pw_below_grown hB (some wq.heap.size) hB.size hgr5 (fun j e => by obtain rfl := Option.some.inj e; exact HG.out.below.size)
            exact pw_below_grown (below_alloc hB5 _) u10.ownBlock (by rw [al_size]; have := hB5.size; omega) hg7 (fun j e => by have := hobge j e; have := HG.out.below.size; omega)
          · have := hg7.size
            have := HS5.out
            rw [al_size] at *
            omega
          · have := HC.out
            simp
            omega
          · intro x q e
            obtain ⟨z1, z2, z3⟩ := hblk x q e
            exact ⟨z1, z2, (h57 q z1).trans z3⟩
          · rw [hr7.left_eq, hrg.left_eq]
            exact hlt5
end Go.Proofs.Ytihmanjgkjenbaa.By
