/- A part of the proof of RatePuts: texts that were printed, words, walks. No condition. -/
import Derived.Test.YtfnejdbjekkadaaGreatC8
import Derived.BigQuiet
import Derived.RangeFuncBox
import Derived.Maps.AppendAt
import Derived.Laws.EntriesVeiled
set_option linter.unusedVariables false
set_option linter.unusedSimpArgs false
section
namespace Go.Proofs.YtfnejdbjekkadaaGreat.PRatePuts
noncomputable section
open Go.RowKit Go.Proofs.YtfnejdbjekkadaaGreatW.PrintWords Go.Proofs.YtfnejdbjekkadaaGreatW.PrintLast Go.Proofs.YtfnejdbjekkadaaGreatW.PrintMore
set_option maxHeartbeats 8000000
set_option maxRecDepth 100000
theorem infoAny : (Tryz.prog.info? 20).map (fun i => (i.zero, i.size, i.bytes)) = some (some .nilIface, 1, 16) := by kernel_rfl
def iI (n : Int) : Value := .iface 3 (.int .i64 n)
def iS (s : ByteArray) : Value := .iface 9 (.string s)
structure FI (w0 : World) (bo : Nat) (K : List (Nat × Obj)) (W : World) (L : List Value) : Prop where
 bd : Below w0.heap.size w0 W
 lo : w0.heap.size ≤ bo
 out : ∃ A c, W.heap[bo]? = some (.cells #[.slice A L.length c] 126 (0, 0)) ∧ W.ownsRow w0.heap.size 20 1 (.slice A L.length c) L.length L ∧ (Value.slice A L.length c).ownBlock ≠ some bo ∧ ∀ p ∈ K, W.heap[p.1]? = some p.2 ∧ p.1 ≠ bo ∧ (Value.slice A L.length c).ownBlock ≠ some p.1
theorem FI.at_ {w0 W : World} {bo : Nat} {K : List (Nat × Obj)} {L : List Value} (h : FI w0 bo K W L) {p : Nat × Obj} (hp : p ∈ K) : W.heap[p.1]? = some p.2 := by
 obtain ⟨_, _, _, _, _, hk⟩ := h.out
 exact (hk p hp).1
theorem FI.sub {w0 W : World} {bo : Nat} {K K' : List (Nat × Obj)} {L : List Value} (h : FI w0 bo K W L) (hs : ∀ p ∈ K', p ∈ K) : FI w0 bo K' W L := by
 obtain ⟨A, c, h1, h2, h3, hk⟩ := h.out
 exact ⟨h.bd, h.lo, A, c, h1, h2, h3, fun p hp => hk p (hs p hp)⟩
theorem FI.grow {w0 W W' : World} {bo : Nat} {K : List (Nat × Obj)} {L : List Value} (h : FI w0 bo K W L) (hb : Below W.heap.size W W') {q : Nat} {ob : Obj} (hq : W.heap.size ≤ q) (hob : W'.heap[q]? = some ob) : FI w0 bo ((q, ob) :: K) W' L := by
 obtain ⟨A, c, h1, h2, h3, hk⟩ := h.out
 have hlt := qCR h1
 refine ⟨qA7 h.bd hb, h.lo, A, c, (hb.block _ hlt).trans h1, qBJ h2 hb, h3, fun p hp => ?_⟩
 rcases List.mem_cons.1 hp with rfl | hp
 ·exact ⟨hob, by show q ≠ bo; omega, fun e => by have := qD6 h2 q e; omega⟩
 ·exact ⟨(hb.block _ (qCR (hk p hp).1)).trans (hk p hp).1, (hk p hp).2⟩
theorem FI.alloc {w0 W : World} {bo : Nat} {K : List (Nat × Obj)} {L : List Value} (h : FI w0 bo K W L) (ob : Obj) : FI w0 bo ((W.heap.size, ob) :: K) (W.alloc ob) L := h.grow (qAA (Below.refl _ _) _) (Nat.le_refl _) (heap_alloc_new _ _)
theorem FI.put {w0 W W1 : World} {bo q : Nat} {A A1 : Option Addr} {c c1 : Nat} {K : List (Nat × Obj)} {L L1 : List Value} {ob : Obj} (h : FI w0 bo ((q, ob) :: K) W L) (hv : W.cell? ⟨bo, 0, none⟩ = some (.slice A L.length c)) (ho : W1.ownsRow w0.heap.size 20 1 (.slice A1 L1.length c1) L1.length L1) (hg : W.grownBy W1 (Value.slice A L.length c).ownBlock) (hat : (Value.slice A1 L1.length c1).ownBlock = (Value.slice A L.length c).ownBlock ∨ ∃ b, (Value.slice A1 L1.length c1).ownBlock = some b ∧ W.heap.size ≤ b) : FI w0 bo K (W1.setCell ⟨bo, 0, none⟩ (.slice A1 L1.length c1)) L1 := by
 obtain ⟨A', c', h1, h2, h3, hk⟩ := h.out
 obtain ⟨rfl, rfl⟩ : A' = A ∧ c' = c := by
  have := (qA1 h1 0).symm.trans hv
  simpa using this
 have hlt := qCR h1
 have hne : ∀ b, b < W.heap.size → (Value.slice A' L.length c').ownBlock ≠ some b → (Value.slice A1 L1.length c1).ownBlock ≠ some b := fun b hb h4 h5 => by
  rcases hat with e | ⟨b', e, hle⟩
  ·exact h4 (e ▸ h5)
  ·rw [e] at h5; injection h5 with h5; omega
 have hb1 := hg.block bo hlt (fun e => h3 e.symm)
 have hB := h.bd.grown hg h.bd.size (fun k hk => qBR h2 k hk)
 refine ⟨hB.setCell h.lo _, h.lo, A1, c1, qC2 (hb1.trans h1) 0 _ rfl, own_setCell ho (fun e => hne bo hlt h3 e.symm) _, hne bo hlt h3, fun p hp => ?_⟩
 have k1 := hk p (zz _ hp)
 have hpl := qCR k1.1
 exact ⟨(Below.heap_setCell _ _ _ _ k1.2.1).trans ((hg.block _ hpl (fun e => k1.2.2 e.symm)).trans k1.1), k1.2.1, hne _ hpl k1.2.2⟩
theorem app_run {o : Oper} {a : Act} {W w1 : World} {v1 : Value} (s x : Operand) (t : TypeId) (ho : o.op = .call { callee := .builtin .append, args := #[s, x], argTypes := #[t, t] }) (hty : o.type = t)
  (v u : Value) (hs : a.eval s = v) (hx : a.eval x = u) (hr : (Builtin.append_ #[t, t] t #[v, u]).run Tryz.prog W = .ok v1 w1) : (execOp a.eval o).run Tryz.prog W = .ok (.value v1) w1 := by
 unfold execOp
 simp only [ho, resolve, invoke, builtin, Sem.run_bind, Sem.run_pure, Result.andThen_ok, List.map_toArray, List.map_cons, List.map_nil, hs, hx, hty, hr]
theorem wp_append {ops : Array Oper} {rest : List Oper} {o : Oper} {a : Act} {Q : Exit → Act → World → Prop} {W w1 : World} {v1 : Value} (hgd : o.guard = none) (s x : Operand) (t : TypeId) (ho : o.op = .call { callee := .builtin .append, args := #[s, x], argTypes := #[t, t] }) (hty : o.type = t)
  (v u : Value) (hs : a.eval s = v) (hx : a.eval x = u) (hr : (Builtin.append_ #[t, t] t #[v, u]).run Tryz.prog W = .ok v1 w1) (h : wpList Tryz.prog ops Q rest (a.put o.dst v1) w1) : wpList Tryz.prog ops Q (o :: rest) a W :=
 wpList_plain hgd fun K hK => by
  unfold Oper.wp
  rw [app_run s x t ho hty v u hs hx hr]
  exact hK _ _ h
theorem appAny (W : World) (base : Nat) (v : Value) (L : List Value) (HO : W.ownsRow base 20 1 v L.length L) (g0 : Nat) (u : Value) (hblk : W.heap[g0]? = some (.cells #[u] 20 (0, 0))) (h1 : u.oneCell' = true) (hbase : base ≤ W.heap.size) (hl : L.length + 1 ≤ 1099511627776) :
  ∃ A c w1, (Builtin.append_ #[126, 126] 126 #[v, .slice (some ⟨g0, 0, none⟩) 1 1]).run Tryz.prog W = .ok (.slice A (L ++ [u]).length c) w1 ∧ w1.ownsRow base 20 1 (.slice A (L ++ [u]).length c) (L ++ [u]).length (L ++ [u]) ∧ W.grownBy w1 v.ownBlock ∧ ((Value.slice A (L ++ [u]).length c).ownBlock = v.ownBlock ∨ (Value.slice A (L ++ [u]).length c).ownBlock = some W.heap.size) := by
 obtain ⟨i0, hi, hz0, hz1, hz2⟩ := info_parts infoAny
 obtain ⟨v1, w1, hr, h2, h3, _, h5⟩ := run_append_own_at (P := Tryz.prog) W base 126 126 20 i0 .nilIface 1 16 Tryz.underlying126 hi hz0 hz1 hz2 rfl (by decide) v L.length L HO ⟨g0, 0, none⟩ 1 1 [u] rfl (World.news_of_block hblk)
  (fun q hq => by rw [List.mem_singleton.1 hq]; exact h1) (by simp only [maxLen]; omega) (by omega) hbase
 obtain ⟨A, c, rfl⟩ := own_slice h2
 exact ⟨A, c, w1, by rw [List.length_append]; exact hr, by rw [List.length_append]; exact h2, h3, by rw [List.length_append]; exact h5⟩
theorem FI.u2 {w0 W : World} {bo g : Nat} {K : List (Nat × Obj)} {L : List Value} {a0 a1 : Value} {t : TypeId} (h : FI w0 bo ((g, Obj.cells #[a0, a1] t (0, 0)) :: K) W L) : W.cell? ⟨g, 0, none⟩ = some a0 ∧ W.cell? ⟨g, 1, none⟩ = some a1 :=
 have q := h.at_ (List.mem_cons_self ..)
 ⟨(qA1 q 0).trans rfl, (qA1 q 1).trans rfl⟩
theorem FI.u5 {w0 W : World} {bo g : Nat} {K : List (Nat × Obj)} {L : List Value} {a0 a1 a2 a3 a4 : Value} {t : TypeId} (h : FI w0 bo ((g, Obj.cells #[a0, a1, a2, a3, a4] t (0, 0)) :: K) W L) : W.cell? ⟨g, 0, none⟩ = some a0 ∧ W.cell? ⟨g, 1, none⟩ = some a1 ∧ W.cell? ⟨g, 2, none⟩ = some a2 ∧ W.cell? ⟨g, 3, none⟩ = some a3 ∧ W.cell? ⟨g, 4, none⟩ = some a4 :=
 have q := h.at_ (List.mem_cons_self ..)
 ⟨(qA1 q 0).trans rfl, (qA1 q 1).trans rfl, (qA1 q 2).trans rfl, (qA1 q 3).trans rfl, (qA1 q 4).trans rfl⟩
theorem FI.u6 {w0 W : World} {bo g : Nat} {K : List (Nat × Obj)} {L : List Value} {a0 a1 a2 a3 a4 a5 : Value} {t : TypeId} (h : FI w0 bo ((g, Obj.cells #[a0, a1, a2, a3, a4, a5] t (0, 0)) :: K) W L) : W.cell? ⟨g, 0, none⟩ = some a0 ∧ W.cell? ⟨g, 1, none⟩ = some a1 ∧ W.cell? ⟨g, 2, none⟩ = some a2 ∧ W.cell? ⟨g, 3, none⟩ = some a3 ∧ W.cell? ⟨g, 4, none⟩ = some a4 ∧ W.cell? ⟨g, 5, none⟩ = some a5 :=
 have q := h.at_ (List.mem_cons_self ..)
 ⟨(qA1 q 0).trans rfl, (qA1 q 1).trans rfl, (qA1 q 2).trans rfl, (qA1 q 3).trans rfl, (qA1 q 4).trans rfl, (qA1 q 5).trans rfl⟩
theorem FI.u7 {w0 W : World} {bo g : Nat} {K : List (Nat × Obj)} {L : List Value} {a0 a1 a2 a3 a4 a5 a6 : Value} {t : TypeId} (h : FI w0 bo ((g, Obj.cells #[a0, a1, a2, a3, a4, a5, a6] t (0, 0)) :: K) W L) : W.cell? ⟨g, 0, none⟩ = some a0 ∧ W.cell? ⟨g, 1, none⟩ = some a1 ∧ W.cell? ⟨g, 2, none⟩ = some a2 ∧ W.cell? ⟨g, 3, none⟩ = some a3 ∧ W.cell? ⟨g, 4, none⟩ = some a4 ∧ W.cell? ⟨g, 5, none⟩ = some a5 ∧ W.cell? ⟨g, 6, none⟩ = some a6 :=
 have q := h.at_ (List.mem_cons_self ..)
 ⟨(qA1 q 0).trans rfl, (qA1 q 1).trans rfl, (qA1 q 2).trans rfl, (qA1 q 3).trans rfl, (qA1 q 4).trans rfl, (qA1 q 5).trans rfl, (qA1 q 6).trans rfl⟩
theorem FI.push {w0 W : World} {bo : Nat} {K : List (Nat × Obj)} {L : List Value} (h : FI w0 bo K W L) (u : Value) (h1 : u.oneCell' = true) (hl : L.length + 1 ≤ 1099511627776) : ∃ A c A1 c1 w1, W.cell? ⟨bo, 0, none⟩ = some (.slice A L.length c) ∧ W.frozen? ⟨bo, 0, none⟩ = false ∧ (Builtin.append_ #[126, 126] 126 #[.slice A L.length c, .slice (some ⟨W.heap.size, 0, none⟩) 1 1]).run Tryz.prog (W.alloc (.cells #[u] 20)) = .ok (.slice A1 (L ++ [u]).length c1) w1 ∧ w1.cell? ⟨bo, 0, none⟩ = some (.slice A L.length c) ∧ w1.frozen? ⟨bo, 0, none⟩ = false ∧ FI w0 bo K (w1.setCell ⟨bo, 0, none⟩ (.slice A1 (L ++ [u]).length c1)) (L ++ [u]) := by
 obtain ⟨A, c, h2, h3, h4, h5⟩ := h.out
 obtain ⟨A1, c1, w1, hr, ho, hg, hat⟩ := appAny (W.alloc (.cells #[u] 20)) w0.heap.size _ L (h3.alloc _) W.heap.size u (heap_alloc_new _ _) h1 (by have := h.bd.size; simp; omega) hl
 have h6 := hg.block bo (by have := qCR h2; simp; omega) (fun e => h4 e.symm)
 have h7 : w1.heap[bo]? = some (.cells #[.slice A L.length c] 126 (0, 0)) := h6.trans (qBV h2 _)
 exact ⟨A, c, A1, c1, w1, qA1 h2 0, qAZ h2 _, hr, qA1 h7 0, qAZ h7 _, (h.alloc (.cells #[u] 20)).put (qA1 (qBV h2 _) 0) ho hg (hat.imp id fun e => ⟨_, e, Nat.le_refl _⟩)⟩
set_option maxHeartbeats 4000000 in
set_option maxRecDepth 100000 in
theorem flatN {w0 : World} {bo : Nat} {K : List (Nat × Obj)} (A : Option Addr) (c : Nat) (xs : List Int) (L : List Value) (W : World) (h : FI w0 bo K W L) (hx : ∀ W' L', FI w0 bo K W' L' → Kd.C (Kd.int .i64) W' A xs.length xs) (hl : L.length + xs.length ≤ 1099511627776) :
  Calls Tryz.prog 79 #[.slice A xs.length c, .pointer (some ⟨bo, 0, none⟩)] W fun e W' => e = .returned (.tuple #[]) ∧ FI w0 bo K W' (L ++ xs.map iI) := by
 have H := zq (show FI w0 bo K W (L ++ (xs.take 0).map iI) by simpa using h)
 have HX := zq hx
 obtain ⟨i0, hi, hz0, hz1, hz2⟩ := info_parts infoAny
 clear h hx
 go_enter Tryz.func79, Tryz.ntmps79
 go_wp2_with fail
 go_loopw [7] (fun i wr => ∃ k : Nat, k ≤ xs.length ∧ i = .int .i64 k ∧ qA0 (FI w0 bo K wr (L ++ (xs.take k).map iI))) (fun i _ => xs.length - (intOf i).toNat)
 case atStart => exact ⟨0, Nat.zero_le _, rfl, H⟩
 case round =>
  clear H
  obtain ⟨k, hk, rfl, H⟩ := hrel
  by_cases hlt : k < xs.length
  ·obtain ⟨ad, rfl, hc⟩ := Kd.qCB (HX.out _ _ H.out) (k : Int) (by omega) (by omega)
   simp only [Int.toNat_natCast] at hc
   have hy : rd xs (k : Int) = xs.getD k 0 := by simp [rd]
   rw [hy] at hc
   have hget : xs[k]? = some (xs.getD k 0) := by rw [List.getD_eq_getElem?_getD, List.getElem?_eq_getElem hlt]; rfl
   have hlen : (L ++ (xs.take k).map iI).length + 1 ≤ 1099511627776 := by simp; omega
   have htk : (xs.take (k + 1)).map iI = (xs.take k).map iI ++ [iI (xs.getD k 0)] := by rw [List.take_add_one, hget]; simp
   generalize xs.getD k 0 = y at *
   have HF := H.out
   clear H
   generalize hLL : L ++ (xs.take k).map iI = LL at *
   obtain ⟨A0, c0, A1, c1, w1, h1, h2, h3, h4, h5, h6⟩ := HF.push (iI y) rfl hlen
   generalize hL1 : LL ++ [iI y] = L1 at *
   have HE := zq (And.intro hLL hL1)
   clear hLL hL1 HF hlen
   have HR := zq h3
   have HN := zq h6
   have HT := zq htk
   clear h3 h6 hy hget htk
   go_wp2_with (at_builtin; refine wp_append rfl (.tmp 11) (.tmp 14) 126 rfl rfl _ _ rfl rfl HR.out ?_)
   go_roundw
   case rel => exact ⟨k + 1, by omega, by first | rfl | (simp; done) | rw [Int.natCast_add]; rfl, ⟨by rw [HT.out, ← List.append_assoc, HE.out.1, HE.out.2]; exact HN.out⟩⟩
   case measure => show xs.length - ((k : Int) + 1).toNat < xs.length - (k : Int).toNat; omega
  ·obtain rfl : k = xs.length := by omega
   have HZ := zq H.out
   clear H
   go_wp2_with fail
   go_end0
   exact ⟨rfl, by have := HZ.out; rw [List.take_length] at this; exact this⟩
set_option maxHeartbeats 4000000 in
set_option maxRecDepth 100000 in
theorem flatT {w0 : World} {bo : Nat} {K : List (Nat × Obj)} (A : Option Addr) (c : Nat) (xs : List ByteArray) (L : List Value) (W : World) (h : FI w0 bo K W L) (hx : ∀ W' L', FI w0 bo K W' L' → Kd.C Kd.string W' A xs.length xs) (hl : L.length + xs.length ≤ 1099511627776) :
  Calls Tryz.prog 81 #[.slice A xs.length c, .pointer (some ⟨bo, 0, none⟩)] W fun e W' => e = .returned (.tuple #[]) ∧ FI w0 bo K W' (L ++ xs.map iS) := by
 have H := zq (show FI w0 bo K W (L ++ (xs.take 0).map iS) by simpa using h)
 have HX := zq hx
 obtain ⟨i0, hi, hz0, hz1, hz2⟩ := info_parts infoAny
 clear h hx
 go_enter Tryz.func81, Tryz.ntmps81
 go_wp2_with fail
 go_loopw [7] (fun i wr => ∃ k : Nat, k ≤ xs.length ∧ i = .int .i64 k ∧ qA0 (FI w0 bo K wr (L ++ (xs.take k).map iS))) (fun i _ => xs.length - (intOf i).toNat)
 case atStart => exact ⟨0, Nat.zero_le _, rfl, H⟩
 case round =>
  clear H
  obtain ⟨k, hk, rfl, H⟩ := hrel
  by_cases hlt : k < xs.length
  ·obtain ⟨ad, rfl, hc⟩ := Kd.qET (HX.out _ _ H.out) (k : Int) (by omega) (by omega)
   simp only [Int.toNat_natCast] at hc
   have hy : rdOf ByteArray.empty xs (k : Int) = xs.getD k ByteArray.empty := by simp [rdOf]
   rw [hy] at hc
   have hget : xs[k]? = some (xs.getD k ByteArray.empty) := by rw [List.getD_eq_getElem?_getD, List.getElem?_eq_getElem hlt]; rfl
   have hlen : (L ++ (xs.take k).map iS).length + 1 ≤ 1099511627776 := by simp; omega
   have htk : (xs.take (k + 1)).map iS = (xs.take k).map iS ++ [iS (xs.getD k ByteArray.empty)] := by rw [List.take_add_one, hget]; simp
   generalize xs.getD k ByteArray.empty = y at *
   have HF := H.out
   clear H
   generalize hLL : L ++ (xs.take k).map iS = LL at *
   obtain ⟨A0, c0, A1, c1, w1, h1, h2, h3, h4, h5, h6⟩ := HF.push (iS y) rfl hlen
   generalize hL1 : LL ++ [iS y] = L1 at *
   have HE := zq (And.intro hLL hL1)
   clear hLL hL1 HF hlen
   have HR := zq h3
   have HN := zq h6
   have HT := zq htk
   clear h3 h6 hy hget htk
   go_wp2_with (at_builtin; refine wp_append rfl (.tmp 11) (.tmp 14) 126 rfl rfl _ _ rfl rfl HR.out ?_)
   go_roundw
   case rel => exact ⟨k + 1, by omega, by first | rfl | (simp; done) | rw [Int.natCast_add]; rfl, ⟨by rw [HT.out, ← List.append_assoc, HE.out.1, HE.out.2]; exact HN.out⟩⟩
   case measure => show xs.length - ((k : Int) + 1).toNat < xs.length - (k : Int).toNat; omega
  ·obtain rfl : k = xs.length := by omega
   have HZ := zq H.out
   clear H
   go_wp2_with fail
   go_end0
   exact ⟨rfl, by have := HZ.out; rw [List.take_length] at this; exact this⟩
theorem blkN {W : World} {q : Nat} {xs : List Int} (h : W.heap[q]? = some (.cells (xs.map (Value.int .i64)).toArray 3 (0, 0))) (hl : xs.length ≤ 9223372036854775807) : Kd.C (Kd.int .i64) W (some ⟨q, 0, none⟩) xs.length xs :=
 ⟨rfl, hl, fun _ => ⟨_, rfl, fun j p hp => ⟨[.int .i64 p], rfl, rfl, fun i u hu => by
  cases i with
  | zero =>
   obtain rfl := zy hu
   have e : j * (Kd.int .i64).sz + 0 = j := Nat.mul_one j
   rw [e, add_plain]
   exact (qA1 h j).trans (by simp [hp])
  | succ i => cases hu⟩⟩⟩
theorem blkT {W : World} {q : Nat} {xs : List ByteArray} (h : W.heap[q]? = some (.cells (xs.map Value.string).toArray 9 (0, 0))) (hl : xs.length ≤ 9223372036854775807) : Kd.C Kd.string W (some ⟨q, 0, none⟩) xs.length xs :=
 ⟨rfl, hl, fun _ => ⟨_, rfl, fun j p hp => ⟨[.string p], rfl, rfl, fun i u hu => by
  cases i with
  | zero =>
   obtain rfl := zy hu
   have e : j * Kd.string.sz + 0 = j := Nat.mul_one j
   rw [e, add_plain]
   exact (qA1 h j).trans (by simp [hp])
  | succ i => cases hu⟩⟩⟩
theorem callN {w0 W : World} {bo q : Nat} {K : List (Nat × Obj)} {L : List Value} (h : FI w0 bo K W L) (xs : List Int) (hl : L.length + xs.length ≤ 1099511627776) (hq : q = W.heap.size) :
  Calls Tryz.prog 79 #[.slice (some ⟨q, 0, none⟩) xs.length xs.length, .pointer (some ⟨bo, 0, none⟩)] (W.alloc (.cells (xs.map (Value.int .i64)).toArray 3)) fun e W' => e = .returned (.tuple #[]) ∧ FI w0 bo K W' (L ++ xs.map iI) :=
 hq ▸ (flatN _ _ xs L _ (h.alloc _) (fun W' L' h' => blkN (h'.at_ (List.mem_cons_self ..)) (by omega)) hl).mono fun e W' ⟨h1, h2⟩ => ⟨h1, h2.sub fun p hp => zz _ hp⟩
theorem callT {w0 W : World} {bo q : Nat} {K : List (Nat × Obj)} {L : List Value} (h : FI w0 bo K W L) (xs : List ByteArray) (hl : L.length + xs.length ≤ 1099511627776) (hq : q = W.heap.size) :
  Calls Tryz.prog 81 #[.slice (some ⟨q, 0, none⟩) xs.length xs.length, .pointer (some ⟨bo, 0, none⟩)] (W.alloc (.cells (xs.map Value.string).toArray 9)) fun e W' => e = .returned (.tuple #[]) ∧ FI w0 bo K W' (L ++ xs.map iS) :=
 hq ▸ (flatT _ _ xs L _ (h.alloc _) (fun W' L' h' => blkT (h'.at_ (List.mem_cons_self ..)) (by omega)) hl).mono fun e W' ⟨h1, h2⟩ => ⟨h1, h2.sub fun p hp => zz _ hp⟩
def fN (bo : Nat) : Value := .func (.func 79) #[] #[.pointer (some ⟨bo, 0, none⟩)]
def fY (bN : Nat) : Value := .func (.func 80) #[] #[.pointer (some ⟨bN, 0, none⟩)]
def fT (bo : Nat) : Value := .func (.func 81) #[] #[.pointer (some ⟨bo, 0, none⟩)]
def fE (bN bT : Nat) : Value := .func (.func 82) #[] #[.pointer (some ⟨bN, 0, none⟩), .pointer (some ⟨bT, 0, none⟩)]
def tokB (b : Bool) : List Value := [iI (if b then 1 else 0)]
def qE4 (x : S79) : List Value := [iI x.f0, iI x.f1.length] ++ x.f1.map iI ++ [iI x.f2, iI x.f3] ++ [iS x.f4]
def qDG (e : List S79) : List Value := [iI e.length] ++ e.flatMap qE4
def qEL (s : S75) : List Value := [iI s.f0, iI s.f1]
def qFC (r : S59) : List Value := [iS r.f0, iS r.f1]
def qDS (t : S73) : List Value := [iS t.f0] ++ [iI t.f1, iI t.f2] ++ tokB t.f3 ++ [iI t.f4.length] ++ t.f4.flatMap qEL
def qED (x : S55) : List Value := [iS x.f0, iS x.f1] ++ qDG x.f2 ++ qDG x.f3 ++ [iI x.f4.length] ++ x.f4.flatMap qFC ++ [iI x.f5]
def qCN (x : S98) : List Value := [iS x.f0] ++ [iI x.f1] ++ tokB x.f2 ++ [iI x.f3, iI x.f4, iI x.f5.f0, iI x.f5.f1]
def qEE (a : S49) : List Value := [iS a.f0] ++ [iI a.f1, iI a.f2, iI a.f3.length] ++ a.f3.flatMap qCN ++ [iI a.f4.length] ++ a.f4.flatMap qDS ++ [iI a.f5.length] ++ a.f5.flatMap qED
def qD4 (b : List S49) : List Value := [iI b.length] ++ b.flatMap qEE ++ [iI 0] ++ [iI 0]
theorem fm_succ {α β : Type} (f : α → List β) {l : List α} {k : Nat} {x : α} (h : l[k]? = some x) : (l.take (k + 1)).flatMap f = (l.take k).flatMap f ++ f x := by
 rw [List.take_add_one, h, List.flatMap_append]; simp
theorem fm_lt {α β : Type} (f : α → List β) {l : List α} {k : Nat} {x : α} (h : l[k]? = some x) : ((l.take k).flatMap f).length + (f x).length ≤ (l.flatMap f).length := by
 have e := congrArg (fun z => (z.flatMap f).length) (List.take_append_drop (k + 1) l)
 simp only [List.flatMap_append, List.length_append, fm_succ f h] at e
 omega
set_option maxHeartbeats 4000000 in
set_option maxRecDepth 100000 in
theorem flatY {w0 : World} {bo bN : Nat} {K : List (Nat × Obj)} (hN : (bN, Obj.cells #[fN bo] 149 (0, 0)) ∈ K) (b : Bool) (L : List Value) (W : World) (h : FI w0 bo K W L) (hl : L.length + 1 ≤ 1099511627776) :
  Calls Tryz.prog 80 #[.bool b, .pointer (some ⟨bN, 0, none⟩)] W fun e W' => e = .returned (.tuple #[]) ∧ FI w0 bo K W' (L ++ tokB b) := by
 have cN : W.cell? ⟨bN, 0, none⟩ = some (.func (.func 79) #[] #[.pointer (some ⟨bo, 0, none⟩)]) := (qA1 (h.at_ hN) 0).trans rfl
 have H := zq h
 clear h
 go_enter Tryz.func80, Tryz.ntmps80
 cases b
 ·go_wp2_with fail
  refine (callN H.out [0] hl rfl).mono ?_
  rintro e W2 ⟨rfl, h2⟩
  have HZ := zq h2
  clear h2 H cN
  go_wp2_with fail
  go_end0
  exact ⟨rfl, HZ.out⟩
 ·go_wp2_with fail
  refine (callN H.out [1] hl rfl).mono ?_
  rintro e W2 ⟨rfl, h2⟩
  have HZ := zq h2
  clear h2 H cN
  go_wp2_with fail
  go_end0
  exact ⟨rfl, HZ.out⟩
set_option maxHeartbeats 4000000 in
set_option maxRecDepth 100000 in
theorem flatE {w0 : World} {bo bN bT : Nat} {K : List (Nat × Obj)} (hN : (bN, Obj.cells #[fN bo] 149 (0, 0)) ∈ K) (hT : (bT, Obj.cells #[fT bo] 151 (0, 0)) ∈ K) (A : Option Addr) (c : Nat) (l : List S79) (L : List Value) (W : World) (h : FI w0 bo K W L) (hx : Kd.C k79 w0 A l.length l) (hl : L.length + (qDG l).length ≤ 1099511627776) :
  Calls Tryz.prog 82 #[.slice A l.length c, .pointer (some ⟨bN, 0, none⟩), .pointer (some ⟨bT, 0, none⟩)] W fun e W' => e = .returned (.tuple #[]) ∧ FI w0 bo K W' (L ++ qDG l) := by
 have H := zq h
 have HX := zq hx
 have hm := Kd.qE9 hx
 have HL : qA0 (L.length + 1 + (l.flatMap qE4).length ≤ 1099511627776) := ⟨by simp only [qDG, List.length_append, List.length_singleton] at hl; omega⟩
 clear h hx hl
 have cN : W.cell? ⟨bN, 0, none⟩ = some (.func (.func 79) #[] #[.pointer (some ⟨bo, 0, none⟩)]) := (qA1 (H.out.at_ hN) 0).trans rfl
 go_enter Tryz.func82, Tryz.ntmps82
 go_wp2_with fail
 refine (callN H.out [(l.length : Int)] (by have := HL.out; simp; omega) rfl).mono ?_
 rintro e W1 ⟨rfl, h1⟩
 have H1 : qA0 (FI w0 bo K W1 (L ++ [iI l.length] ++ (l.take 0).flatMap qE4)) := ⟨by simpa using h1⟩
 clear h1 H cN
 go_wp2_with fail
 go_loopw [13] (fun i wr => ∃ k : Nat, k ≤ l.length ∧ i = .int .i64 k ∧ qA0 (FI w0 bo K wr (L ++ [iI l.length] ++ (l.take k).flatMap qE4))) (fun i _ => l.length - (intOf i).toNat)
 case atStart => exact ⟨0, Nat.zero_le _, rfl, H1⟩
 case round =>
  clear H1
  obtain ⟨k, hk, rfl, H⟩ := hrel
  by_cases hlt : k < l.length
  ·have hC := HX.out
   obtain ⟨ad, D, d, rfl, x0, x1, x2, x3, x4, hlD, hCD⟩ := at_T79 hC (k : Int) (by omega) (by omega)
   have e_ : qA3 l (k : Int) = l.getD k z79 := by simp [qA3]
   have hget : l[k]? = some (l.getD k z79) := by rw [List.getD_eq_getElem?_getD, List.getElem?_eq_getElem hlt]; rfl
   rw [e_] at x0 x1 x2 x3 x4 hlD hCD
   simp only [Int.toNat_natCast] at x0 x1 x2 x3 x4
   replace x0 := qA2 H.out.bd x0
   replace x1 := qA2 H.out.bd x1
   replace x2 := qA2 H.out.bd x2
   replace x3 := qA2 H.out.bd x3
   replace x4 := qA2 H.out.bd x4
   clear e_ hC
   generalize l.getD k z79 = x at *
   have hts : (L ++ [iI l.length] ++ (l.take k).flatMap qE4).length + (qE4 x).length ≤ 1099511627776 := by have h1 := fm_lt qE4 hget; have h2 := HL.out; simp only [List.length_append, List.length_singleton] at h1 ⊢; omega
   have htk := fm_succ qE4 hget
   have htx : (qE4 x).length = 5 + x.f1.length := by simp [qE4]; omega
   generalize hLL : L ++ [iI l.length] ++ (l.take k).flatMap qE4 = LL at *
   have HE := zq (And.intro hLL (And.intro htk hCD))
   have HB := zq (show LL.length + (5 + x.f1.length) ≤ 1099511627776 by rw [← htx]; exact hts)
   clear hLL htk hts htx hget hCD
   go_wp2_with ((with_reducible refine qC8 (t := 79) (p := 5) rfl ?_); refine qD2 (t := 79) (p := 5) (g := wr.heap.size) (cur := #[.int .i64 0, .slice none 0 0, .int .i64 0, .int .i64 0, .string ⟨#[]⟩]) (e := 79) rfl rfl rfl rfl rfl (heap_alloc_new _ _) [.int .i64 x.f0, .slice D x.f1.length d, .int .i64 x.f2, .int .i64 x.f3, .string x.f4] rfl rfl rfl ?h1 ?_; (case h1 => intro q hq_; simp only [List.mem_cons, List.not_mem_nil, or_false] at hq_; rcases hq_ with rfl | rfl | rfl | rfl | rfl <;> rfl); intro w4 hblk hsame hB_; have HPn : qA0 (FI w0 bo ((wr.heap.size, Obj.cells #[.int .i64 x.f0, .slice D x.f1.length d, .int .i64 x.f2, .int .i64 x.f3, .string x.f4] 79 (0, 0)) :: K) w4 LL) := ⟨H.out.grow (hB_ _ _ (qAA (Below.refl wr.heap.size wr) _) (Nat.le_refl _)) (Nat.le_refl _) hblk⟩; have cN : w4.cell? ⟨bN, 0, none⟩ = some (.func (.func 79) #[] #[.pointer (some ⟨bo, 0, none⟩)]) := (qA1 (HPn.out.at_ (zz _ hN)) 0).trans rfl; have cT : w4.cell? ⟨bT, 0, none⟩ = some (.func (.func 81) #[] #[.pointer (some ⟨bo, 0, none⟩)]) := (qA1 (HPn.out.at_ (zz _ hT)) 0).trans rfl; have u0 : w4.cell? ⟨wr.heap.size, 0, none⟩ = some (.int .i64 x.f0) := (qA1 (HPn.out.at_ (List.mem_cons_self ..)) 0).trans rfl; have u1 : w4.cell? ⟨wr.heap.size, 1, none⟩ = some (.slice D x.f1.length d) := (qA1 (HPn.out.at_ (List.mem_cons_self ..)) 1).trans rfl; have u2 : w4.cell? ⟨wr.heap.size, 2, none⟩ = some (.int .i64 x.f2) := (qA1 (HPn.out.at_ (List.mem_cons_self ..)) 2).trans rfl; have u3 : w4.cell? ⟨wr.heap.size, 3, none⟩ = some (.int .i64 x.f3) := (qA1 (HPn.out.at_ (List.mem_cons_self ..)) 3).trans rfl; have u4 : w4.cell? ⟨wr.heap.size, 4, none⟩ = some (.string x.f4) := (qA1 (HPn.out.at_ (List.mem_cons_self ..)) 4).trans rfl; clear hB_ hsame hblk)
   refine (callN HPn.out [x.f0, (x.f1.length : Int)] (by have := HB.out; simp; omega) (by simp)).mono ?_
   rintro e W2 ⟨rfl, h2⟩
   have H2 := zq h2
   clear h2 cN cT u0 u1 u2 u3 u4 x0 x1 x2 x3 x4
   have cN : W2.cell? ⟨bN, 0, none⟩ = some (.func (.func 79) #[] #[.pointer (some ⟨bo, 0, none⟩)]) := (qA1 (H2.out.at_ (zz _ hN)) 0).trans rfl
   have cT : W2.cell? ⟨bT, 0, none⟩ = some (.func (.func 81) #[] #[.pointer (some ⟨bo, 0, none⟩)]) := (qA1 (H2.out.at_ (zz _ hT)) 0).trans rfl
   obtain ⟨u0, u1, u2, u3, u4⟩ := H2.out.u5
   go_wp2_with fail
   refine (flatN D d x.f1 _ _ H2.out (fun W' L' h' => Kd.qAB HE.out.2.2 h'.bd) (by have := HB.out; simp; omega)).mono ?_
   rintro e W3 ⟨rfl, h3⟩
   have H3 := zq h3
   clear h3 cN cT u0 u1 u2 u3 u4
   have cN : W3.cell? ⟨bN, 0, none⟩ = some (.func (.func 79) #[] #[.pointer (some ⟨bo, 0, none⟩)]) := (qA1 (H3.out.at_ (zz _ hN)) 0).trans rfl
   have cT : W3.cell? ⟨bT, 0, none⟩ = some (.func (.func 81) #[] #[.pointer (some ⟨bo, 0, none⟩)]) := (qA1 (H3.out.at_ (zz _ hT)) 0).trans rfl
   obtain ⟨u0, u1, u2, u3, u4⟩ := H3.out.u5
   go_wp2_with fail
   refine (callN H3.out [x.f2, x.f3] (by have := HB.out; simp; omega) (by simp)).mono ?_
   rintro e W4 ⟨rfl, h4⟩
   have H4 := zq h4
   clear h4 cN cT u0 u1 u2 u3 u4
   have cN : W4.cell? ⟨bN, 0, none⟩ = some (.func (.func 79) #[] #[.pointer (some ⟨bo, 0, none⟩)]) := (qA1 (H4.out.at_ (zz _ hN)) 0).trans rfl
   have cT : W4.cell? ⟨bT, 0, none⟩ = some (.func (.func 81) #[] #[.pointer (some ⟨bo, 0, none⟩)]) := (qA1 (H4.out.at_ (zz _ hT)) 0).trans rfl
   obtain ⟨u0, u1, u2, u3, u4⟩ := H4.out.u5
   go_wp2_with fail
   refine (callT H4.out [x.f4] (by have := HB.out; simp; omega) (by simp)).mono ?_
   rintro e W5 ⟨rfl, h5⟩
   have H5 := zq h5
   clear h5 cN cT u0 u1 u2 u3 u4
   go_wp2_with fail
   go_roundw
   case rel => exact ⟨k + 1, by omega, by first | rfl | (simp; done) | rw [Int.natCast_add]; rfl, ⟨by rw [HE.out.2.1, ← List.append_assoc, HE.out.1]; have h_ := H5.out.sub (fun p hp => zz _ hp); simpa [qE4, List.append_assoc] using h_⟩⟩
   case measure => show l.length - ((k : Int) + 1).toNat < l.length - (k : Int).toNat; omega
  ·obtain rfl : k = l.length := by omega
   have HZ := zq H.out
   clear H
   go_wp2_with fail
   go_end0
   exact ⟨rfl, by have h_ := HZ.out; rw [List.take_length] at h_; simpa [qDG] using h_⟩
set_option maxHeartbeats 4000000 in
set_option maxRecDepth 100000 in
theorem flatB {w0 : World} {bo bN bT bY : Nat} {K : List (Nat × Obj)} (hN : (bN, Obj.cells #[fN bo] 149 (0, 0)) ∈ K) (hT : (bT, Obj.cells #[fT bo] 151 (0, 0)) ∈ K) (hY : (bY, Obj.cells #[fY bN] 150 (0, 0)) ∈ K) (t : S73) (A4 : Option Addr) (c4 : Nat) (L : List Value) (W : World) (h : FI w0 bo K W L) (hx : Kd.C k75 w0 A4 t.f4.length t.f4) (hl : L.length + (qDS t).length ≤ 1099511627776) :
  Calls Tryz.prog 83 #[.agg #[.string t.f0, .int .i64 t.f1, .int .i64 t.f2, .bool t.f3, .slice A4 t.f4.length c4], .pointer (some ⟨bT, 0, none⟩), .pointer (some ⟨bN, 0, none⟩), .pointer (some ⟨bY, 0, none⟩)] W fun e W' => e = .returned (.tuple #[]) ∧ FI w0 bo K W' (L ++ qDS t) := by
 have H0 := zq (h.alloc (.cells #[.string t.f0, .int .i64 t.f1, .int .i64 t.f2, .bool t.f3, .slice A4 t.f4.length c4] 73))
 have HX := zq hx
 have hm := Kd.qE9 hx
 have HL : qA0 (L.length + 5 + (t.f4.flatMap qEL).length ≤ 1099511627776) := ⟨by simp only [qDS, tokB, List.length_append, List.length_singleton, List.length_cons, List.length_nil] at hl; omega⟩
 clear h hx hl
 have cN : (W.alloc (.cells #[.string t.f0, .int .i64 t.f1, .int .i64 t.f2, .bool t.f3, .slice A4 t.f4.length c4] 73)).cell? ⟨bN, 0, none⟩ = some (.func (.func 79) #[] #[.pointer (some ⟨bo, 0, none⟩)]) := (qA1 (H0.out.at_ (zz _ hN)) 0).trans rfl
 have cT : (W.alloc (.cells #[.string t.f0, .int .i64 t.f1, .int .i64 t.f2, .bool t.f3, .slice A4 t.f4.length c4] 73)).cell? ⟨bT, 0, none⟩ = some (.func (.func 81) #[] #[.pointer (some ⟨bo, 0, none⟩)]) := (qA1 (H0.out.at_ (zz _ hT)) 0).trans rfl
 have cY : (W.alloc (.cells #[.string t.f0, .int .i64 t.f1, .int .i64 t.f2, .bool t.f3, .slice A4 t.f4.length c4] 73)).cell? ⟨bY, 0, none⟩ = some (.func (.func 80) #[] #[.pointer (some ⟨bN, 0, none⟩)]) := (qA1 (H0.out.at_ (zz _ hY)) 0).trans rfl
 obtain ⟨u0, u1, u2, u3, u4⟩ := H0.out.u5
 go_enter Tryz.func83, Tryz.ntmps83
 go_wp2_with fail
 refine (callT H0.out [t.f0] (by have := HL.out; simp; omega) (by simp)).mono ?_
 rintro e W1 ⟨rfl, h1⟩
 have H1 := zq h1
 clear h1 cN cT cY u0 u1 u2 u3 u4 H0
 have cN : W1.cell? ⟨bN, 0, none⟩ = some (.func (.func 79) #[] #[.pointer (some ⟨bo, 0, none⟩)]) := (qA1 (H1.out.at_ (zz _ hN)) 0).trans rfl
 have cT : W1.cell? ⟨bT, 0, none⟩ = some (.func (.func 81) #[] #[.pointer (some ⟨bo, 0, none⟩)]) := (qA1 (H1.out.at_ (zz _ hT)) 0).trans rfl
 have cY : W1.cell? ⟨bY, 0, none⟩ = some (.func (.func 80) #[] #[.pointer (some ⟨bN, 0, none⟩)]) := (qA1 (H1.out.at_ (zz _ hY)) 0).trans rfl
 obtain ⟨u0, u1, u2, u3, u4⟩ := H1.out.u5
 go_wp2_with fail
 refine (callN H1.out [t.f1, t.f2] (by have := HL.out; simp; omega) (by simp)).mono ?_
 rintro e W2 ⟨rfl, h2⟩
 have H2 := zq h2
 clear h2 cN cT cY u0 u1 u2 u3 u4
 have cN : W2.cell? ⟨bN, 0, none⟩ = some (.func (.func 79) #[] #[.pointer (some ⟨bo, 0, none⟩)]) := (qA1 (H2.out.at_ (zz _ hN)) 0).trans rfl
 have cT : W2.cell? ⟨bT, 0, none⟩ = some (.func (.func 81) #[] #[.pointer (some ⟨bo, 0, none⟩)]) := (qA1 (H2.out.at_ (zz _ hT)) 0).trans rfl
 have cY : W2.cell? ⟨bY, 0, none⟩ = some (.func (.func 80) #[] #[.pointer (some ⟨bN, 0, none⟩)]) := (qA1 (H2.out.at_ (zz _ hY)) 0).trans rfl
 obtain ⟨u0, u1, u2, u3, u4⟩ := H2.out.u5
 go_wp2_with fail
 refine (flatY (zz _ hN) t.f3 _ _ H2.out (by have := HL.out; simp; omega)).mono ?_
 rintro e W3 ⟨rfl, h3⟩
 have H3 := zq h3
 clear h3 cN cT cY u0 u1 u2 u3 u4
 have cN : W3.cell? ⟨bN, 0, none⟩ = some (.func (.func 79) #[] #[.pointer (some ⟨bo, 0, none⟩)]) := (qA1 (H3.out.at_ (zz _ hN)) 0).trans rfl
 have cT : W3.cell? ⟨bT, 0, none⟩ = some (.func (.func 81) #[] #[.pointer (some ⟨bo, 0, none⟩)]) := (qA1 (H3.out.at_ (zz _ hT)) 0).trans rfl
 have cY : W3.cell? ⟨bY, 0, none⟩ = some (.func (.func 80) #[] #[.pointer (some ⟨bN, 0, none⟩)]) := (qA1 (H3.out.at_ (zz _ hY)) 0).trans rfl
 obtain ⟨u0, u1, u2, u3, u4⟩ := H3.out.u5
 go_wp2_with fail
 refine (callN H3.out [(t.f4.length : Int)] (by have := HL.out; simp [tokB]; omega) rfl).mono ?_
 rintro e W4 ⟨rfl, h4⟩
 have u4' : W4.cell? ⟨W.heap.size, 4, none⟩ = some (.slice A4 t.f4.length c4) := (qA1 (h4.at_ (List.mem_cons_self ..)) 4).trans rfl
 have H4 : qA0 (FI w0 bo K W4 (L ++ ([iS t.f0] ++ [iI t.f1, iI t.f2] ++ tokB t.f3 ++ [iI t.f4.length]) ++ (t.f4.take 0).flatMap qEL)) := ⟨by have h_ := h4.sub (fun p hp => zz _ hp); simpa [List.append_assoc] using h_⟩
 clear h4 H1 H2 H3 cN cT cY u0 u1 u2 u3 u4
 go_wp2_with fail
 go_loopw [32] (fun i wr => ∃ k : Nat, k ≤ t.f4.length ∧ i = .int .i64 k ∧ qA0 (FI w0 bo K wr (L ++ ([iS t.f0] ++ [iI t.f1, iI t.f2] ++ tokB t.f3 ++ [iI t.f4.length]) ++ (t.f4.take k).flatMap qEL))) (fun i _ => t.f4.length - (intOf i).toNat)
 case atStart => exact ⟨0, Nat.zero_le _, rfl, H4⟩
 case round =>
  clear H4
  obtain ⟨k, hk, rfl, H⟩ := hrel
  by_cases hlt : k < t.f4.length
  ·skip
   have hC := HX.out
   obtain ⟨ad, rfl, x0, x1⟩ := at_T75 hC (k : Int) (by omega) (by omega)
   have e_ : qD0 t.f4 (k : Int) = t.f4.getD k z75 := by simp [qD0]
   have hget : t.f4[k]? = some (t.f4.getD k z75) := by rw [List.getD_eq_getElem?_getD, List.getElem?_eq_getElem hlt]; rfl
   rw [e_] at x0 x1
   simp only [Int.toNat_natCast] at x0 x1
   replace x0 := qA2 H.out.bd x0
   replace x1 := qA2 H.out.bd x1
   clear e_ hC
   generalize t.f4.getD k z75 = x at *
   have hts : (L ++ ([iS t.f0] ++ [iI t.f1, iI t.f2] ++ tokB t.f3 ++ [iI t.f4.length]) ++ (t.f4.take k).flatMap qEL).length + (qEL x).length ≤ 1099511627776 := by have h1 := fm_lt qEL hget; have h2 := HL.out; simp only [tokB, List.length_append, List.length_singleton, List.length_cons, List.length_nil] at h1 h2 ⊢; omega
   have htk := fm_succ qEL hget
   generalize hLL : L ++ ([iS t.f0] ++ [iI t.f1, iI t.f2] ++ tokB t.f3 ++ [iI t.f4.length]) ++ (t.f4.take k).flatMap qEL = LL at *
   have HE := zq (And.intro hLL (And.intro htk trivial))
   have HB := zq hts
   clear hLL htk hts hget
   go_wp2_with ((with_reducible refine qC8 (t := 75) (p := 6) rfl ?_); refine qD2 (t := 75) (p := 6) (g := wr.heap.size) (cur := #[.int .i64 0, .int .i64 0]) (e := 75) rfl rfl rfl rfl rfl (heap_alloc_new _ _) [.int .i64 x.f0, .int .i64 x.f1] rfl rfl rfl ?h1 ?_; (case h1 => intro q hq_; simp only [List.mem_cons, List.not_mem_nil, or_false] at hq_; rcases hq_ with rfl | rfl <;> rfl); intro w4 hblk hsame hB_; have HPn : qA0 (FI w0 bo ((wr.heap.size, Obj.cells #[.int .i64 x.f0, .int .i64 x.f1] 75 (0, 0)) :: K) w4 LL) := ⟨H.out.grow (hB_ _ _ (qAA (Below.refl wr.heap.size wr) _) (Nat.le_refl _)) (Nat.le_refl _) hblk⟩; have cN : w4.cell? ⟨bN, 0, none⟩ = some (.func (.func 79) #[] #[.pointer (some ⟨bo, 0, none⟩)]) := (qA1 (HPn.out.at_ (zz _ hN)) 0).trans rfl; have u0 : w4.cell? ⟨wr.heap.size, 0, none⟩ = some (.int .i64 x.f0) := (qA1 (HPn.out.at_ (List.mem_cons_self ..)) 0).trans rfl; have u1 : w4.cell? ⟨wr.heap.size, 1, none⟩ = some (.int .i64 x.f1) := (qA1 (HPn.out.at_ (List.mem_cons_self ..)) 1).trans rfl; clear hB_ hsame hblk)
   refine (callN HPn.out [x.f0, x.f1] (by have := HB.out; simp [qEL] at this ⊢; omega) (by simp)).mono ?_
   rintro e W5 ⟨rfl, h5⟩
   have H5 := zq h5
   clear h5 cN u0 u1 x0 x1
   go_wp2_with fail
   go_roundw
   case rel => exact ⟨k + 1, by omega, by first | rfl | (simp; done) | rw [Int.natCast_add]; rfl, ⟨by rw [HE.out.2.1, ← List.append_assoc, HE.out.1]; have h_ := H5.out.sub (fun p hp => zz _ hp); simpa [qEL, tokB, List.append_assoc] using h_⟩⟩
   case measure => show t.f4.length - ((k : Int) + 1).toNat < t.f4.length - (k : Int).toNat; omega
  ·obtain rfl : k = t.f4.length := by omega
   have HZ := zq H.out
   clear H
   go_wp2_with fail
   go_end0
   exact ⟨rfl, by have h_ := HZ.out; rw [List.take_length] at h_; simpa [qDS, List.append_assoc] using h_⟩
set_option maxHeartbeats 4000000 in
set_option maxRecDepth 100000 in
theorem flatA {w0 : World} {bo bN bT bE : Nat} {K : List (Nat × Obj)} (hN : (bN, Obj.cells #[fN bo] 149 (0, 0)) ∈ K) (hT : (bT, Obj.cells #[fT bo] 151 (0, 0)) ∈ K) (hE : (bE, Obj.cells #[fE bN bT] 152 (0, 0)) ∈ K) (t : S55) (A2 A3 A4 : Option Addr) (c2 c3 c4 : Nat) (L : List Value) (W : World) (h : FI w0 bo K W L) (hx2 : Kd.C k79 w0 A2 t.f2.length t.f2) (hx3 : Kd.C k79 w0 A3 t.f3.length t.f3) (hx : Kd.C k59 w0 A4 t.f4.length t.f4) (hl : L.length + (qED t).length ≤ 1099511627776) :
  Calls Tryz.prog 84 #[.agg #[.string t.f0, .string t.f1, .slice A2 t.f2.length c2, .slice A3 t.f3.length c3, .slice A4 t.f4.length c4, .int .i64 t.f5], .pointer (some ⟨bT, 0, none⟩), .pointer (some ⟨bE, 0, none⟩), .pointer (some ⟨bN, 0, none⟩)] W fun e W' => e = .returned (.tuple #[]) ∧ FI w0 bo K W' (L ++ qED t) := by
 have H0 := zq (h.alloc (.cells #[.string t.f0, .string t.f1, .slice A2 t.f2.length c2, .slice A3 t.f3.length c3, .slice A4 t.f4.length c4, .int .i64 t.f5] 55))
 have HX := zq hx
 have HX2 := zq (And.intro hx2 hx3)
 have hm := Kd.qE9 hx
 have HL : qA0 (L.length + 4 + (qDG t.f2).length + (qDG t.f3).length + (t.f4.flatMap qFC).length ≤ 1099511627776) := ⟨by simp only [qED, List.length_append, List.length_singleton, List.length_cons, List.length_nil] at hl; omega⟩
 clear h hx hx2 hx3 hl
 have cN : (W.alloc (.cells #[.string t.f0, .string t.f1, .slice A2 t.f2.length c2, .slice A3 t.f3.length c3, .slice A4 t.f4.length c4, .int .i64 t.f5] 55)).cell? ⟨bN, 0, none⟩ = some (.func (.func 79) #[] #[.pointer (some ⟨bo, 0, none⟩)]) := (qA1 (H0.out.at_ (zz _ hN)) 0).trans rfl
 have cT : (W.alloc (.cells #[.string t.f0, .string t.f1, .slice A2 t.f2.length c2, .slice A3 t.f3.length c3, .slice A4 t.f4.length c4, .int .i64 t.f5] 55)).cell? ⟨bT, 0, none⟩ = some (.func (.func 81) #[] #[.pointer (some ⟨bo, 0, none⟩)]) := (qA1 (H0.out.at_ (zz _ hT)) 0).trans rfl
 have cE : (W.alloc (.cells #[.string t.f0, .string t.f1, .slice A2 t.f2.length c2, .slice A3 t.f3.length c3, .slice A4 t.f4.length c4, .int .i64 t.f5] 55)).cell? ⟨bE, 0, none⟩ = some (.func (.func 82) #[] #[.pointer (some ⟨bN, 0, none⟩), .pointer (some ⟨bT, 0, none⟩)]) := (qA1 (H0.out.at_ (zz _ hE)) 0).trans rfl
 obtain ⟨u0, u1, u2, u3, u4, u5⟩ := H0.out.u6
 go_enter Tryz.func84, Tryz.ntmps84
 go_wp2_with fail
 refine (callT H0.out [t.f0, t.f1] (by have := HL.out; simp; omega) (by simp)).mono ?_
 rintro e W1 ⟨rfl, h1⟩
 have H1 := zq h1
 clear h1 cN cT cE u0 u1 u2 u3 u4 u5 H0
 have cN : W1.cell? ⟨bN, 0, none⟩ = some (.func (.func 79) #[] #[.pointer (some ⟨bo, 0, none⟩)]) := (qA1 (H1.out.at_ (zz _ hN)) 0).trans rfl
 have cT : W1.cell? ⟨bT, 0, none⟩ = some (.func (.func 81) #[] #[.pointer (some ⟨bo, 0, none⟩)]) := (qA1 (H1.out.at_ (zz _ hT)) 0).trans rfl
 have cE : W1.cell? ⟨bE, 0, none⟩ = some (.func (.func 82) #[] #[.pointer (some ⟨bN, 0, none⟩), .pointer (some ⟨bT, 0, none⟩)]) := (qA1 (H1.out.at_ (zz _ hE)) 0).trans rfl
 obtain ⟨u0, u1, u2, u3, u4, u5⟩ := H1.out.u6
 go_wp2_with fail
 refine (flatE (zz _ hN) (zz _ hT) A2 c2 t.f2 _ _ H1.out HX2.out.1 (by have := HL.out; simp; omega)).mono ?_
 rintro e W2 ⟨rfl, h2⟩
 have H2 := zq h2
 clear h2 cN cT cE u0 u1 u2 u3 u4 u5
 have cN : W2.cell? ⟨bN, 0, none⟩ = some (.func (.func 79) #[] #[.pointer (some ⟨bo, 0, none⟩)]) := (qA1 (H2.out.at_ (zz _ hN)) 0).trans rfl
 have cT : W2.cell? ⟨bT, 0, none⟩ = some (.func (.func 81) #[] #[.pointer (some ⟨bo, 0, none⟩)]) := (qA1 (H2.out.at_ (zz _ hT)) 0).trans rfl
 have cE : W2.cell? ⟨bE, 0, none⟩ = some (.func (.func 82) #[] #[.pointer (some ⟨bN, 0, none⟩), .pointer (some ⟨bT, 0, none⟩)]) := (qA1 (H2.out.at_ (zz _ hE)) 0).trans rfl
 obtain ⟨u0, u1, u2, u3, u4, u5⟩ := H2.out.u6
 go_wp2_with fail
 refine (flatE (zz _ hN) (zz _ hT) A3 c3 t.f3 _ _ H2.out HX2.out.2 (by have := HL.out; simp; omega)).mono ?_
 rintro e W3 ⟨rfl, h3⟩
 have H3 := zq h3
 clear h3 cN cT cE u0 u1 u2 u3 u4 u5
 have cN : W3.cell? ⟨bN, 0, none⟩ = some (.func (.func 79) #[] #[.pointer (some ⟨bo, 0, none⟩)]) := (qA1 (H3.out.at_ (zz _ hN)) 0).trans rfl
 have cT : W3.cell? ⟨bT, 0, none⟩ = some (.func (.func 81) #[] #[.pointer (some ⟨bo, 0, none⟩)]) := (qA1 (H3.out.at_ (zz _ hT)) 0).trans rfl
 have cE : W3.cell? ⟨bE, 0, none⟩ = some (.func (.func 82) #[] #[.pointer (some ⟨bN, 0, none⟩), .pointer (some ⟨bT, 0, none⟩)]) := (qA1 (H3.out.at_ (zz _ hE)) 0).trans rfl
 obtain ⟨u0, u1, u2, u3, u4, u5⟩ := H3.out.u6
 go_wp2_with fail
 refine (callN H3.out [(t.f4.length : Int)] (by have := HL.out; simp; omega) rfl).mono ?_
 rintro e W4 ⟨rfl, h4⟩
 have u4' : W4.cell? ⟨W.heap.size, 4, none⟩ = some (.slice A4 t.f4.length c4) := (qA1 (h4.at_ (List.mem_cons_self ..)) 4).trans rfl
 have H4 : qA0 (FI w0 bo ((W.heap.size, Obj.cells #[.string t.f0, .string t.f1, .slice A2 t.f2.length c2, .slice A3 t.f3.length c3, .slice A4 t.f4.length c4, .int .i64 t.f5] 55 (0, 0)) :: K) W4 (L ++ ([iS t.f0, iS t.f1] ++ qDG t.f2 ++ qDG t.f3 ++ [iI t.f4.length]) ++ (t.f4.take 0).flatMap qFC)) := ⟨by simpa [List.append_assoc] using h4⟩
 clear h4 H1 H2 H3 cN cT cE u0 u1 u2 u3 u4 u5
 go_wp2_with fail
 go_loopw [31] (fun i wr => ∃ k : Nat, k ≤ t.f4.length ∧ i = .int .i64 k ∧ qA0 (FI w0 bo ((W.heap.size, Obj.cells #[.string t.f0, .string t.f1, .slice A2 t.f2.length c2, .slice A3 t.f3.length c3, .slice A4 t.f4.length c4, .int .i64 t.f5] 55 (0, 0)) :: K) wr (L ++ ([iS t.f0, iS t.f1] ++ qDG t.f2 ++ qDG t.f3 ++ [iI t.f4.length]) ++ (t.f4.take k).flatMap qFC))) (fun i _ => t.f4.length - (intOf i).toNat)
 case atStart => exact ⟨0, Nat.zero_le _, rfl, H4⟩
 case round =>
  clear H4
  obtain ⟨k, hk, rfl, H⟩ := hrel
  by_cases hlt : k < t.f4.length
  ·skip
   have hC := HX.out
   obtain ⟨ad, rfl, x0, x1⟩ := at_T59 hC (k : Int) (by omega) (by omega)
   have e_ : qBB t.f4 (k : Int) = t.f4.getD k z59 := by simp [qBB]
   have hget : t.f4[k]? = some (t.f4.getD k z59) := by rw [List.getD_eq_getElem?_getD, List.getElem?_eq_getElem hlt]; rfl
   rw [e_] at x0 x1
   simp only [Int.toNat_natCast] at x0 x1
   replace x0 := qA2 H.out.bd x0
   replace x1 := qA2 H.out.bd x1
   clear e_ hC
   generalize t.f4.getD k z59 = x at *
   have hts : (L ++ ([iS t.f0, iS t.f1] ++ qDG t.f2 ++ qDG t.f3 ++ [iI t.f4.length]) ++ (t.f4.take k).flatMap qFC).length + (qFC x).length ≤ 1099511627776 := by have h1 := fm_lt qFC hget; have h2 := HL.out; simp only [List.length_append, List.length_singleton, List.length_cons, List.length_nil] at h1 h2 ⊢; omega
   have htk := fm_succ qFC hget
   generalize hLL : L ++ ([iS t.f0, iS t.f1] ++ qDG t.f2 ++ qDG t.f3 ++ [iI t.f4.length]) ++ (t.f4.take k).flatMap qFC = LL at *
   have HE := zq (And.intro hLL (And.intro htk trivial))
   have HB := zq hts
   clear hLL htk hts hget
   have HPn := zq (H.out.alloc (.cells #[.string x.f0, .string x.f1] 59))
   have cT : (wr.alloc (.cells #[.string x.f0, .string x.f1] 59)).cell? ⟨bT, 0, none⟩ = some (.func (.func 81) #[] #[.pointer (some ⟨bo, 0, none⟩)]) := (qA1 (HPn.out.at_ (zz _ (zz _ hT))) 0).trans rfl
   obtain ⟨u0, u1⟩ := HPn.out.u2
   go_wp2_with fail
   refine (callT HPn.out [x.f0, x.f1] (by have := HB.out; simp [qFC] at this ⊢; omega) (by simp)).mono ?_
   rintro e W5 ⟨rfl, h5⟩
   have H5 := zq h5
   clear h5 cT u0 u1 x0 x1
   go_wp2_with fail
   go_roundw
   case rel => exact ⟨k + 1, by omega, by first | rfl | (simp; done) | rw [Int.natCast_add]; rfl, ⟨by rw [HE.out.2.1, ← List.append_assoc, HE.out.1]; have h_ := H5.out.sub (fun p hp => zz _ hp); simpa [qFC, tokB, List.append_assoc] using h_⟩⟩
   case measure => show t.f4.length - ((k : Int) + 1).toNat < t.f4.length - (k : Int).toNat; omega
  ·obtain rfl : k = t.f4.length := by omega
   have HZ := zq H.out
   have cN : wr.cell? ⟨bN, 0, none⟩ = some (.func (.func 79) #[] #[.pointer (some ⟨bo, 0, none⟩)]) := (qA1 (H.out.at_ (zz _ hN)) 0).trans rfl
   have u5 : wr.cell? ⟨W.heap.size, 5, none⟩ = some (.int .i64 t.f5) := (qA1 (H.out.at_ (List.mem_cons_self ..)) 5).trans rfl
   clear H
   go_wp2_with fail
   refine (callN HZ.out [t.f5] (by have := HL.out; rw [List.take_length]; simp only [List.length_append, List.length_singleton, List.length_cons, List.length_nil]; omega) rfl).mono ?_
   rintro e W7 ⟨rfl, h7⟩
   have HY := zq (h7.sub (K' := K) fun p hp => zz _ hp)
   clear h7 HZ cN u5
   go_wp2_with fail
   go_end0
   exact ⟨rfl, by have h_ := HY.out; rw [List.take_length] at h_; simpa [qED, List.append_assoc] using h_⟩
set_option maxHeartbeats 8000000 in
set_option maxRecDepth 100000 in
theorem FI.start (w : World) (S : Array Value) : FI w (w.heap.size + 1) [(w.heap.size + 1 + 1 + 1 + 1 + 1, Obj.cells #[fE (w.heap.size + 1 + 1) (w.heap.size + 1 + 1 + 1 + 1)] 152 (0, 0)), (w.heap.size + 1 + 1 + 1 + 1, Obj.cells #[fT (w.heap.size + 1)] 151 (0, 0)), (w.heap.size + 1 + 1 + 1, Obj.cells #[fY (w.heap.size + 1 + 1)] 150 (0, 0)), (w.heap.size + 1 + 1, Obj.cells #[fN (w.heap.size + 1)] 149 (0, 0)), (w.heap.size, Obj.cells S 94 (0, 0))]
  ((((((w.alloc (.cells S 94)).alloc (.cells #[.slice none 0 0] 126)).alloc (.cells #[fN (w.heap.size + 1)] 149)).alloc (.cells #[fY (w.heap.size + 1 + 1)] 150)).alloc (.cells #[fT (w.heap.size + 1)] 151)).alloc (.cells #[fE (w.heap.size + 1 + 1) (w.heap.size + 1 + 1 + 1 + 1)] 152)) [] := by
 have e1 : (w.alloc (.cells S 94)).heap.size = w.heap.size + 1 := by simp
 have h2 : FI w (w.heap.size + 1) [(w.heap.size, Obj.cells S 94 (0, 0))] ((w.alloc (.cells S 94)).alloc (.cells #[.slice none 0 0] 126)) [] :=
  ⟨qAA (qAA (Below.refl _ _) _) _, by omega, none, 0, by rw [← e1]; exact heap_alloc_new _ _, own_nil _ _ _ _, by simp [Value.ownBlock], fun p hp => by
   rw [List.mem_singleton.1 hp]
   exact ⟨qBV (heap_alloc_new _ _) _, by show w.heap.size ≠ w.heap.size + 1; omega, by simp [Value.ownBlock]⟩⟩
 have h3 := h2.alloc (.cells #[fN (w.heap.size + 1)] 149)
 have h4 := h3.alloc (.cells #[fY (w.heap.size + 1 + 1)] 150)
 have h5 := h4.alloc (.cells #[fT (w.heap.size + 1)] 151)
 have h6 := h5.alloc (.cells #[fE (w.heap.size + 1 + 1) (w.heap.size + 1 + 1 + 1 + 1)] 152)
 simpa using h6
set_option maxHeartbeats 8000000 in
set_option maxRecDepth 100000 in
theorem mootref5_Flat.walk (A0 : Option Addr) (c0 : Nat) (l : List S49) (w : World) (hC : Kd.C k49 w A0 l.length l) (hl : (qD4 l).length ≤ 1099511627776) :
  Calls Tryz.prog 57 #[.agg #[.slice A0 l.length c0, .slice none 0 0, .slice none 0 0]] w fun e W' => ∃ A c, e = .returned (.slice A (qD4 l).length c) ∧ W'.ownsRow w.heap.size 20 1 (.slice A (qD4 l).length c) (qD4 l).length (qD4 l) ∧ Below w.heap.size w W' := by
 have HX := zq hC
 have hm := Kd.qE9 hC
 have HLb : qA0 (1 + (l.flatMap qEE).length + 2 ≤ 1099511627776) := ⟨by simp only [qD4, List.length_append, List.length_singleton] at hl; omega⟩
 clear hC hl
 have H := zq (FI.start w #[.slice A0 l.length c0, .slice none 0 0, .slice none 0 0])
 go_enter Tryz.func57, Tryz.ntmps57
 go_wp2_with fail
 refine (callN H.out [(l.length : Int)] (by have := HLb.out; simp only [List.length_nil, List.length_singleton]; omega) (by simp)).mono ?_
 rintro e W1 ⟨rfl, h1⟩
 clear H
 generalize w.heap.size + 1 + 1 + 1 + 1 + 1 = bE at *
 generalize w.heap.size + 1 + 1 + 1 + 1 = bT at *
 generalize w.heap.size + 1 + 1 + 1 = bY at *
 generalize w.heap.size + 1 + 1 = bN at *
 generalize w.heap.size + 1 = bo at *
 obtain ⟨K, hN, hT, hY, hE, hS, h1⟩ : ∃ K : List (Nat × Obj), (bN, Obj.cells #[fN bo] 149 (0, 0)) ∈ K ∧ (bT, Obj.cells #[fT bo] 151 (0, 0)) ∈ K ∧ (bY, Obj.cells #[fY bN] 150 (0, 0)) ∈ K ∧ (bE, Obj.cells #[fE bN bT] 152 (0, 0)) ∈ K ∧ (w.heap.size, Obj.cells #[.slice A0 l.length c0, .slice none 0 0, .slice none 0 0] 94 (0, 0)) ∈ K ∧ FI w bo K W1 ([] ++ [(l.length : Int)].map iI) := ⟨_, by simp, by simp, by simp, by simp, by simp, h1⟩
 have s0 : W1.cell? ⟨w.heap.size, 0, none⟩ = some (.slice A0 l.length c0) := (qA1 (h1.at_ hS) 0).trans rfl
 have H1 : qA0 (FI w bo K W1 ([iI l.length] ++ (l.take 0).flatMap qEE)) := ⟨by simpa using h1⟩
 clear h1
 go_wp2_with fail
 go_loopw [41] (fun i wr => ∃ m : Nat, m ≤ l.length ∧ i = .int .i64 m ∧ qA0 (FI w bo K wr ([iI l.length] ++ (l.take m).flatMap qEE))) (fun i _ => l.length - (intOf i).toNat)
 case atStart => exact ⟨0, Nat.zero_le _, rfl, H1⟩
 case round =>
  clear H1 s0
  obtain ⟨m, hm_, rfl, H⟩ := hrel
  by_cases hla : m < l.length
  ·have HL := HLb
   have hC := HX.out
   obtain ⟨ada, A3, c3, A4, c4, A5, c5, rfl, x0, x1, x2, x3, x4, x5, hl3, hC3, hl4, hC4, hl5, hC5⟩ := qEY hC (m : Int) (by omega) (by omega)
   have e_ : qA4 l (m : Int) = l.getD m z49 := by simp [qA4]
   have hget : l[m]? = some (l.getD m z49) := by rw [List.getD_eq_getElem?_getD, List.getElem?_eq_getElem hla]; rfl
   rw [e_] at x0 x1 x2 x3 x4 x5 hl3 hC3 hl4 hC4 hl5 hC5
   simp only [Int.toNat_natCast] at x0 x1 x2 x3 x4 x5
   replace x0 := qA2 H.out.bd x0
   replace x1 := qA2 H.out.bd x1
   replace x2 := qA2 H.out.bd x2
   replace x3 := qA2 H.out.bd x3
   replace x4 := qA2 H.out.bd x4
   replace x5 := qA2 H.out.bd x5
   clear e_ hC
   generalize l.getD m z49 = y at *
   have hts : ([iI l.length] ++ (l.take m).flatMap qEE).length + (qEE y).length ≤ 1099511627776 := by have h1 := fm_lt qEE hget; have h2 := HL.out; simp only [List.length_append, List.length_singleton, List.length_cons, List.length_nil] at h1 h2 ⊢; omega
   have htk := fm_succ qEE hget
   generalize hLA : [iI l.length] ++ (l.take m).flatMap qEE = LA at *
   have HEa := zq (And.intro hLA (And.intro htk (And.intro hC3 (And.intro hC4 hC5))))
   have HBa := zq hts
   clear hLA htk hts hget hC3 hC4 hC5 hl3 hl4 hl5
   go_wp2_with ((with_reducible refine qC8 (t := 49) (p := 11) rfl ?_); refine qD2 (t := 49) (p := 11) (g := wr.heap.size) (cur := #[.string ⟨#[]⟩, .int .i64 0, .int .i64 0, .slice none 0 0, .slice none 0 0, .slice none 0 0]) (e := 49) rfl rfl rfl rfl rfl (heap_alloc_new _ _) [.string y.f0, .int .i64 y.f1, .int .i64 y.f2, .slice A3 y.f3.length c3, .slice A4 y.f4.length c4, .slice A5 y.f5.length c5] rfl rfl rfl ?h1 ?_; (case h1 => intro q hq_; simp only [List.mem_cons, List.not_mem_nil, or_false] at hq_; rcases hq_ with rfl | rfl | rfl | rfl | rfl | rfl <;> rfl); intro w4 hblk hsame hB_; have HPa : qA0 (FI w bo ((wr.heap.size, Obj.cells #[.string y.f0, .int .i64 y.f1, .int .i64 y.f2, .slice A3 y.f3.length c3, .slice A4 y.f4.length c4, .slice A5 y.f5.length c5] 49 (0, 0)) :: K) w4 LA) := ⟨H.out.grow (hB_ _ _ (qAA (Below.refl wr.heap.size wr) _) (Nat.le_refl _)) (Nat.le_refl _) hblk⟩; have cN : w4.cell? ⟨bN, 0, none⟩ = some (.func (.func 79) #[] #[.pointer (some ⟨bo, 0, none⟩)]) := (qA1 (HPa.out.at_ (zz _ hN)) 0).trans rfl; have cT : w4.cell? ⟨bT, 0, none⟩ = some (.func (.func 81) #[] #[.pointer (some ⟨bo, 0, none⟩)]) := (qA1 (HPa.out.at_ (zz _ hT)) 0).trans rfl; have u0 : w4.cell? ⟨wr.heap.size, 0, none⟩ = some (.string y.f0) := (qA1 (HPa.out.at_ (List.mem_cons_self ..)) 0).trans rfl; have u1 : w4.cell? ⟨wr.heap.size, 1, none⟩ = some (.int .i64 y.f1) := (qA1 (HPa.out.at_ (List.mem_cons_self ..)) 1).trans rfl; have u2 : w4.cell? ⟨wr.heap.size, 2, none⟩ = some (.int .i64 y.f2) := (qA1 (HPa.out.at_ (List.mem_cons_self ..)) 2).trans rfl; have u3 : w4.cell? ⟨wr.heap.size, 3, none⟩ = some (.slice A3 y.f3.length c3) := (qA1 (HPa.out.at_ (List.mem_cons_self ..)) 3).trans rfl; have u4 : w4.cell? ⟨wr.heap.size, 4, none⟩ = some (.slice A4 y.f4.length c4) := (qA1 (HPa.out.at_ (List.mem_cons_self ..)) 4).trans rfl; have u5 : w4.cell? ⟨wr.heap.size, 5, none⟩ = some (.slice A5 y.f5.length c5) := (qA1 (HPa.out.at_ (List.mem_cons_self ..)) 5).trans rfl; clear hB_ hsame hblk)
   refine (callT HPa.out [y.f0] (by have := HBa.out; simp [qEE] at this ⊢; omega) (by simp)).mono ?_
   rintro e W2 ⟨rfl, h2⟩
   have H2 := zq h2
   clear h2 cN cT u0 u1 u2 u3 u4 u5 x0 x1 x2 x3 x4 x5
   have cN : W2.cell? ⟨bN, 0, none⟩ = some (.func (.func 79) #[] #[.pointer (some ⟨bo, 0, none⟩)]) := (qA1 (H2.out.at_ (zz _ hN)) 0).trans rfl
   have cT : W2.cell? ⟨bT, 0, none⟩ = some (.func (.func 81) #[] #[.pointer (some ⟨bo, 0, none⟩)]) := (qA1 (H2.out.at_ (zz _ hT)) 0).trans rfl
   obtain ⟨u0, u1, u2, u3, u4, u5⟩ := H2.out.u6
   go_wp2_with fail
   refine (callN H2.out [y.f1, y.f2, (y.f3.length : Int)] (by have := HBa.out; simp [qEE] at this ⊢; omega) (by simp)).mono ?_
   rintro e W3 ⟨rfl, h3⟩
   have H3 := zq h3
   clear h3 cN cT u0 u1 u2 u3 u4 u5
   have hm3 := Kd.qE9 HEa.out.2.2.1
   have hm4 := Kd.qE9 HEa.out.2.2.2.1
   have hm5 := Kd.qE9 HEa.out.2.2.2.2
   have cN : W3.cell? ⟨bN, 0, none⟩ = some (.func (.func 79) #[] #[.pointer (some ⟨bo, 0, none⟩)]) := (qA1 (H3.out.at_ (zz _ hN)) 0).trans rfl
   have cT : W3.cell? ⟨bT, 0, none⟩ = some (.func (.func 81) #[] #[.pointer (some ⟨bo, 0, none⟩)]) := (qA1 (H3.out.at_ (zz _ hT)) 0).trans rfl
   obtain ⟨u0, u1, u2, u3, u4, u5⟩ := H3.out.u6
   go_wp2_with fail
   have HL : qA0 (LA.length + 4 + (y.f3.flatMap qCN).length + 1 + (y.f4.flatMap qDS).length + 1 + (y.f5.flatMap qED).length ≤ 1099511627776) := ⟨by have h_ := HBa.out; simp only [qEE, List.length_append, List.length_singleton, List.length_cons, List.length_nil] at h_; omega⟩
   obtain ⟨wo, hwo⟩ : ∃ v, v = wr := ⟨_, rfl⟩
   subst hwo
   have HT0 : qA0 (FI w bo ((wo.heap.size, Obj.cells #[.string y.f0, .int .i64 y.f1, .int .i64 y.f2, .slice A3 y.f3.length c3, .slice A4 y.f4.length c4, .slice A5 y.f5.length c5] 49 (0, 0)) :: K) W3 (LA ++ ([iS y.f0] ++ [iI y.f1, iI y.f2, iI y.f3.length]) ++ (y.f3.take 0).flatMap qCN)) := ⟨by simpa [List.append_assoc] using H3.out⟩
   clear H2 H3 HPa cN cT u0 u1 u2 u3 u4 u5
   go_loopw [63] (fun i wr => ∃ k : Nat, k ≤ y.f3.length ∧ i = .int .i64 k ∧ qA0 (FI w bo ((wo.heap.size, Obj.cells #[.string y.f0, .int .i64 y.f1, .int .i64 y.f2, .slice A3 y.f3.length c3, .slice A4 y.f4.length c4, .slice A5 y.f5.length c5] 49 (0, 0)) :: K) wr (LA ++ ([iS y.f0] ++ [iI y.f1, iI y.f2, iI y.f3.length]) ++ (y.f3.take k).flatMap qCN))) (fun i _ => y.f3.length - (intOf i).toNat)
   case atStart => exact ⟨0, Nat.zero_le _, rfl, HT0⟩
   case round =>
    clear HT0
    obtain ⟨k, hk, rfl, H⟩ := hrel
    by_cases hlt : k < y.f3.length
    ·skip
     have hC := HEa.out.2.2.1
     obtain ⟨ad, rfl, x0, x1, x2, x3, x4, x5, x6⟩ := at_T98 hC (k : Int) (by omega) (by omega)
     have e_ : qC4 y.f3 (k : Int) = y.f3.getD k z98 := by simp [qC4]
     have hget : y.f3[k]? = some (y.f3.getD k z98) := by rw [List.getD_eq_getElem?_getD, List.getElem?_eq_getElem hlt]; rfl
     rw [e_] at x0 x1 x2 x3 x4 x5 x6
     simp only [Int.toNat_natCast] at x0 x1 x2 x3 x4 x5 x6
     replace x0 := qA2 H.out.bd x0
     replace x1 := qA2 H.out.bd x1
     replace x2 := qA2 H.out.bd x2
     replace x3 := qA2 H.out.bd x3
     replace x4 := qA2 H.out.bd x4
     replace x5 := qA2 H.out.bd x5
     replace x6 := qA2 H.out.bd x6
     clear e_ hC
     generalize y.f3.getD k z98 = x at *
     have hts : (LA ++ ([iS y.f0] ++ [iI y.f1, iI y.f2, iI y.f3.length]) ++ (y.f3.take k).flatMap qCN).length + (qCN x).length ≤ 1099511627776 := by have h1 := fm_lt qCN hget; have h2 := HL.out; simp only [List.length_append, List.length_singleton, List.length_cons, List.length_nil] at h1 h2 ⊢; omega
     have htk := fm_succ qCN hget
     generalize hLL : LA ++ ([iS y.f0] ++ [iI y.f1, iI y.f2, iI y.f3.length]) ++ (y.f3.take k).flatMap qCN = LL at *
     have HE := zq (And.intro hLL (And.intro htk trivial))
     have HB := zq hts
     clear hLL htk hts hget
     have HPn := zq (H.out.alloc (.cells #[.string x.f0, .int .i64 x.f1, .bool x.f2, .int .i64 x.f3, .int .i64 x.f4, .int .i64 x.f5.f0, .int .i64 x.f5.f1] 98))
     have cN : (wr.alloc (.cells #[.string x.f0, .int .i64 x.f1, .bool x.f2, .int .i64 x.f3, .int .i64 x.f4, .int .i64 x.f5.f0, .int .i64 x.f5.f1] 98)).cell? ⟨bN, 0, none⟩ = some (.func (.func 79) #[] #[.pointer (some ⟨bo, 0, none⟩)]) := (qA1 (HPn.out.at_ (zz _ (zz _ hN))) 0).trans rfl
     have cT : (wr.alloc (.cells #[.string x.f0, .int .i64 x.f1, .bool x.f2, .int .i64 x.f3, .int .i64 x.f4, .int .i64 x.f5.f0, .int .i64 x.f5.f1] 98)).cell? ⟨bT, 0, none⟩ = some (.func (.func 81) #[] #[.pointer (some ⟨bo, 0, none⟩)]) := (qA1 (HPn.out.at_ (zz _ (zz _ hT))) 0).trans rfl
     have cY : (wr.alloc (.cells #[.string x.f0, .int .i64 x.f1, .bool x.f2, .int .i64 x.f3, .int .i64 x.f4, .int .i64 x.f5.f0, .int .i64 x.f5.f1] 98)).cell? ⟨bY, 0, none⟩ = some (.func (.func 80) #[] #[.pointer (some ⟨bN, 0, none⟩)]) := (qA1 (HPn.out.at_ (zz _ (zz _ hY))) 0).trans rfl
     obtain ⟨u0, u1, u2, u3, u4, u5, u6⟩ := HPn.out.u7
     go_wp2_with fail
     refine (callT HPn.out [x.f0] (by have := HB.out; simp [qCN, tokB] at this ⊢; omega) (by simp)).mono ?_
     rintro e W4 ⟨rfl, h4⟩
     have H4 := zq h4
     clear h4 cN cT cY u0 u1 u2 u3 u4 u5 u6 x0 x1 x2 x3 x4 x5 x6
     have cN : W4.cell? ⟨bN, 0, none⟩ = some (.func (.func 79) #[] #[.pointer (some ⟨bo, 0, none⟩)]) := (qA1 (H4.out.at_ (zz _ (zz _ hN))) 0).trans rfl
     have cT : W4.cell? ⟨bT, 0, none⟩ = some (.func (.func 81) #[] #[.pointer (some ⟨bo, 0, none⟩)]) := (qA1 (H4.out.at_ (zz _ (zz _ hT))) 0).trans rfl
     have cY : W4.cell? ⟨bY, 0, none⟩ = some (.func (.func 80) #[] #[.pointer (some ⟨bN, 0, none⟩)]) := (qA1 (H4.out.at_ (zz _ (zz _ hY))) 0).trans rfl
     obtain ⟨u0, u1, u2, u3, u4, u5, u6⟩ := H4.out.u7
     go_wp2_with fail
     refine (callN H4.out [x.f1] (by have := HB.out; simp [qCN, tokB] at this ⊢; omega) (by simp)).mono ?_
     rintro e W5 ⟨rfl, h5⟩
     have H5 := zq h5
     clear h5 cN cT cY u0 u1 u2 u3 u4 u5 u6
     have cN : W5.cell? ⟨bN, 0, none⟩ = some (.func (.func 79) #[] #[.pointer (some ⟨bo, 0, none⟩)]) := (qA1 (H5.out.at_ (zz _ (zz _ hN))) 0).trans rfl
     have cT : W5.cell? ⟨bT, 0, none⟩ = some (.func (.func 81) #[] #[.pointer (some ⟨bo, 0, none⟩)]) := (qA1 (H5.out.at_ (zz _ (zz _ hT))) 0).trans rfl
     have cY : W5.cell? ⟨bY, 0, none⟩ = some (.func (.func 80) #[] #[.pointer (some ⟨bN, 0, none⟩)]) := (qA1 (H5.out.at_ (zz _ (zz _ hY))) 0).trans rfl
     obtain ⟨u0, u1, u2, u3, u4, u5, u6⟩ := H5.out.u7
     go_wp2_with fail
     refine (flatY (zz _ (zz _ hN)) x.f2 _ _ H5.out (by have := HB.out; simp [qCN, tokB] at this ⊢; omega)).mono ?_
     rintro e W6 ⟨rfl, h6⟩
     have H6 := zq h6
     clear h6 cN cT cY u0 u1 u2 u3 u4 u5 u6
     have cN : W6.cell? ⟨bN, 0, none⟩ = some (.func (.func 79) #[] #[.pointer (some ⟨bo, 0, none⟩)]) := (qA1 (H6.out.at_ (zz _ (zz _ hN))) 0).trans rfl
     have cT : W6.cell? ⟨bT, 0, none⟩ = some (.func (.func 81) #[] #[.pointer (some ⟨bo, 0, none⟩)]) := (qA1 (H6.out.at_ (zz _ (zz _ hT))) 0).trans rfl
     have cY : W6.cell? ⟨bY, 0, none⟩ = some (.func (.func 80) #[] #[.pointer (some ⟨bN, 0, none⟩)]) := (qA1 (H6.out.at_ (zz _ (zz _ hY))) 0).trans rfl
     obtain ⟨u0, u1, u2, u3, u4, u5, u6⟩ := H6.out.u7
     go_wp2_with fail
     refine (callN H6.out [x.f3, x.f4, x.f5.f0, x.f5.f1] (by have := HB.out; simp [qCN, tokB] at this ⊢; omega) (by simp)).mono ?_
     rintro e W7 ⟨rfl, h7⟩
     have H7 := zq h7
     clear h7 cN cT cY u0 u1 u2 u3 u4 u5 u6
     go_wp2_with fail
     go_roundw
     case rel => exact ⟨k + 1, by omega, by first | rfl | (simp; done) | rw [Int.natCast_add]; rfl, ⟨by rw [HE.out.2.1, ← List.append_assoc, HE.out.1]; have h_ := H7.out.sub (fun p hp => zz _ hp); simpa [qCN, tokB, List.append_assoc] using h_⟩⟩
     case measure => show y.f3.length - ((k : Int) + 1).toNat < y.f3.length - (k : Int).toNat; omega
    ·obtain rfl : k = y.f3.length := by omega
     have HZ := zq H.out
     have cN : wr.cell? ⟨bN, 0, none⟩ = some (.func (.func 79) #[] #[.pointer (some ⟨bo, 0, none⟩)]) := (qA1 (H.out.at_ (zz _ hN)) 0).trans rfl
     have u4 : wr.cell? ⟨wo.heap.size, 4, none⟩ = some (.slice A4 y.f4.length c4) := (qA1 (H.out.at_ (List.mem_cons_self ..)) 4).trans rfl
     clear H
     go_wp2_with fail
     refine (callN HZ.out [(y.f4.length : Int)] (by have := HL.out; rw [List.take_length]; simp only [List.length_append, List.length_singleton, List.length_cons, List.length_nil]; omega) rfl).mono ?_
     rintro e W8 ⟨rfl, h8⟩
     have H8 : qA0 (FI w bo ((wo.heap.size, Obj.cells #[.string y.f0, .int .i64 y.f1, .int .i64 y.f2, .slice A3 y.f3.length c3, .slice A4 y.f4.length c4, .slice A5 y.f5.length c5] 49 (0, 0)) :: K) W8 (LA ++ ([iS y.f0] ++ [iI y.f1, iI y.f2, iI y.f3.length] ++ y.f3.flatMap qCN ++ [iI y.f4.length]) ++ (y.f4.take 0).flatMap qDS)) := ⟨by rw [List.take_length] at h8; simpa [List.append_assoc] using h8⟩
     clear h8 HZ cN u4
     have u4 : W8.cell? ⟨wo.heap.size, 4, none⟩ = some (.slice A4 y.f4.length c4) := (qA1 (H8.out.at_ (List.mem_cons_self ..)) 4).trans rfl
     go_wp2_with fail
     go_loopw [104] (fun i wr => ∃ k : Nat, k ≤ y.f4.length ∧ i = .int .i64 k ∧ qA0 (FI w bo ((wo.heap.size, Obj.cells #[.string y.f0, .int .i64 y.f1, .int .i64 y.f2, .slice A3 y.f3.length c3, .slice A4 y.f4.length c4, .slice A5 y.f5.length c5] 49 (0, 0)) :: K) wr (LA ++ ([iS y.f0] ++ [iI y.f1, iI y.f2, iI y.f3.length] ++ y.f3.flatMap qCN ++ [iI y.f4.length]) ++ (y.f4.take k).flatMap qDS))) (fun i _ => y.f4.length - (intOf i).toNat)
     case atStart => exact ⟨0, Nat.zero_le _, rfl, H8⟩
     case round =>
      clear H8 u4
      obtain ⟨k, hk, rfl, H⟩ := hrel
      by_cases hlt : k < y.f4.length
      ·skip
       have hC := HEa.out.2.2.2.1
       obtain ⟨ad, A4', c4', rfl, x0, x1, x2, x3, x4, hl4', hC4'⟩ := at_T73 hC (k : Int) (by omega) (by omega)
       have e_ : qAK y.f4 (k : Int) = y.f4.getD k z73 := by simp [qAK]
       have hget : y.f4[k]? = some (y.f4.getD k z73) := by rw [List.getD_eq_getElem?_getD, List.getElem?_eq_getElem hlt]; rfl
       rw [e_] at x0 x1 x2 x3 x4 hl4' hC4'
       simp only [Int.toNat_natCast] at x0 x1 x2 x3 x4
       replace x0 := qA2 H.out.bd x0
       replace x1 := qA2 H.out.bd x1
       replace x2 := qA2 H.out.bd x2
       replace x3 := qA2 H.out.bd x3
       replace x4 := qA2 H.out.bd x4
       clear e_ hC
       generalize y.f4.getD k z73 = x at *
       have hts : (LA ++ ([iS y.f0] ++ [iI y.f1, iI y.f2, iI y.f3.length] ++ y.f3.flatMap qCN ++ [iI y.f4.length]) ++ (y.f4.take k).flatMap qDS).length + (qDS x).length ≤ 1099511627776 := by have h1 := fm_lt qDS hget; have h2 := HL.out; simp only [List.length_append, List.length_singleton, List.length_cons, List.length_nil] at h1 h2 ⊢; omega
       have htk := fm_succ qDS hget
       generalize hLL : LA ++ ([iS y.f0] ++ [iI y.f1, iI y.f2, iI y.f3.length] ++ y.f3.flatMap qCN ++ [iI y.f4.length]) ++ (y.f4.take k).flatMap qDS = LL at *
       have HE := zq (And.intro hLL (And.intro htk hC4'))
       have HB := zq hts
       clear hLL htk hts hget hC4' hl4'
       have HPn := zq (H.out.alloc (.cells #[.string x.f0, .int .i64 x.f1, .int .i64 x.f2, .bool x.f3, .slice A4' x.f4.length c4'] 73))
       have cN : (wr.alloc (.cells #[.string x.f0, .int .i64 x.f1, .int .i64 x.f2, .bool x.f3, .slice A4' x.f4.length c4'] 73)).cell? ⟨bN, 0, none⟩ = some (.func (.func 79) #[] #[.pointer (some ⟨bo, 0, none⟩)]) := (qA1 (HPn.out.at_ (zz _ (zz _ hN))) 0).trans rfl
       obtain ⟨u0, u1, u2, u3, u4⟩ := HPn.out.u5
       go_wp2_with fail
       refine (flatB (zz _ (zz _ hN)) (zz _ (zz _ hT)) (zz _ (zz _ hY)) x A4' c4' _ _ HPn.out HE.out.2.2 (by have := HB.out; omega)).mono ?_
       rintro e W9 ⟨rfl, h9⟩
       have H9 := zq h9
       clear h9 cN u0 u1 u2 u3 u4 x0 x1 x2 x3 x4
       go_wp2_with fail
       go_roundw
       case rel => exact ⟨k + 1, by omega, by first | rfl | (simp; done) | rw [Int.natCast_add]; rfl, ⟨by rw [HE.out.2.1, ← List.append_assoc, HE.out.1]; have h_ := H9.out.sub (fun p hp => zz _ hp); simpa [qDS, tokB, List.append_assoc] using h_⟩⟩
       case measure => show y.f4.length - ((k : Int) + 1).toNat < y.f4.length - (k : Int).toNat; omega
      ·obtain rfl : k = y.f4.length := by omega
       have HZ := zq H.out
       have cN : wr.cell? ⟨bN, 0, none⟩ = some (.func (.func 79) #[] #[.pointer (some ⟨bo, 0, none⟩)]) := (qA1 (H.out.at_ (zz _ hN)) 0).trans rfl
       have u5 : wr.cell? ⟨wo.heap.size, 5, none⟩ = some (.slice A5 y.f5.length c5) := (qA1 (H.out.at_ (List.mem_cons_self ..)) 5).trans rfl
       clear H
       go_wp2_with fail
       refine (callN HZ.out [(y.f5.length : Int)] (by have := HL.out; rw [List.take_length]; simp only [List.length_append, List.length_singleton, List.length_cons, List.length_nil]; omega) rfl).mono ?_
       rintro e W10 ⟨rfl, h10⟩
       have H10 : qA0 (FI w bo ((wo.heap.size, Obj.cells #[.string y.f0, .int .i64 y.f1, .int .i64 y.f2, .slice A3 y.f3.length c3, .slice A4 y.f4.length c4, .slice A5 y.f5.length c5] 49 (0, 0)) :: K) W10 (LA ++ ([iS y.f0] ++ [iI y.f1, iI y.f2, iI y.f3.length] ++ y.f3.flatMap qCN ++ [iI y.f4.length] ++ y.f4.flatMap qDS ++ [iI y.f5.length]) ++ (y.f5.take 0).flatMap qED)) := ⟨by rw [List.take_length] at h10; simpa [List.append_assoc] using h10⟩
       clear h10 HZ cN u5
       have u5 : W10.cell? ⟨wo.heap.size, 5, none⟩ = some (.slice A5 y.f5.length c5) := (qA1 (H10.out.at_ (List.mem_cons_self ..)) 5).trans rfl
       go_wp2_with fail
       go_loopw [121] (fun i wr => ∃ k : Nat, k ≤ y.f5.length ∧ i = .int .i64 k ∧ qA0 (FI w bo ((wo.heap.size, Obj.cells #[.string y.f0, .int .i64 y.f1, .int .i64 y.f2, .slice A3 y.f3.length c3, .slice A4 y.f4.length c4, .slice A5 y.f5.length c5] 49 (0, 0)) :: K) wr (LA ++ ([iS y.f0] ++ [iI y.f1, iI y.f2, iI y.f3.length] ++ y.f3.flatMap qCN ++ [iI y.f4.length] ++ y.f4.flatMap qDS ++ [iI y.f5.length]) ++ (y.f5.take k).flatMap qED))) (fun i _ => y.f5.length - (intOf i).toNat)
       case atStart => exact ⟨0, Nat.zero_le _, rfl, H10⟩
       case round =>
        clear H10 u5
        obtain ⟨k, hk, rfl, H⟩ := hrel
        by_cases hlt : k < y.f5.length
        ·skip
         have hC := HEa.out.2.2.2.2
         obtain ⟨ad, A2', c2', A3', c3', A4', c4', rfl, x0, x1, x2, x3, x4, x5, hl2', hC2', hl3', hC3', hl4', hC4'⟩ := at_T55 hC (k : Int) (by omega) (by omega)
         have e_ : qAY y.f5 (k : Int) = y.f5.getD k z55 := by simp [qAY]
         have hget : y.f5[k]? = some (y.f5.getD k z55) := by rw [List.getD_eq_getElem?_getD, List.getElem?_eq_getElem hlt]; rfl
         rw [e_] at x0 x1 x2 x3 x4 x5 hl2' hC2' hl3' hC3' hl4' hC4'
         simp only [Int.toNat_natCast] at x0 x1 x2 x3 x4 x5
         replace x0 := qA2 H.out.bd x0
         replace x1 := qA2 H.out.bd x1
         replace x2 := qA2 H.out.bd x2
         replace x3 := qA2 H.out.bd x3
         replace x4 := qA2 H.out.bd x4
         replace x5 := qA2 H.out.bd x5
         clear e_ hC
         generalize y.f5.getD k z55 = x at *
         have hts : (LA ++ ([iS y.f0] ++ [iI y.f1, iI y.f2, iI y.f3.length] ++ y.f3.flatMap qCN ++ [iI y.f4.length] ++ y.f4.flatMap qDS ++ [iI y.f5.length]) ++ (y.f5.take k).flatMap qED).length + (qED x).length ≤ 1099511627776 := by have h1 := fm_lt qED hget; have h2 := HL.out; simp only [List.length_append, List.length_singleton, List.length_cons, List.length_nil] at h1 h2 ⊢; omega
         have htk := fm_succ qED hget
         generalize hLL : LA ++ ([iS y.f0] ++ [iI y.f1, iI y.f2, iI y.f3.length] ++ y.f3.flatMap qCN ++ [iI y.f4.length] ++ y.f4.flatMap qDS ++ [iI y.f5.length]) ++ (y.f5.take k).flatMap qED = LL at *
         have HE := zq (And.intro hLL (And.intro htk (And.intro hC2' (And.intro hC3' hC4'))))
         have HB := zq hts
         clear hLL htk hts hget hC2' hl2' hC3' hl3' hC4' hl4'
         have HPn := zq (H.out.alloc (.cells #[.string x.f0, .string x.f1, .slice A2' x.f2.length c2', .slice A3' x.f3.length c3', .slice A4' x.f4.length c4', .int .i64 x.f5] 55))
         have cN : (wr.alloc (.cells #[.string x.f0, .string x.f1, .slice A2' x.f2.length c2', .slice A3' x.f3.length c3', .slice A4' x.f4.length c4', .int .i64 x.f5] 55)).cell? ⟨bN, 0, none⟩ = some (.func (.func 79) #[] #[.pointer (some ⟨bo, 0, none⟩)]) := (qA1 (HPn.out.at_ (zz _ (zz _ hN))) 0).trans rfl
         obtain ⟨u0, u1, u2, u3, u4, u5⟩ := HPn.out.u6
         go_wp2_with fail
         refine (flatA (zz _ (zz _ hN)) (zz _ (zz _ hT)) (zz _ (zz _ hE)) x A2' A3' A4' c2' c3' c4' _ _ HPn.out HE.out.2.2.1 HE.out.2.2.2.1 HE.out.2.2.2.2 (by have := HB.out; omega)).mono ?_
         rintro e W11 ⟨rfl, h11⟩
         have H11 := zq h11
         clear h11 cN u0 u1 u2 u3 u4 u5 x0 x1 x2 x3 x4 x5
         go_wp2_with fail
         go_roundw
         case rel => exact ⟨k + 1, by omega, by first | rfl | (simp; done) | rw [Int.natCast_add]; rfl, ⟨by rw [HE.out.2.1, ← List.append_assoc, HE.out.1]; have h_ := H11.out.sub (fun p hp => zz _ hp); simpa [qED, tokB, List.append_assoc] using h_⟩⟩
         case measure => show y.f5.length - ((k : Int) + 1).toNat < y.f5.length - (k : Int).toNat; omega
        ·obtain rfl : k = y.f5.length := by omega
         have HZ : qA0 (FI w bo K wr ([iI l.length] ++ (l.take (m + 1)).flatMap qEE)) := ⟨by rw [HEa.out.2.1, ← List.append_assoc, HEa.out.1]; have h_ := H.out.sub (K' := K) (fun p hp => zz _ hp); rw [List.take_length] at h_; simpa [qEE, List.append_assoc] using h_⟩
         clear H
         go_wp2_with fail
         go_roundw
         case rel => exact ⟨m + 1, by omega, by first | rfl | (simp; done) | rw [Int.natCast_add]; rfl, HZ⟩
         case measure => show l.length - ((m : Int) + 1).toNat < l.length - (m : Int).toNat; omega
  ·obtain rfl : m = l.length := by omega
   have HZ := zq H.out
   have cN : wr.cell? ⟨bN, 0, none⟩ = some (.func (.func 79) #[] #[.pointer (some ⟨bo, 0, none⟩)]) := (qA1 (H.out.at_ hN) 0).trans rfl
   have s1 : wr.cell? ⟨w.heap.size, 1, none⟩ = some (.slice none 0 0) := (qA1 (H.out.at_ hS) 1).trans rfl
   clear H
   go_wp2_with fail
   refine (callN HZ.out [0] (by have := HLb.out; rw [List.take_length]; simp only [List.length_append, List.length_singleton, List.length_cons, List.length_nil]; omega) rfl).mono ?_
   rintro e W2 ⟨rfl, h2⟩
   have H2 := zq h2
   have s1' : W2.cell? ⟨w.heap.size, 1, none⟩ = some (.slice none 0 0) := (qA1 (h2.at_ hS) 1).trans rfl
   clear h2 HZ cN s1
   go_wp2_with fail
   go_loopw [139] (fun i wr => i = .int .i64 0 ∧ qA0 (FI w bo K wr (([iI l.length] ++ (l.take l.length).flatMap qEE) ++ [iI 0]))) (fun _ _ => 0)
   case atStart => exact ⟨rfl, H2⟩
   case round =>
    clear H2 s1'
    obtain ⟨rfl, H⟩ := hrel
    have cN : wr.cell? ⟨bN, 0, none⟩ = some (.func (.func 79) #[] #[.pointer (some ⟨bo, 0, none⟩)]) := (qA1 (H.out.at_ hN) 0).trans rfl
    have s2 : wr.cell? ⟨w.heap.size, 2, none⟩ = some (.slice none 0 0) := (qA1 (H.out.at_ hS) 2).trans rfl
    have HZ := zq H.out
    clear H
    go_wp2_with fail
    refine (callN HZ.out [0] (by have := HLb.out; rw [List.take_length]; simp only [List.length_append, List.length_singleton, List.length_cons, List.length_nil]; omega) rfl).mono ?_
    rintro e W3 ⟨rfl, h3⟩
    have s2' : W3.cell? ⟨w.heap.size, 2, none⟩ = some (.slice none 0 0) := (qA1 (h3.at_ hS) 2).trans rfl
    have H3 : qA0 (FI w bo K W3 (qD4 l)) := ⟨by rw [List.take_length] at h3; simpa [qD4, List.append_assoc] using h3⟩
    clear h3 HZ cN s2
    go_wp2_with fail
    go_loopw [182] (fun i wr => i = .int .i64 0 ∧ qA0 (FI w bo K wr (qD4 l))) (fun _ _ => 0)
    case atStart => exact ⟨rfl, H3⟩
    case round =>
     clear H3 s2'
     obtain ⟨rfl, H⟩ := hrel
     obtain ⟨A, c, o1, o2, o3, o4⟩ := H.out.out
     have v0 := qA1 o1 0
     have HZ := zq (And.intro o2 H.out.bd)
     clear o1 o2 o3 o4 H
     generalize hLL : qD4 l = LL at *
     go_wp2_with fail
     go_ret
     subst hLL
     exact ⟨A, c, rfl, HZ.out.1, HZ.out.2⟩
def isTok (u : Value) : Prop := (∃ n, u = iI n) ∨ ∃ s, u = iS s
theorem bytes_self (m : ByteArray) : (m == m) = true := by show (m.data == m.data) = true; simp
theorem eqInInt (d : Nat) (m : Int) (w : World) : (Op.equalIn (d + 2) 20 (.iface 3 (.int .i64 m)) (.iface 3 (.int .i64 m))).run Tryz.prog w = .ok true w := by
 have h20 : (Tryz.prog.underlying 20).isSome = true := by kernel_rfl
 have h3 : Tryz.prog.underlying 3 = some (.int .i64) := by kernel_rfl
 obtain ⟨ms, h20⟩ : ∃ ms, Tryz.prog.underlying 20 = some (.interface ms) := ⟨#[], by kernel_rfl⟩
 have hq : (Tryz.prog.info? 3).map (·.comparable) = some true := by kernel_rfl
 obtain ⟨i3, hi3, hc3⟩ := Option.map_eq_some_iff.1 hq
 simp [Op.equalIn, run_underlying h20, run_underlying h3, typeInfo, hi3, hc3, bytes_self]
theorem neqInt (m : Int) (w : World) : (binOp .neq 20 (.iface 3 (.int .i64 m)) (.iface 3 (.int .i64 m))).run Tryz.prog w = .ok (.bool false) w := by
 simp only [binOp]
 simp [Op.equal, Op.maxDepth, eqInInt 9998 m w]
theorem eqInStr (d : Nat) (m : ByteArray) (w : World) : (Op.equalIn (d + 2) 20 (.iface 9 (.string m)) (.iface 9 (.string m))).run Tryz.prog w = .ok true w := by
 have h20 : (Tryz.prog.underlying 20).isSome = true := by kernel_rfl
 have h3 : Tryz.prog.underlying 9 = some .string := by kernel_rfl
 obtain ⟨ms, h20⟩ : ∃ ms, Tryz.prog.underlying 20 = some (.interface ms) := ⟨#[], by kernel_rfl⟩
 have hq : (Tryz.prog.info? 9).map (·.comparable) = some true := by kernel_rfl
 obtain ⟨i3, hi3, hc3⟩ := Option.map_eq_some_iff.1 hq
 simp [Op.equalIn, run_underlying h20, run_underlying h3, typeInfo, hi3, hc3, bytes_self]
theorem neqStr (m : ByteArray) (w : World) : (binOp .neq 20 (.iface 9 (.string m)) (.iface 9 (.string m))).run Tryz.prog w = .ok (.bool false) w := by
 simp only [binOp]
 simp [Op.equal, Op.maxDepth, eqInStr 9998 m w]
set_option maxHeartbeats 4000000 in
set_option maxRecDepth 100000 in
theorem equalAny.walk (base : Nat) (A B : Option Addr) (c d : Nat) (L : List Value) (W : World) (hA : W.ownsRow base 20 1 (.slice A L.length c) L.length L) (hB : W.ownsRow base 20 1 (.slice B L.length d) L.length L) (ht : ∀ u ∈ L, isTok u) (hm : L.length ≤ 1099511627776) :
  Calls Tryz.prog 56 #[.slice A L.length c, .slice B L.length d] W fun e W' => e = .returned (.bool true) ∧ Below W.heap.size W W' := by
 have HA := zq hA
 have HB := zq hB
 have HT := zq ht
 clear hA hB ht
 go_enter Tryz.func56, Tryz.ntmps56
 go_wp2_with fail
 go_loopw [13] (fun i wr => ∃ k : Nat, k ≤ L.length ∧ i = .int .i64 k ∧ qA0 (Below W.heap.size W wr)) (fun i _ => L.length - (intOf i).toNat)
 case atStart => exact ⟨0, Nat.zero_le _, rfl, ⟨Below.refl _ _⟩⟩
 case round =>
  obtain ⟨k, hk, rfl, H⟩ := hrel
  by_cases hlt : k < L.length
  ·obtain ⟨g1, c1, h1, -, -⟩ := HA.out.form (by omega)
   obtain ⟨g2, c2, h2, -, -⟩ := HB.out.form (by omega)
   obtain ⟨rfl, rfl⟩ : A = some ⟨g1, 0, none⟩ ∧ c = c1 := by simpa using h1
   obtain ⟨rfl, rfl⟩ : B = some ⟨g2, 0, none⟩ ∧ d = c2 := by simpa using h2
   have hget : L[k]? = some L[k] := List.getElem?_eq_getElem hlt
   have y1 : wr.cell? ⟨g1, k, none⟩ = some L[k] := qA2 H.out ((HA.out.cellAt k (by omega)).trans hget)
   have y2 : wr.cell? ⟨g2, k, none⟩ = some L[k] := qA2 H.out ((HB.out.cellAt k (by omega)).trans hget)
   have hu := HT.out _ (List.getElem_mem hlt)
   generalize L[k] = u at *
   clear h1 h2 hget
   rcases hu with ⟨m, rfl⟩ | ⟨s, rfl⟩
   ·unfold iI at y1 y2
    have e_ := fun w => neqInt m w
    go_wp2_with fail
    go_quiet (fail)
    go_wp2_with fail
    go_roundw
    case rel => exact ⟨k + 1, by omega, by first | rfl | (simp; done) | rw [Int.natCast_add]; rfl, ⟨qA8 H.out _⟩⟩
    case measure => show L.length - ((k : Int) + 1).toNat < L.length - (k : Int).toNat; omega
   ·unfold iS at y1 y2
    have e_ := fun w => neqStr s w
    go_wp2_with fail
    go_quiet (fail)
    go_wp2_with fail
    go_roundw
    case rel => exact ⟨k + 1, by omega, by first | rfl | (simp; done) | rw [Int.natCast_add]; rfl, ⟨qA8 H.out _⟩⟩
    case measure => show L.length - ((k : Int) + 1).toNat < L.length - (k : Int).toNat; omega
  ·obtain rfl : k = L.length := by omega
   go_wp2_with fail
   go_ret
   exact ⟨rfl, H.out⟩
theorem qEH (n : Int) : isTok (iI n) := .inl ⟨n, rfl⟩
theorem isTok_str (s : ByteArray) : isTok (iS s) := .inr ⟨s, rfl⟩
theorem tokBody_tok (l : List S49) : ∀ u ∈ qD4 l, isTok u := by
 have hE : ∀ e : List S79, ∀ u ∈ qDG e, isTok u := fun e u hu => by
  simp only [qDG, qE4, List.mem_append, List.mem_cons, List.mem_flatMap, List.mem_map, List.not_mem_nil, or_false] at hu
  rcases hu with rfl | ⟨x, _, hu⟩
  ·exact qEH _
  ·rcases hu with (((rfl | rfl) | ⟨n, _, rfl⟩) | (rfl | rfl)) | rfl <;> first | exact qEH _ | exact isTok_str _
 have hT : ∀ t : S73, ∀ u ∈ qDS t, isTok u := fun t u hu => by
  simp only [qDS, tokB, qEL, List.mem_append, List.mem_cons, List.mem_flatMap, List.not_mem_nil, or_false] at hu
  rcases hu with (((rfl | (rfl | rfl)) | rfl) | rfl) | ⟨x, _, (rfl | rfl)⟩ <;> first | exact qEH _ | exact isTok_str _
 have hA : ∀ x : S55, ∀ u ∈ qED x, isTok u := fun x u hu => by
  simp only [qED, qFC, List.mem_append, List.mem_cons, List.mem_flatMap, List.not_mem_nil, or_false] at hu
  rcases hu with (((((rfl | rfl) | hu) | hu) | rfl) | ⟨y, _, (rfl | rfl)⟩) | rfl <;> first | exact qEH _ | exact isTok_str _ | exact hE _ _ hu
 have hAt : ∀ x : S98, ∀ u ∈ qCN x, isTok u := fun x u hu => by
  simp only [qCN, tokB, List.mem_append, List.mem_cons, List.not_mem_nil, or_false] at hu
  rcases hu with ((rfl | rfl) | rfl) | (rfl | rfl | rfl | rfl) <;> first | exact qEH _ | exact isTok_str _
 intro u hu
 simp only [qD4, qEE, List.mem_append, List.mem_cons, List.mem_flatMap, List.not_mem_nil, or_false] at hu
 rcases hu with ((rfl | ⟨a, _, hu⟩) | rfl) | rfl
 ·exact qEH _
 ·rcases hu with ((((((rfl | (rfl | rfl | rfl)) | ⟨x, _, hu⟩) | rfl) | ⟨x, _, hu⟩) | rfl) | ⟨x, _, hu⟩) <;> first | exact qEH _ | exact isTok_str _ | exact hAt _ _ hu | exact hT _ _ hu | exact hA _ _ hu
 ·exact qEH _
 ·exact qEH _
set_option maxHeartbeats 4000000 in
set_option maxRecDepth 100000 in
theorem sameState.walk (A B : Option Addr) (c d : Nat) (l : List S49) (w : World) (hA : Kd.C k49 w A l.length l) (hB : Kd.C k49 w B l.length l) (hl : (qD4 l).length ≤ 1099511627776) :
  Calls Tryz.prog 33 #[.agg #[.slice A l.length c, .slice none 0 0, .slice none 0 0], .agg #[.slice B l.length d, .slice none 0 0, .slice none 0 0]] w fun e W' => e = .returned (.bool true) ∧ Below w.heap.size w W' := by
 have HA := zq hA
 have HB := zq hB
 have HL := zq hl
 have hW : Below w.heap.size w ((w.alloc (.cells #[.slice A l.length c, .slice none 0 0, .slice none 0 0] 94)).alloc (.cells #[.slice B l.length d, .slice none 0 0, .slice none 0 0] 94)) := qAA (qAA (Below.refl _ _) _) _
 have k1 := qBV (heap_alloc_new w (.cells #[.slice A l.length c, .slice none 0 0, .slice none 0 0] 94)) (.cells #[.slice B l.length d, .slice none 0 0, .slice none 0 0] 94)
 have k2 := heap_alloc_new (w.alloc (.cells #[.slice A l.length c, .slice none 0 0, .slice none 0 0] 94)) (.cells #[.slice B l.length d, .slice none 0 0, .slice none 0 0] 94)
 rw [show (w.alloc (.cells #[.slice A l.length c, .slice none 0 0, .slice none 0 0] 94)).heap.size = w.heap.size + 1 from by simp] at k2
 have K := zq (And.intro k1 k2)
 have HW := zq hW
 clear hA hB hl hW k1 k2
 go_enter Tryz.func33, Tryz.ntmps33
 go_wp2_with fail
 generalize (w.alloc (.cells #[.slice A l.length c, .slice none 0 0, .slice none 0 0] 94)).alloc (.cells #[.slice B l.length d, .slice none 0 0, .slice none 0 0] 94) = W0 at *
 have a0 : W0.cell? ⟨w.heap.size, 0, none⟩ = some (.slice A l.length c) := (qA1 K.out.1 0).trans rfl
 have a1 : W0.cell? ⟨w.heap.size, 1, none⟩ = some (.slice none 0 0) := (qA1 K.out.1 1).trans rfl
 have a2 : W0.cell? ⟨w.heap.size, 2, none⟩ = some (.slice none 0 0) := (qA1 K.out.1 2).trans rfl
 have b0 : W0.cell? ⟨w.heap.size + 1, 0, none⟩ = some (.slice B l.length d) := (qA1 K.out.2 0).trans rfl
 have b1 : W0.cell? ⟨w.heap.size + 1, 1, none⟩ = some (.slice none 0 0) := (qA1 K.out.2 1).trans rfl
 have b2 : W0.cell? ⟨w.heap.size + 1, 2, none⟩ = some (.slice none 0 0) := (qA1 K.out.2 2).trans rfl
 refine Gate.begin (fun w_ => w_.cell? ⟨w.heap.size, 0, none⟩ = some (.slice A l.length c) ∧ w_.cell? ⟨w.heap.size, 1, none⟩ = some (.slice none 0 0) ∧ w_.cell? ⟨w.heap.size, 2, none⟩ = some (.slice none 0 0) ∧ w_.cell? ⟨w.heap.size + 1, 0, none⟩ = some (.slice B l.length d) ∧ w_.cell? ⟨w.heap.size + 1, 1, none⟩ = some (.slice none 0 0) ∧ w_.cell? ⟨w.heap.size + 1, 2, none⟩ = some (.slice none 0 0)) 5 (by kernel_rfl) ?_
 refine Gate.gt 0 5 (.agg #[.slice A l.length c, .slice none 0 0, .slice none 0 0]) ⟨a0, a1, a2, b0, b1, b2⟩ ?_
 refine Gate.gt 2 7 (.agg #[.slice B l.length d, .slice none 0 0, .slice none 0 0]) ⟨a0, a1, a2, b0, b1, b2⟩ ?_
 refine Gate.gc 1 6 ?_
 refine (mootref5_Flat.walk A c l _ (Kd.qAB HA.out (qDJ HW.out)) HL.out).mono ?_
 rintro e W1 ⟨A1, d1, rfl, ho1, hb1⟩
 replace a0 := qA2 hb1 a0
 replace a1 := qA2 hb1 a1
 replace a2 := qA2 hb1 a2
 replace b0 := qA2 hb1 b0
 replace b1 := qA2 hb1 b1
 replace b2 := qA2 hb1 b2
 have G1 := zq (And.intro ho1 (qA7 (qDJ HW.out) hb1))
 clear ho1 hb1
 refine ⟨_, rfl, ⟨a0, a1, a2, b0, b1, b2⟩, ?_⟩
 simp only [Act.put, List.setIfInBounds_toArray, List.set_cons_zero, List.set_cons_succ]
 refine Gate.gc 3 8 ?_
 refine (mootref5_Flat.walk B d l _ (Kd.qAB HB.out G1.out.2) HL.out).mono ?_
 rintro e W2 ⟨A2, d2, rfl, ho2, hb2⟩
 replace a0 := qA2 hb2 a0
 replace a1 := qA2 hb2 a1
 replace a2 := qA2 hb2 a2
 replace b0 := qA2 hb2 b0
 replace b1 := qA2 hb2 b1
 replace b2 := qA2 hb2 b2
 have G2 := zq (And.intro (qFP (qBJ G1.out.1 hb2) (Nat.le_refl _)) (And.intro (qFP ho2 (by have := G1.out.2.size; first | exact G1.out.2.size | (simp at this ⊢; omega) | omega)) (qA7 G1.out.2 hb2)))
 clear ho2 hb2
 refine ⟨_, rfl, ⟨a0, a1, a2, b0, b1, b2⟩, ?_⟩
 simp only [Act.put, List.setIfInBounds_toArray, List.set_cons_zero, List.set_cons_succ]
 refine Gate.gc 4 9 ?_
 refine (equalAny.walk w.heap.size A1 A2 d1 d2 (qD4 l) W2 (qFP G2.out.1 (by have := HW.out.size; first | exact HW.out.size | omega)) G2.out.2.1 (tokBody_tok l) HL.out).mono ?_
 rintro e W3 ⟨rfl, hb3⟩
 replace a0 := qA2 hb3 a0
 replace a1 := qA2 hb3 a1
 replace a2 := qA2 hb3 a2
 replace b0 := qA2 hb3 b0
 replace b1 := qA2 hb3 b1
 replace b2 := qA2 hb3 b2
 have G3 := zq (qA7 G2.out.2.2 hb3)
 clear hb3
 refine ⟨_, rfl, ⟨a0, a1, a2, b0, b1, b2⟩, ?_⟩
 simp only [Act.put, List.setIfInBounds_toArray, List.set_cons_zero, List.set_cons_succ]
 refine Gate.gv 5 4 (.bool true) ?_
 refine Gate.done (by kernel_rfl) ?_ _
 go_wp2_with fail
 go_ret
 exact ⟨rfl, G3.out⟩
set_option maxHeartbeats 4000000 in
set_option maxRecDepth 100000 in
theorem qFE.walk (A B : Option Addr) (c d : Nat) (l : List S49) (w : World) (hA : Kd.C k49 w A l.length l) (hB : Kd.C k49 w B l.length l) (hl : (qD4 l).length ≤ 1099511627776) :
  Calls Tryz.prog 10 #[.slice A l.length c, .slice B l.length d] w fun e W' => e = .returned (.bool true) ∧ Below w.heap.size w W' := by
 have HS := zq (fun W (hb : Below w.heap.size w W) => sameState.walk A B c d l W (Kd.qAB hA hb) (Kd.qAB hB hb) hl)
 clear hA hB hl
 go_enter Tryz.func10, Tryz.ntmps10
 go_wp2_with fail
 refine (HS.out _ (Below.refl _ _)).mono ?_
 rintro e W1 ⟨rfl, hb⟩
 have HB := zq hb
 clear hb HS
 go_wp2_with fail
 go_ret
 exact ⟨rfl, HB.out⟩
end
end Go.Proofs.YtfnejdbjekkadaaGreat.PRatePuts
end
