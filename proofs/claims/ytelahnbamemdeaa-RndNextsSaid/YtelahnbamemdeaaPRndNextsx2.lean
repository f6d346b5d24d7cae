-- Written by this session's own program, out of the translation and of contracts of its own. Not trusted: Lean checks it.
import Derived.Test.YtelahnbamemdeaaPRndNextsx0
import Derived.Test.YtelahnbamemdeaaPRndNextsx1
namespace Go.Proofs.Ytelahnbamemdeaa.PRndNexts
open Go.RowKit Go.Proofs.YtelahnbamemdeaaW.PrintWords Go.Proofs.YtelahnbamemdeaaW.PrintLast Go.Proofs.YtelahnbamemdeaaW.PrintMore
attribute [local go_sem] max2_int min2_int max_two min_two max_three min_three max_four min_four   -- for this text's walks alone
set_option linter.unusedVariables false
set_option linter.unusedSimpArgs false

/-! ### mootlaw5_RndNexts: function 4 -/
theorem stream_calls (s key t1 sp : Int) (w : World) (h1 : mootref5_spread.f (IntKind.u64.wrap (IntKind.u64.wrap key + 11400714819323198485)) = some t1) (h2 : mootref5_spread.f (Go.bits .xor .u64 s t1) = some sp) :
    Calls Try.prog 16 #[.int .u64 s, .int .i64 key] w fun e w' => ∃ g, e = .returned (.pointer (some ⟨g, 0, none⟩)) ∧ w.heap.size ≤ g ∧ g < w'.heap.size ∧ w'.cell? ⟨g, 0, none⟩ = some (.int .u64 sp) ∧ Below w.heap.size w w' := by
  go_enter Try.func16, Try.ntmps16
  go_wp2_with fail
  refine (mootref5_spread.calls _ _ w h1).mono ?_
  rintro e w1 ⟨rfl, hb1⟩
  go_wp2_with fail
  refine (mootref5_spread.calls _ _ _ h2).mono ?_
  rintro e w2 ⟨rfl, hb2⟩
  have z1 := hb1.size
  have z2 := hb2.size
  have hB := hb1.trans (hb2.mono z1)
  clear hb1 hb2
  go_wp2_with fail
  go_ret
  exact ⟨w2.heap.size, rfl, by omega, by simp, (World.cell?_alloc_new (w := w2) #[Value.int .u64 sp] 30 0).trans rfl, below_alloc hB _⟩
set_option maxRecDepth 100000 in
set_option maxHeartbeats 2000000 in
theorem nexts_walk (k : Nat) (s n key m : Int) (w : World) (x nx kk nb sp t1 nm : Int) (l : List Int)
    (h1 : rnd_Next.f s = some (x, nx)) (h2 : mootref5_Rnd_Next.f s = some (x, nx)) (h3 : ((s == 0) = true ∧ (x != 16294208416658607535) = false) ∨ (s == 0) = false)
    (h4 : rnd_Below.f s n = some (kk, nb)) (h5 : mootref5_Rnd_Below.f s n = some (kk, nb)) (h6 : rnd_Split.f s key = some sp)
    (h7 : mootref5_spread.f (IntKind.u64.wrap (IntKind.u64.wrap key + 11400714819323198485)) = some t1) (h8 : mootref5_spread.f (Go.bits .xor .u64 s t1) = some sp)
    (hm : (40 < n ∧ m = n % 40) ∨ (¬ 40 < n ∧ n < -1 ∧ m = n.tmod 40) ∨ (¬ 40 < n ∧ ¬ n < -1 ∧ m = n))
    (h9 : rnd_Mix.f k s m = some (l, nm)) (h10 : mootref5_Rnd_Mixed.f k s m = some (l, nm)) (h11 : slices_Equal_int_int.f k l l = some true) :
    Calls Try.prog 4 #[.int .u64 s, .int .i64 n, .int .i64 key] w fun e w' => e = .returned (.bool true) ∧ Below w.heap.size w w' := by
  have H9 := Aside0.mk h9
  have H10 := Aside0.mk h10
  clear h9 h10
  have hu30 := Try.underlying30
  go_enter Try.func4, Try.ntmps4
  go_wp2_with fail
  refine (rnd_Next.calls s x nx w h1).mono ?_
  rintro e w1 ⟨rfl, ⟨n1, rfl⟩⟩
  have hc0 : ((w.drewN n1).alloc (Obj.cells #[Value.int IntKind.u64 0] 30)).cell? ⟨w.heap.size, 0, none⟩ = some (.int .u64 0) := (World.cell?_alloc_new (w := w.drewN n1) #[Value.int .u64 0] 30 0).trans rfl
  have hf0 : ((w.drewN n1).alloc (Obj.cells #[Value.int IntKind.u64 0] 30)).frozen? ⟨w.heap.size, 0, none⟩ = false := blk_frozen (blk_new (w.drewN n1) _) 0
  go_wp2_with fail
  clear hc0 hf0
  have hB := below_alloc (pw_below_drewN (Below.refl w.heap.size w) n1) (Obj.cells #[Value.int IntKind.u64 0] 30)
  have hI := IsS30.set_0 (IsS30.new w (w.drewN n1) 0 (pw_below_drewN (Below.refl w.heap.size w) n1)) s
  refine (mootref5_Rnd_Next.calls w.heap.size s x nx w _ hI (below_set hB (IsS30.ge hI)) h2).mono ?_
  clear hI hB
  rintro e w2 ⟨rfl, hI2, hB2, _⟩
  have hcell := cellS30_0 hI2.1
  have hfr := blk_frozen hI2.1 0
  have HB2 := Aside0.mk hB2
  have HI2 := Aside0.mk hI2
  clear hB2 hI2
  rcases h3 with ⟨h3a, h3b⟩ | h3a
  all_goals
    go_wp2_with fail
    refine (rnd_Below.calls s n kk nb _ h4).mono ?_
    clear hcell hfr
    rintro e w3 ⟨rfl, ⟨n3, rfl⟩⟩
    go_wp2_with fail
    have hI := IsS30.drewN (IsS30.set_0 HI2.out s) n3
    refine (mootref5_Rnd_Below.calls w.heap.size s n kk nb w _ hI (pw_below_drewN (below_set HB2.out (IsS30.ge HI2.out)) n3) h5).mono ?_
    clear hI
    rintro e w4 ⟨rfl, hI4, hB4, _⟩
    have hcell := cellS30_0 hI4.1
    have hfr := blk_frozen hI4.1 0
    have HB4 := Aside0.mk hB4
    have HI4 := Aside0.mk hI4
    clear hB4 hI4
    go_wp2_with fail
    refine (rnd_Split.calls s key sp _ h6).mono ?_
    clear hcell hfr
    rintro e w5 ⟨rfl, ⟨n5, rfl⟩⟩
    go_wp2_with fail
    refine (stream_calls s key t1 sp _ h7 h8).mono ?_
    rintro e w6 ⟨g6, rfl, hg6, hgl6, hcell6, hB6⟩
    have HI6 := Aside0.mk (show IsS30 w w6 w.heap.size nb from IsS30.below (IsS30.drewN HI4.out n5) hB6)
    have HB6 := Aside0.mk ((pw_below_drewN HB4.out n5).trans (hB6.mono (pw_below_drewN HB4.out n5).size))
    clear hB6
    have hcell := cellS30_0 HI6.out.1
    have hfr := blk_frozen HI6.out.1 0
    rcases hm with ⟨hm1, rfl⟩ | ⟨hm1, hm2, rfl⟩ | ⟨hm1, hm2, rfl⟩
    all_goals
      go_wp2_with fail
      refine (rnd_Mix.calls k s _ l nm _ H9.out).mono ?_
      clear hcell hfr
      rintro e w7 ⟨v7, rfl, hR7, hB7⟩
      obtain ⟨A7, c7, rfl, hc7, hC7⟩ := Kd.R_reads hR7
      have hI7 : IsS30 w w7 w.heap.size s := IsS30.below (IsS30.set_0 HI6.out s) hB7
      have hb6 := below_set (g := w.heap.size) (j := 0) (v := Value.int .u64 s) HB6.out (IsS30.ge HI6.out)
      have HB7 := Aside0.mk (hb6.trans (hB7.mono hb6.size))
      have HI7 := Aside0.mk hI7
      have hfar : ∀ ad, A7 = some ad → 0 < l.length → ad.block ≠ w.heap.size := by
        rintro ad rfl hl
        obtain ⟨g, cap, he, hg, _⟩ := Kd.R_form hR7 hl
        injection he with he1
        injection he1 with he1
        subst he1
        have z1 := IsS30.lt HI6.out
        simp [World.setCell] at hg
        dsimp
        omega
      have HF := Aside0.mk hfar
      have HC7 := Aside0.mk hC7
      clear hB7 hI7 hb6 hR7 hfar hC7
      go_wp2_with fail
      refine (mootref5_Rnd_Mixed.calls k w.heap.size s _ l nm w _ HI7.out HB7.out H10.out).mono ?_
      rintro e w8 ⟨v8, rfl, hR8, hI8, hB8, hK8⟩
      obtain ⟨A8, c8, rfl, hc8, hC8⟩ := Kd.R_reads hR8
      have HC8 := Aside0.mk hC8
      have HC9 := Aside0.mk (Kd.C_keep (0 : Int) HC7.out hK8 HF.out)
      have hcell := cellS30_0 hI8.1
      have HB8 := Aside0.mk hB8
      clear hR8 hC8 hI8 hB8 hK8
      go_wp2_with fail
      refine (slices_Equal_int_int.calls k _ c7 l _ c8 l true _ HC9.out hc7 HC8.out hc8 h11).mono ?_
      rintro e w9 ⟨rfl, ⟨n9, rfl⟩⟩
      go_wp2_with fail
      go_ret
      exact ⟨rfl, by repeat (first | exact HB8.out | apply pw_below_drewN)⟩
def mootlaw5_RndNexts.F (k : Nat) (s n key : Int) : Prop := ∃ m x nx kk nb sp t1 nm l, rnd_Next.f s = some (x, nx) ∧ mootref5_Rnd_Next.f s = some (x, nx) ∧ (s = 0 → x = 16294208416658607535) ∧ rnd_Below.f s n = some (kk, nb) ∧ mootref5_Rnd_Below.f s n = some (kk, nb) ∧ rnd_Split.f s key = some sp ∧ mootref5_spread.f (IntKind.u64.wrap (IntKind.u64.wrap key + 11400714819323198485)) = some t1 ∧ mootref5_spread.f (Go.bits .xor .u64 s t1) = some sp ∧ ((40 < n ∧ m = n % 40) ∨ (¬ 40 < n ∧ n < -1 ∧ m = n.tmod 40) ∨ (¬ 40 < n ∧ ¬ n < -1 ∧ m = n)) ∧ rnd_Mix.f k s m = some (l, nm) ∧ mootref5_Rnd_Mixed.f k s m = some (l, nm) ∧ slices_Equal_int_int.f k l l = some true
theorem mootlaw5_RndNexts.calls (k : Nat) (s n key : Int) (w : World) (h : mootlaw5_RndNexts.F k s n key) :
    Calls Try.prog 4 #[.int .u64 s, .int .i64 n, .int .i64 key] w fun e w' => e = .returned (.bool true) ∧ Below w.heap.size w w' := by
  obtain ⟨m, x, nx, kk, nb, sp, t1, nm, l, h1, h2, h3, h4, h5, h6, h7, h8, h9, h10, h11, h12⟩ := h
  refine nexts_walk k s n key m w x nx kk nb sp t1 nm l h1 h2 ?_ h4 h5 h6 h7 h8 h9 h10 h11 h12
  by_cases c : s = 0
  · exact .inl ⟨beq_iff_eq.mpr c, bne_eq_false_iff_eq.mpr (h3 c)⟩
  · exact .inr (beq_eq_false_iff_ne.mpr c)

def mootlaw5_RndNexts.Pure : Prop := ∀ (a0 : Int) (a1 : Int) (a2 : Int), (Lit.int .u64 a0).wf = true → (Lit.int .i64 a1).wf = true → (Lit.int .i64 a2).wf = true → ∃ k, mootlaw5_RndNexts.F k a0 a1 a2
theorem mootlaw5_RndNexts.walk (P : mootlaw5_RndNexts.Pure) (a0 : Int) (a1 : Int) (a2 : Int) (w : World) (w0 : (Lit.int .u64 a0).wf = true) (w1 : (Lit.int .i64 a1).wf = true) (w2 : (Lit.int .i64 a2).wf = true) :
    Calls Try.prog 4 #[.int .u64 a0, .int .i64 a1, .int .i64 a2] w fun e w' => e = .returned (.bool true) ∧ Below w.heap.size w w' := by
  obtain ⟨k, h⟩ := P a0 a1 a2 w0 w1 w2
  exact mootlaw5_RndNexts.calls k a0 a1 a2 w h

end Go.Proofs.Ytelahnbamemdeaa.PRndNexts
