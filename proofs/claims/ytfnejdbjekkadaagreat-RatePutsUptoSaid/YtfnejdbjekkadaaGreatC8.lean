/- A part of the proof of RatePuts: texts that were printed, words, walks. No condition. -/
import Derived.Test.YtfnejdbjekkadaaGreatC0
import Derived.Test.YtfnejdbjekkadaaGreatC1
import Derived.Lib.SliceRun
import Derived.OrdersHeld
import Derived.Tactics
import Derived.KernelRfl
import Derived.BigQuiet
import Derived.Orders
import Derived.RangeFuncBox
import Derived.Maps.AppendAt
set_option linter.unusedVariables false
set_option linter.unusedSimpArgs false
section
namespace Go.Proofs.YtfnejdbjekkadaaGreat.PRatePuts
noncomputable section
open Go.RowKit Go.Proofs.YtfnejdbjekkadaaGreatW.PrintWords Go.Proofs.YtfnejdbjekkadaaGreatW.PrintLast Go.Proofs.YtfnejdbjekkadaaGreatW.PrintMore
set_option maxHeartbeats 8000000
set_option maxRecDepth 100000
theorem cloneActs.info : (Tryz.prog.info? 49).map (fun i => (i.zero, i.size, i.bytes)) = some (some (.agg #[.string ⟨#[]⟩, .int .i64 0, .int .i64 0, .slice none 0 0, .slice none 0 0, .slice none 0 0]), 6, 104) := by kernel_rfl
theorem cloneActs.walk (ad : Addr) (n c : Nat) (news : List Value) (w : World) (hl : news.length = n * 6) (hn : n ≤ maxLen) (hbig : n * 104 ≤ 140737488355328) (hc : ∀ j u, news[j]? = some u → w.cell? (ad.add j) = some u) (h1 : ∀ u ∈ news, u.oneCell' = true) :
  Calls Tryz.prog 25 #[.slice (some ad) n c] w fun e w' => ∃ v', e = .returned v' ∧ w'.ownsRow w.heap.size 49 6 v' n news ∧ Below w.heap.size w w' := by
 have q22 : ∀ (w : World) (a : Option Addr) (n c n' c' : Nat), (binOp .eql 23 (.slice a n c) (.slice none n' c')).run Tryz.prog w = .ok (.bool a.isNone) w := fun w a n c n' c' => Lib.run_eql_slice_nil w _ _ a n c n' c' Tryz.underlying23
 have A : qA0 (∀ j u, news[j]? = some u → w.cell? (ad.add j) = some u) := ⟨hc⟩
 clear hc
 obtain ⟨i0, hi, hz0, hz1, hz2⟩ := info_parts cloneActs.info
 go_enter Tryz.func25, Tryz.ntmps25
 go_wp2_with (at_builtin; refine wpList_append_own _ rfl _ _ 23 rfl w.heap.size 49 i0 (.agg #[.string ⟨#[]⟩, .int .i64 0, .int .i64 0, .slice none 0 0, .slice none 0 0, .slice none 0 0]) 6 104 Tryz.underlying23 hi hz0 hz1 hz2 rfl (by decide) _ _ _ rfl (World.ownsRow_made w #[] 0 (Nat.le_refl _) (Nat.zero_le _) (by simp)) ad n c news rfl ?qc1 ?qc2 ?qc3 ?qc4 ?qc5 ?qc6 ?_)
 case qc1 => exact hl
 case qc2 =>
  intro j u hj
  exact Lib.cell?_alloc_some _ (A.out j u hj)
 case qc3 => exact h1
 case qc4 => rw [Nat.zero_add]; exact hn
 case qc5 => rw [Nat.zero_add]; exact hbig
 case qc6 => simp
 intro v' w1 hown hgrow hnil
 go_wp2
 go_ret
 exact ⟨v', rfl, by simpa using hown, ((Below.refl _ w).alloc (Nat.le_refl _) _).grown hgrow (by simp) (by intro k hk; simp [Value.ownBlock] at hk; omega)⟩
theorem cloneActs.nil (n c : Nat) (w : World) : Calls Tryz.prog 25 #[.slice none n c] w fun e w' => e = .returned (.slice none 0 0) ∧ w' = w := by
 have q22 : ∀ (w : World) (a : Option Addr) (n c n' c' : Nat), (binOp .eql 23 (.slice a n c) (.slice none n' c')).run Tryz.prog w = .ok (.bool a.isNone) w := fun w a n c n' c' => Lib.run_eql_slice_nil w _ _ a n c n' c' Tryz.underlying23
 go_enter Tryz.func25, Tryz.ntmps25
 go_wp2
 go_ret
 exact ⟨rfl, rfl⟩
theorem qFT.info : (Tryz.prog.info? 98).map (fun i => (i.zero, i.size, i.bytes)) = some (some (.agg #[.string ⟨#[]⟩, .int .i64 0, .bool false, .int .i64 0, .int .i64 0, .int .i64 0, .int .i64 0]), 7, 64) := by kernel_rfl
theorem qFT.walk (ad : Addr) (n c : Nat) (news : List Value) (w : World) (hl : news.length = n * 7) (hn : n ≤ maxLen) (hbig : n * 64 ≤ 140737488355328) (hc : ∀ j u, news[j]? = some u → w.cell? (ad.add j) = some u) (h1 : ∀ u ∈ news, u.oneCell' = true) :
  Calls Tryz.prog 34 #[.slice (some ad) n c] w fun e w' => ∃ v', e = .returned v' ∧ w'.ownsRow w.heap.size 98 7 v' n news ∧ Below w.heap.size w w' := by
 have q22 : ∀ (w : World) (a : Option Addr) (n c n' c' : Nat), (binOp .eql 45 (.slice a n c) (.slice none n' c')).run Tryz.prog w = .ok (.bool a.isNone) w := fun w a n c n' c' => Lib.run_eql_slice_nil w _ _ a n c n' c' Tryz.underlying45
 have A : qA0 (∀ j u, news[j]? = some u → w.cell? (ad.add j) = some u) := ⟨hc⟩
 clear hc
 obtain ⟨i0, hi, hz0, hz1, hz2⟩ := info_parts qFT.info
 go_enter Tryz.func34, Tryz.ntmps34
 go_wp2_with (at_builtin; refine wpList_append_own _ rfl _ _ 45 rfl w.heap.size 98 i0 (.agg #[.string ⟨#[]⟩, .int .i64 0, .bool false, .int .i64 0, .int .i64 0, .int .i64 0, .int .i64 0]) 7 64 Tryz.underlying45 hi hz0 hz1 hz2 rfl (by decide) _ _ _ rfl (World.ownsRow_made w #[] 0 (Nat.le_refl _) (Nat.zero_le _) (by simp)) ad n c news rfl ?qc1 ?qc2 ?qc3 ?qc4 ?qc5 ?qc6 ?_)
 case qc1 => exact hl
 case qc2 =>
  intro j u hj
  exact Lib.cell?_alloc_some _ (A.out j u hj)
 case qc3 => exact h1
 case qc4 => rw [Nat.zero_add]; exact hn
 case qc5 => rw [Nat.zero_add]; exact hbig
 case qc6 => simp
 intro v' w1 hown hgrow hnil
 go_wp2
 go_ret
 exact ⟨v', rfl, by simpa using hown, ((Below.refl _ w).alloc (Nat.le_refl _) _).grown hgrow (by simp) (by intro k hk; simp [Value.ownBlock] at hk; omega)⟩
theorem qFT.nil (n c : Nat) (w : World) : Calls Tryz.prog 34 #[.slice none n c] w fun e w' => e = .returned (.slice none 0 0) ∧ w' = w := by
 have q22 : ∀ (w : World) (a : Option Addr) (n c n' c' : Nat), (binOp .eql 45 (.slice a n c) (.slice none n' c')).run Tryz.prog w = .ok (.bool a.isNone) w := fun w a n c n' c' => Lib.run_eql_slice_nil w _ _ a n c n' c' Tryz.underlying45
 go_enter Tryz.func34, Tryz.ntmps34
 go_wp2
 go_ret
 exact ⟨rfl, rfl⟩
theorem qF7.info : (Tryz.prog.info? 73).map (fun i => (i.zero, i.size, i.bytes)) = some (some (.agg #[.string ⟨#[]⟩, .int .i64 0, .int .i64 0, .bool false, .slice none 0 0]), 5, 64) := by kernel_rfl
theorem qF7.walk (ad : Addr) (n c : Nat) (news : List Value) (w : World) (hl : news.length = n * 5) (hn : n ≤ maxLen) (hbig : n * 64 ≤ 140737488355328) (hc : ∀ j u, news[j]? = some u → w.cell? (ad.add j) = some u) (h1 : ∀ u ∈ news, u.oneCell' = true) :
  Calls Tryz.prog 26 #[.slice (some ad) n c] w fun e w' => ∃ v', e = .returned v' ∧ w'.ownsRow w.heap.size 73 5 v' n news ∧ Below w.heap.size w w' := by
 have q22 : ∀ (w : World) (a : Option Addr) (n c n' c' : Nat), (binOp .eql 46 (.slice a n c) (.slice none n' c')).run Tryz.prog w = .ok (.bool a.isNone) w := fun w a n c n' c' => Lib.run_eql_slice_nil w _ _ a n c n' c' Tryz.underlying46
 have A : qA0 (∀ j u, news[j]? = some u → w.cell? (ad.add j) = some u) := ⟨hc⟩
 clear hc
 obtain ⟨i0, hi, hz0, hz1, hz2⟩ := info_parts qF7.info
 go_enter Tryz.func26, Tryz.ntmps26
 go_wp2_with (at_builtin; refine wpList_append_own _ rfl _ _ 46 rfl w.heap.size 73 i0 (.agg #[.string ⟨#[]⟩, .int .i64 0, .int .i64 0, .bool false, .slice none 0 0]) 5 64 Tryz.underlying46 hi hz0 hz1 hz2 rfl (by decide) _ _ _ rfl (World.ownsRow_made w #[] 0 (Nat.le_refl _) (Nat.zero_le _) (by simp)) ad n c news rfl ?qc1 ?qc2 ?qc3 ?qc4 ?qc5 ?qc6 ?_)
 case qc1 => exact hl
 case qc2 =>
  intro j u hj
  exact Lib.cell?_alloc_some _ (A.out j u hj)
 case qc3 => exact h1
 case qc4 => rw [Nat.zero_add]; exact hn
 case qc5 => rw [Nat.zero_add]; exact hbig
 case qc6 => simp
 intro v' w1 hown hgrow hnil
 go_wp2
 go_ret
 exact ⟨v', rfl, by simpa using hown, ((Below.refl _ w).alloc (Nat.le_refl _) _).grown hgrow (by simp) (by intro k hk; simp [Value.ownBlock] at hk; omega)⟩
theorem qF7.nil (n c : Nat) (w : World) : Calls Tryz.prog 26 #[.slice none n c] w fun e w' => e = .returned (.slice none 0 0) ∧ w' = w := by
 have q22 : ∀ (w : World) (a : Option Addr) (n c n' c' : Nat), (binOp .eql 46 (.slice a n c) (.slice none n' c')).run Tryz.prog w = .ok (.bool a.isNone) w := fun w a n c n' c' => Lib.run_eql_slice_nil w _ _ a n c n' c' Tryz.underlying46
 go_enter Tryz.func26, Tryz.ntmps26
 go_wp2
 go_ret
 exact ⟨rfl, rfl⟩
theorem cloneArts.info : (Tryz.prog.info? 55).map (fun i => (i.zero, i.size, i.bytes)) = some (some (.agg #[.string ⟨#[]⟩, .string ⟨#[]⟩, .slice none 0 0, .slice none 0 0, .slice none 0 0, .int .i64 0]), 6, 112) := by kernel_rfl
theorem cloneArts.walk (ad : Addr) (n c : Nat) (news : List Value) (w : World) (hl : news.length = n * 6) (hn : n ≤ maxLen) (hbig : n * 112 ≤ 140737488355328) (hc : ∀ j u, news[j]? = some u → w.cell? (ad.add j) = some u) (h1 : ∀ u ∈ news, u.oneCell' = true) :
  Calls Tryz.prog 27 #[.slice (some ad) n c] w fun e w' => ∃ v', e = .returned v' ∧ w'.ownsRow w.heap.size 55 6 v' n news ∧ Below w.heap.size w w' := by
 have q22 : ∀ (w : World) (a : Option Addr) (n c n' c' : Nat), (binOp .eql 47 (.slice a n c) (.slice none n' c')).run Tryz.prog w = .ok (.bool a.isNone) w := fun w a n c n' c' => Lib.run_eql_slice_nil w _ _ a n c n' c' Tryz.underlying47
 have A : qA0 (∀ j u, news[j]? = some u → w.cell? (ad.add j) = some u) := ⟨hc⟩
 clear hc
 obtain ⟨i0, hi, hz0, hz1, hz2⟩ := info_parts cloneArts.info
 go_enter Tryz.func27, Tryz.ntmps27
 go_wp2_with (at_builtin; refine wpList_append_own _ rfl _ _ 47 rfl w.heap.size 55 i0 (.agg #[.string ⟨#[]⟩, .string ⟨#[]⟩, .slice none 0 0, .slice none 0 0, .slice none 0 0, .int .i64 0]) 6 112 Tryz.underlying47 hi hz0 hz1 hz2 rfl (by decide) _ _ _ rfl (World.ownsRow_made w #[] 0 (Nat.le_refl _) (Nat.zero_le _) (by simp)) ad n c news rfl ?qc1 ?qc2 ?qc3 ?qc4 ?qc5 ?qc6 ?_)
 case qc1 => exact hl
 case qc2 =>
  intro j u hj
  exact Lib.cell?_alloc_some _ (A.out j u hj)
 case qc3 => exact h1
 case qc4 => rw [Nat.zero_add]; exact hn
 case qc5 => rw [Nat.zero_add]; exact hbig
 case qc6 => simp
 intro v' w1 hown hgrow hnil
 go_wp2
 go_ret
 exact ⟨v', rfl, by simpa using hown, ((Below.refl _ w).alloc (Nat.le_refl _) _).grown hgrow (by simp) (by intro k hk; simp [Value.ownBlock] at hk; omega)⟩
theorem cloneArts.nil (n c : Nat) (w : World) : Calls Tryz.prog 27 #[.slice none n c] w fun e w' => e = .returned (.slice none 0 0) ∧ w' = w := by
 have q22 : ∀ (w : World) (a : Option Addr) (n c n' c' : Nat), (binOp .eql 47 (.slice a n c) (.slice none n' c')).run Tryz.prog w = .ok (.bool a.isNone) w := fun w a n c n' c' => Lib.run_eql_slice_nil w _ _ a n c n' c' Tryz.underlying47
 go_enter Tryz.func27, Tryz.ntmps27
 go_wp2
 go_ret
 exact ⟨rfl, rfl⟩
theorem cloneStp.info : (Tryz.prog.info? 75).map (fun i => (i.zero, i.size, i.bytes)) = some (some (.agg #[.int .i64 0, .int .i64 0]), 2, 16) := by kernel_rfl
theorem cloneStp.walk (ad : Addr) (n c : Nat) (news : List Value) (w : World) (hl : news.length = n * 2) (hn : n ≤ maxLen) (hbig : n * 16 ≤ 140737488355328) (hc : ∀ j u, news[j]? = some u → w.cell? (ad.add j) = some u) (h1 : ∀ u ∈ news, u.oneCell' = true) :
  Calls Tryz.prog 28 #[.slice (some ad) n c] w fun e w' => ∃ v', e = .returned v' ∧ w'.ownsRow w.heap.size 75 2 v' n news ∧ Below w.heap.size w w' := by
 have q22 : ∀ (w : World) (a : Option Addr) (n c n' c' : Nat), (binOp .eql 71 (.slice a n c) (.slice none n' c')).run Tryz.prog w = .ok (.bool a.isNone) w := fun w a n c n' c' => Lib.run_eql_slice_nil w _ _ a n c n' c' Tryz.underlying71
 have A : qA0 (∀ j u, news[j]? = some u → w.cell? (ad.add j) = some u) := ⟨hc⟩
 clear hc
 obtain ⟨i0, hi, hz0, hz1, hz2⟩ := info_parts cloneStp.info
 go_enter Tryz.func28, Tryz.ntmps28
 go_wp2_with (at_builtin; refine wpList_append_own _ rfl _ _ 71 rfl w.heap.size 75 i0 (.agg #[.int .i64 0, .int .i64 0]) 2 16 Tryz.underlying71 hi hz0 hz1 hz2 rfl (by decide) _ _ _ rfl (World.ownsRow_made w #[] 0 (Nat.le_refl _) (Nat.zero_le _) (by simp)) ad n c news rfl ?qc1 ?qc2 ?qc3 ?qc4 ?qc5 ?qc6 ?_)
 case qc1 => exact hl
 case qc2 =>
  intro j u hj
  exact Lib.cell?_alloc_some _ (A.out j u hj)
 case qc3 => exact h1
 case qc4 => rw [Nat.zero_add]; exact hn
 case qc5 => rw [Nat.zero_add]; exact hbig
 case qc6 => simp
 intro v' w1 hown hgrow hnil
 go_wp2
 go_ret
 exact ⟨v', rfl, by simpa using hown, ((Below.refl _ w).alloc (Nat.le_refl _) _).grown hgrow (by simp) (by intro k hk; simp [Value.ownBlock] at hk; omega)⟩
theorem cloneStp.nil (n c : Nat) (w : World) : Calls Tryz.prog 28 #[.slice none n c] w fun e w' => e = .returned (.slice none 0 0) ∧ w' = w := by
 have q22 : ∀ (w : World) (a : Option Addr) (n c n' c' : Nat), (binOp .eql 71 (.slice a n c) (.slice none n' c')).run Tryz.prog w = .ok (.bool a.isNone) w := fun w a n c n' c' => Lib.run_eql_slice_nil w _ _ a n c n' c' Tryz.underlying71
 go_enter Tryz.func28, Tryz.ntmps28
 go_wp2
 go_ret
 exact ⟨rfl, rfl⟩
theorem qFS.info : (Tryz.prog.info? 79).map (fun i => (i.zero, i.size, i.bytes)) = some (some (.agg #[.int .i64 0, .slice none 0 0, .int .i64 0, .int .i64 0, .string ⟨#[]⟩]), 5, 64) := by kernel_rfl
theorem qFS.walk (ad : Addr) (n c : Nat) (news : List Value) (w : World) (hl : news.length = n * 5) (hn : n ≤ maxLen) (hbig : n * 64 ≤ 140737488355328) (hc : ∀ j u, news[j]? = some u → w.cell? (ad.add j) = some u) (h1 : ∀ u ∈ news, u.oneCell' = true) :
  Calls Tryz.prog 29 #[.slice (some ad) n c] w fun e w' => ∃ v', e = .returned v' ∧ w'.ownsRow w.heap.size 79 5 v' n news ∧ Below w.heap.size w w' := by
 have q22 : ∀ (w : World) (a : Option Addr) (n c n' c' : Nat), (binOp .eql 53 (.slice a n c) (.slice none n' c')).run Tryz.prog w = .ok (.bool a.isNone) w := fun w a n c n' c' => Lib.run_eql_slice_nil w _ _ a n c n' c' Tryz.underlying53
 have A : qA0 (∀ j u, news[j]? = some u → w.cell? (ad.add j) = some u) := ⟨hc⟩
 clear hc
 obtain ⟨i0, hi, hz0, hz1, hz2⟩ := info_parts qFS.info
 go_enter Tryz.func29, Tryz.ntmps29
 go_wp2_with (at_builtin; refine wpList_append_own _ rfl _ _ 53 rfl w.heap.size 79 i0 (.agg #[.int .i64 0, .slice none 0 0, .int .i64 0, .int .i64 0, .string ⟨#[]⟩]) 5 64 Tryz.underlying53 hi hz0 hz1 hz2 rfl (by decide) _ _ _ rfl (World.ownsRow_made w #[] 0 (Nat.le_refl _) (Nat.zero_le _) (by simp)) ad n c news rfl ?qc1 ?qc2 ?qc3 ?qc4 ?qc5 ?qc6 ?_)
 case qc1 => exact hl
 case qc2 =>
  intro j u hj
  exact Lib.cell?_alloc_some _ (A.out j u hj)
 case qc3 => exact h1
 case qc4 => rw [Nat.zero_add]; exact hn
 case qc5 => rw [Nat.zero_add]; exact hbig
 case qc6 => simp
 intro v' w1 hown hgrow hnil
 go_wp2
 go_ret
 exact ⟨v', rfl, by simpa using hown, ((Below.refl _ w).alloc (Nat.le_refl _) _).grown hgrow (by simp) (by intro k hk; simp [Value.ownBlock] at hk; omega)⟩
theorem qFS.nil (n c : Nat) (w : World) : Calls Tryz.prog 29 #[.slice none n c] w fun e w' => e = .returned (.slice none 0 0) ∧ w' = w := by
 have q22 : ∀ (w : World) (a : Option Addr) (n c n' c' : Nat), (binOp .eql 53 (.slice a n c) (.slice none n' c')).run Tryz.prog w = .ok (.bool a.isNone) w := fun w a n c n' c' => Lib.run_eql_slice_nil w _ _ a n c n' c' Tryz.underlying53
 go_enter Tryz.func29, Tryz.ntmps29
 go_wp2
 go_ret
 exact ⟨rfl, rfl⟩
end
end Go.Proofs.YtfnejdbjekkadaaGreat.PRatePuts
end
section
namespace Go.Proofs.YtfnejdbjekkadaaGreat.Sep
open Go Go.RowKit Go.Proofs.YtfnejdbjekkadaaGreatW.PrintWords
section
variable {α β : Type} {d d0 : Kd α} {e : Nat} {w w0 w1 W W2 : World} {base : Nat} {ok ok' : Nat → Prop} {v : Value} {xs ys : List α}
def RI (d : Kd α) (e : Nat) (w : World) (base : Nat) (ok : Nat → Prop) (v : Value) (xs : List α) : Prop :=
 (∀ k, v.ownBlock = some k → ok k) ∧ ∃ (inner : List Value) (s : Nat → Nat), w.ownsRow base e d.sz v xs.length inner ∧ inner.length = xs.length * d.sz ∧ (∀ i j, i ≤ j → s i ≤ s j) ∧
  ∀ j p, xs[j]? = some p → d.M w base (fun k => (ok k ∧ some k ≠ v.ownBlock) ∧ s j ≤ k ∧ k < s (j + 1)) p ((inner.drop (j * d.sz)).take d.sz)
theorem RI.row (h : RI d e w base ok v xs) : d.R e w base ok v xs := by
 obtain ⟨h0, inner, s, ho, hl, hs, hm⟩ := h
 exact ⟨h0, inner, ho, hl, fun j p hp => d.M_mono (fun _ hk => hk.1) (hm j p hp)⟩
theorem RI.mono (h : RI d e w base ok v xs) (hok : ∀ k, ok k → ok' k) : RI d e w base ok' v xs := by
 obtain ⟨h0, inner, s, ho, hl, hs, hm⟩ := h
 exact ⟨fun k hk => hok k (h0 k hk), inner, s, ho, hl, hs, fun j p hp => d.M_mono (fun k hk => ⟨⟨hok k hk.1.1, hk.1.2⟩, hk.2⟩) (hm j p hp)⟩
theorem RI.bound (h : RI d e w base ok v xs) : RI d e w base (fun k => ok k ∧ base ≤ k ∧ k < w.heap.size ∧ ∃ q, q ∈ e :: d.E ∧ ∃ cells, w.heap[k]? = some (.cells cells q (0, 0))) v xs := by
 obtain ⟨h0, inner, s, ho, hl, hs, hm⟩ := h
 refine ⟨fun k hk => ?_, inner, s, ho, hl, hs, fun j p hp => d.M_mono (fun k hk => ?_) (d.M_bound (hm j p hp))⟩
 ·obtain ⟨cells, hc⟩ := qF6 ho k hk
  exact ⟨h0 k hk, qBR ho k hk, qD6 ho k hk, e, List.mem_cons_self, cells, hc⟩
 ·obtain ⟨⟨⟨h1, h2⟩, h5⟩, h3, h4, q, hq, hc⟩ := hk
  exact ⟨⟨⟨h1, h3, h4, q, zz _ hq, hc⟩, h2⟩, h5⟩
theorem RI.move (h : RI d e w base ok v xs) (hm : ∀ k, ok k → w1.heap[k]? = w.heap[k]?) : RI d e w1 base ok v xs := by
 obtain ⟨h0, inner, s, ho, hl, hs, hq⟩ := h
 exact ⟨h0, inner, s, qCY ho (fun k hk => hm k (h0 k hk)), hl, hs, fun j p hp => d.M_move (fun k hk => hm k hk.1.1) (hq j p hp)⟩
theorem RI.lower {base' : Nat} (h : RI d e w base ok v xs) (hb : base' ≤ base) : RI d e w base' ok v xs := by
 obtain ⟨h0, inner, s, ho, hl, hs, hq⟩ := h
 exact ⟨h0, inner, s, qFP ho hb, hl, hs, fun j p hp => d.M_lower hb (hq j p hp)⟩
theorem RI.upd (h : RI d e w base ok v xs) {i : Nat} {p : α} (hi : xs[i]? = some p) : ∃ (oki : Nat → Prop) (c : List Value), (∀ k, oki k → ok k ∧ some k ≠ v.ownBlock) ∧ d.M w base oki p c ∧ c.length = d.sz ∧
  (∀ g n cap, v = .slice (some ⟨g, 0, none⟩) n cap → ∀ j u, c[j]? = some u → w.cell? ⟨g, i * d.sz + j, none⟩ = some u) ∧
  ∀ (w1 : World) (b : Nat) (x' : α), (∀ k, k ≠ b → w1.heap[k]? = w.heap[k]?) → oki b → d.M w1 base oki x' c → RI d e w1 base ok v (xs.set i x') := by
 obtain ⟨h0, inner, s, ho, hl, hs, hm⟩ := h
 have hil : i < xs.length := (List.getElem?_eq_some_iff.1 hi).1
 have hseg : i * d.sz + d.sz ≤ inner.length := by rw [hl, ← Nat.succ_mul]; exact Nat.mul_le_mul_right _ hil
 refine ⟨_, _, fun k hk => hk.1, hm i p hi, by rw [List.length_take, List.length_drop]; omega, ?_, ?_⟩
 ·rintro g n cap rfl j u hu
  have hj := (List.getElem?_eq_some_iff.1 hu).1
  rw [List.length_take] at hj
  rw [List.getElem?_take, if_pos (by omega), List.getElem?_drop] at hu
  have := ho.cells (g := g) (by simp [Value.ownBlock]) _ u hu
  rwa [add_plain] at this
 ·intro w1 b x' hw hb hx
  refine ⟨h0, inner, s, ?_, by rw [List.length_set]; exact hl, hs, fun j q hq => ?_⟩
  ·rw [List.length_set]
   exact qCY ho (fun k hk => hw k (by rintro rfl; exact hb.1.2 hk.symm))
  ·by_cases hj : j = i
   ·subst hj
    rw [List.getElem?_set_self hil] at hq
    obtain rfl := zy hq
    exact hx
   ·rw [List.getElem?_set_ne (fun e => hj e.symm)] at hq
    refine d.M_move (fun k hk => hw k ?_) (hm j q hq)
    rintro rfl
    rcases Nat.lt_or_gt_of_ne hj with hlt | hgt
    ·have := hs (j + 1) i hlt
     have h1 := hk.2.2
     have h2 := hb.2.1
     omega
    ·have := hs (i + 1) j hgt
     have h1 := hk.2.1
     have h2 := hb.2.2
     omega
def sliceI (e : Nat) (d : Kd α) : Kd (List α) where
 sz := 1
 E := e :: d.E
 K := (Kd.slice e d).K
 M := fun w base ok xs cs => ∃ v, cs = [v] ∧ RI d e w base ok v xs
 K_len := (Kd.slice e d).K_len
 K_one := (Kd.slice e d).K_one
 K_below := (Kd.slice e d).K_below
 K_of_M := by
  rintro w base ok x cs ⟨v, rfl, h⟩
  exact (Kd.slice e d).K_of_M (base := base) (ok := ok) ⟨v, rfl, h.row⟩
 M_mono := by
  rintro w base ok ok' x cs hok ⟨v, rfl, h⟩
  exact ⟨v, rfl, h.mono hok⟩
 M_bound := by
  rintro w base ok x cs ⟨v, rfl, h⟩
  exact ⟨v, rfl, h.bound⟩
 M_move := by
  rintro w w1 base ok x cs hm ⟨v, rfl, h⟩
  exact ⟨v, rfl, h.move hm⟩
 M_lower := by
  rintro w base base' ok x cs hb ⟨v, rfl, h⟩
  exact ⟨v, rfl, h.lower hb⟩
def pairI (a : Kd α) (b : Kd β) : Kd (α × β) where
 sz := a.sz + b.sz
 E := a.E ++ b.E
 K := (Kd.pair a b).K
 M := fun w base ok x cs => ∃ c0 c1 s, cs = c0 ++ c1 ∧ a.M w base (fun k => ok k ∧ k < s) x.1 c0 ∧ b.M w base (fun k => ok k ∧ s ≤ k) x.2 c1
 K_len := (Kd.pair a b).K_len
 K_one := (Kd.pair a b).K_one
 K_below := (Kd.pair a b).K_below
 K_of_M := by
  rintro w base ok x cs ⟨c0, c1, s, rfl, h0, h1⟩
  exact ⟨c0, c1, rfl, a.K_of_M h0, b.K_of_M h1⟩
 M_mono := by
  rintro w base ok ok' x cs hok ⟨c0, c1, s, rfl, h0, h1⟩
  exact ⟨c0, c1, s, rfl, a.M_mono (fun k hk => ⟨hok k hk.1, hk.2⟩) h0, b.M_mono (fun k hk => ⟨hok k hk.1, hk.2⟩) h1⟩
 M_bound := by
  rintro w base ok x cs ⟨c0, c1, s, rfl, h0, h1⟩
  refine ⟨c0, c1, s, rfl, a.M_mono ?_ (a.M_bound h0), b.M_mono ?_ (b.M_bound h1)⟩
  ·rintro k ⟨⟨h2, h5⟩, h3, h4, q, hq, hc⟩
   exact ⟨⟨h2, h3, h4, q, List.mem_append_left _ hq, hc⟩, h5⟩
  ·rintro k ⟨⟨h2, h5⟩, h3, h4, q, hq, hc⟩
   exact ⟨⟨h2, h3, h4, q, List.mem_append_right _ hq, hc⟩, h5⟩
 M_move := by
  rintro w w1 base ok x cs hm ⟨c0, c1, s, rfl, h0, h1⟩
  exact ⟨c0, c1, s, rfl, a.M_move (fun k hk => hm k hk.1) h0, b.M_move (fun k hk => hm k hk.1) h1⟩
 M_lower := by
  rintro w base base' ok x cs hb ⟨c0, c1, s, rfl, h0, h1⟩
  exact ⟨c0, c1, s, rfl, a.M_lower hb h0, b.M_lower hb h1⟩
def seg (inner : List Value) (sz i : Nat) : List Value := (inner.drop (i * sz)).take sz
theorem seg_at {inner : List Value} {sz i q : Nat} (hq : q < sz) : (seg inner sz i)[q]? = inner[i * sz + q]? := by
 unfold seg
 rw [List.getElem?_take, if_pos hq, List.getElem?_drop]
theorem qCD {inner : List Value} {sz i q : Nat} (hq : q < sz) (u : Value) (j : Nat) : seg (inner.set (i * sz + q) u) sz j = if j = i then (seg inner sz i).set q u else seg inner sz j := by
 apply List.ext_getElem?
 intro r
 by_cases hr : r < sz
 ·rw [seg_at hr]
  by_cases hj : j = i
  ·subst hj
   rw [if_pos rfl, List.getElem?_set, List.getElem?_set]
   by_cases e : q = r
   ·subst e
    rw [if_pos rfl, if_pos rfl]
    have hl : (seg inner sz j).length = min sz (inner.length - j * sz) := by unfold seg; rw [List.length_take, List.length_drop]
    by_cases h1 : j * sz + q < inner.length
    ·rw [if_pos h1, if_pos (by rw [hl]; omega)]
    ·rw [if_neg h1, if_neg (by rw [hl]; omega)]
   ·rw [if_neg (by omega), if_neg e, seg_at hr]
  ·rw [if_neg hj, seg_at hr, List.getElem?_set_ne]
   rcases Nat.lt_or_gt_of_ne hj with h | h
   ·have := Nat.mul_le_mul_right sz (Nat.succ_le_of_lt h)
    rw [Nat.succ_mul] at this
    omega
   ·have := Nat.mul_le_mul_right sz (Nat.succ_le_of_lt h)
    rw [Nat.succ_mul] at this
    omega
 ·have h1 : (seg (inner.set (i * sz + q) u) sz j).length ≤ sz := by unfold seg; rw [List.length_take]; omega
  have h2 : ∀ k, (seg inner sz k).length ≤ sz := fun k => by unfold seg; rw [List.length_take]; omega
  rw [List.getElem?_eq_none (by omega)]
  split
  ·rw [List.getElem?_eq_none (by rw [List.length_set]; have := h2 i; omega)]
  ·rw [List.getElem?_eq_none (by have := h2 j; omega)]
structure qE3 (d0 d : Kd α) (e : Nat) (w0 : World) (base : Nat) (v : Value) (xs ys : List α) (i : Nat) (s : Nat → Nat) (W : World) (inner : List Value) : Prop where
 own : W.ownsRow base e d.sz v xs.length inner
 mono : ∀ a b, a ≤ b → s a ≤ s b
 low : ∀ k, v.ownBlock = some k → k < s 0
 top : s i ≤ W.heap.size
 new : ∀ j p, j < i → ys[j]? = some p → d.M W base (fun k => s j ≤ k ∧ k < s (j + 1)) p (seg inner d.sz j)
 old : ∀ j p, i ≤ j → xs[j]? = some p → d0.K w0 p (seg inner d.sz j)
theorem qE3.start {inner : List Value} (ho : W.ownsRow base e d.sz v xs.length inner) (hr : Reps (d0.K w0) d.sz xs inner) : qE3 d0 d e w0 base v xs ys 0 (fun _ => W.heap.size) W inner :=
 ⟨ho, fun _ _ _ => Nat.le_refl _, fun k hk => qD6 ho k hk, Nat.le_refl _, fun j p hj => absurd hj (Nat.not_lt_zero _), fun j p _ hp => hr.2 j p hp⟩
theorem qE3.next {i : Nat} {s : Nat → Nat} {inner inner2 : List Value} {y : α} (h : qE3 d0 d e w0 base v xs ys i s W inner) (hy : ys[i]? = some y) (ho : W2.ownsRow base e d.sz v xs.length inner2)
  (hin : ∀ j, j ≠ i → seg inner2 d.sz j = seg inner d.sz j) (hM : d.M W2 base (fun k => W.heap.size ≤ k) y (seg inner2 d.sz i)) (hk : ∀ k, k < W.heap.size → some k ≠ v.ownBlock → W2.heap[k]? = W.heap[k]?) (hsz : W.heap.size ≤ W2.heap.size) :
  qE3 d0 d e w0 base v xs ys (i + 1) (fun j => if j ≤ i then s j else W2.heap.size) W2 inner2 := by
 have hs0 : ∀ j, j ≤ i → s j ≤ W2.heap.size := fun j hj => Nat.le_trans (h.mono j i hj) (Nat.le_trans h.top hsz)
 refine ⟨ho, fun a b hab => ?_, fun k hk => ?_, ?_, fun j p hj hp => ?_, fun j p hj hp => ?_⟩
 ·show (if a ≤ i then s a else _) ≤ (if b ≤ i then s b else _)
  by_cases hb : b ≤ i
  ·rw [if_pos (Nat.le_trans hab hb), if_pos hb]; exact h.mono a b hab
  ·rw [if_neg hb]
   split
   ·exact hs0 a (by assumption)
   ·exact Nat.le_refl _
 ·show k < (if 0 ≤ i then s 0 else _)
  rw [if_pos (Nat.zero_le _)]; exact h.low k hk
 ·show (if i + 1 ≤ i then _ else _) ≤ _
  rw [if_neg (by omega)]; exact Nat.le_refl _
 ·show d.M W2 base (fun k => (if j ≤ i then s j else _) ≤ k ∧ k < (if j + 1 ≤ i then s (j + 1) else _)) p _
  rw [if_pos (by omega)]
  by_cases hji : j = i
  ·subst hji
   rw [if_neg (by omega)]
   obtain rfl := zy (hy.symm.trans hp)
   exact d.M_mono (fun k hk => ⟨Nat.le_trans h.top hk.1, hk.2.2.1⟩) (d.M_bound hM)
  ·rw [if_pos (by omega), hin j hji]
   refine d.M_move (fun k hkk => hk k ?_ ?_) (h.new j p (by omega) hp)
   ·have := h.mono (j + 1) i (by omega)
    have := h.top
    omega
   ·intro e
    have := h.low k e.symm
    have := h.mono 0 j (Nat.zero_le _)
    omega
 ·rw [hin j (by omega)]
  exact h.old j p (by omega) hp
theorem qE3.done {i : Nat} {s : Nat → Nat} {inner : List Value} (h : qE3 d0 d e w0 base v xs ys i s W inner) (hi : ys.length ≤ i) (hl : ys.length = xs.length) : RI d e W base (fun k => base ≤ k) v ys :=
 ⟨fun k hk => qBR h.own k hk, inner, s, by rw [hl]; exact h.own, by rw [hl]; exact h.own.1, h.mono, fun j p hp => d.M_mono (fun k hk => ⟨⟨hk.2.1, fun e => by have := h.low k e.symm; have := h.mono 0 j (Nat.zero_le _); have := hk.1.1; omega⟩, hk.1⟩) (d.M_bound (h.new j p (Nat.lt_of_lt_of_le (List.getElem?_eq_some_iff.1 hp).1 hi) hp))⟩
theorem seg_cell {g n cap i q sz : Nat} {inner cs : List Value} {u : Value} (ho : W.ownsRow base e sz (.slice (some ⟨g, 0, none⟩) n cap) n inner) (hc : seg inner sz i = cs) (hq : cs[q]? = some u) : W.cell? ⟨g, i * sz + q, none⟩ = some u := by
 subst hc
 have hl : q < sz := by
  have := (List.getElem?_eq_some_iff.1 hq).1
  unfold seg at this
  rw [List.length_take] at this
  omega
 rw [seg_at hl] at hq
 have := ho.cells (g := g) (by simp [Value.ownBlock]) _ u hq
 rwa [add_plain] at this
def qEZ (d : Kd α) (e : Nat) (w0 w : World) (l : List α) (r : Ending) (w' : World) : Prop :=
 ∃ A c inner, r = .returned (.slice A l.length c) ∧ w'.ownsRow w.heap.size e d.sz (.slice A l.length c) l.length inner ∧ Reps (d.K w0) d.sz l inner ∧ Below w.heap.size w w'
theorem qEZ.of {P : Program} {f : FuncId} (sz bytes : Nat) (hsz : d.sz = sz)
  (hw : ∀ (ad : Addr) (n c : Nat) (news : List Value) (w : World), news.length = n * sz → n ≤ maxLen → n * bytes ≤ 140737488355328 → (∀ j u, news[j]? = some u → w.cell? (ad.add j) = some u) → (∀ u ∈ news, u.oneCell' = true) → Calls P f #[.slice (some ad) n c] w fun e' w' => ∃ v', e' = .returned v' ∧ w'.ownsRow w.heap.size e sz v' n news ∧ Below w.heap.size w w')
  (hn : ∀ (n c : Nat) (w : World), Calls P f #[.slice none n c] w fun e w' => e = .returned (.slice none 0 0) ∧ w' = w)
  (hb : bytes ≤ 134217728) {A : Option Addr} {c : Nat} {l : List α} {w0 w : World} (hC : d.C w0 A l.length l) (hl : l.length ≤ 1048576) (hB : Below w0.heap.size w0 w) : Calls P f #[.slice A l.length c] w (qEZ d e w0 w l) := by
 subst hsz
 cases A with
 | none =>
  have e0 : l = [] := by
   rcases Nat.eq_zero_or_pos l.length with h | h
   ·exact List.length_eq_zero_iff.1 h
   ·obtain ⟨_, h', _⟩ := hC.2.2 h; cases h'
  subst e0
  refine (hn _ _ w).mono ?_
  rintro e w' ⟨rfl, rfl⟩
  exact ⟨none, 0, [], rfl, own_nil _ _ _ _, Reps.none _ _, Below.refl _ _⟩
 | some ad =>
  obtain ⟨inner, hr, hc⟩ := qDE.inner_ hC
  refine (hw ad l.length c inner w hr.1 (by simp only [maxLen]; omega) (Nat.le_trans (Nat.mul_le_mul hl hb) (by decide)) (fun j u hu => qA2 hB (hc j u hu)) (fun u hu => ?_)).mono ?_
  ·obtain ⟨j, hj, rfl⟩ := List.getElem_of_mem hu
   rcases Nat.eq_zero_or_pos d.sz with h0 | h0
   ·rw [hr.1, h0] at hj; omega
   have hjl : j / d.sz < l.length := by rw [Nat.div_lt_iff_lt_mul h0, ← hr.1]; exact hj
   have hK := hr.2 _ _ (List.getElem?_eq_getElem hjl)
   refine d.K_one hK _ (List.mem_of_getElem? (i := j % d.sz) ?_)
   have := seg_at (inner := inner) (i := j / d.sz) (Nat.mod_lt j h0)
   unfold seg at this
   rw [this, Nat.mul_comm, Nat.div_add_mod, List.getElem?_eq_getElem hj]
  ·rintro e w' ⟨v', rfl, ho, hB⟩
   obtain ⟨A, c, rfl⟩ := own_slice ho
   exact ⟨A, c, inner, rfl, ho, hr, hB⟩
end
end Go.Proofs.YtfnejdbjekkadaaGreat.Sep
end
section
namespace Go.Proofs.YtfnejdbjekkadaaGreat.Gate
open Go
variable {P : Program} {ops : Array Oper} {Q : Exit → Act → World → Prop} {md : Region.Mode} {S : World → Prop} {g : Nat}
def waits (md : Region.Mode) (ops : Array Oper) (j i : Nat) : Bool :=
 match ops[j]? with
 | some oj => oj.after.any fun e => Region.binds md e && e.on == i
 | none => false
def any (P : Program) (md : Region.Mode) (ops : Array Oper) (Q : Exit → Act → World → Prop) (S : World → Prop) (g : Nat) : Nat → Array Bool → Act → World → Prop
 | 0, l, a, w => Region.ready md ops l = [] ∧ Q .normal a w
 | n + 1, l, a, w => (Region.ready md ops l = [] → Q .normal a w) ∧ ∀ i ∈ Region.ready md ops l, wpOp P ops Q i (fun a' w' => ((l.setIfInBounds i true).getD g true = false → S w') ∧ any P md ops Q S g n (l.setIfInBounds i true) a' w') a w
theorem of_any : ∀ (n : Nat) (l : Array Bool) (a : Act) (w : World), any P md ops Q S g n l a w → wpAny P md ops Q n l a w
 | 0, _, _, _, h => h
 | n + 1, _, _, _, h => ⟨h.1, fun i hi => wpOp_mono (fun a' w' h' => of_any n _ a' w' h'.2) (h.2 i hi)⟩
theorem first {i : Nat} {oi : Oper} {v : Value} (hi : ops[i]? = some oi) (hsel : ∀ (j : Nat) (o : Oper) cs b, ops[j]? = some o → o.op ≠ .select cs b) (hQ : ∀ c a w, Q (.panic c) (a.put oi.dst v) w → Q (.panic c) a w) (hw : waits md ops g i = true) :
  ∀ (n : Nat) (l : Array Bool) (a : Act) (w : World), (∀ j oj, ops[j]? = some oj → j ≠ i → l.getD j true = false → (∀ e ∈ oj.after, Region.binds md e = true → e.on ≠ i) → oi.apart ops oj = true) →
   i ∈ Region.ready md ops l → YieldsIf P ops S oi v a → l.getD g true = false → S w → any P md ops Q S g n (l.setIfInBounds i true) (a.put oi.dst v) w → any P md ops Q S g (n + 1) l a w := by
 intro n
 induction n with
 | zero =>
  intro l a w _ hr hy _ hS H
  refine ⟨fun h => (by rw [h] at hr; cases hr), fun j hj => ?_⟩
  by_cases hji : j = i
  ·subst hji; exact hy.wpOp hi hS ⟨fun _ => hS, H⟩
  ·have := ready_mono hj hji
   rw [H.1] at this
   cases this
 | succ n ih =>
  intro l a w hfree hr hy hg hS H
  refine ⟨fun h => (by rw [h] at hr; cases hr), fun j hj => ?_⟩
  by_cases hji : j = i
  ·subst hji; exact hy.wpOp hi hS ⟨fun _ => hS, H⟩
  ·have h1 := H.2 j (ready_mono hj hji)
   obtain ⟨hjun, oj, hoj, hall⟩ := mem_ready.1 hj
   have hun : l.getD i false = false := by
    have h0 := (mem_ready.1 hr).1
    rcases Nat.lt_or_ge i l.size with h' | h'
    ·simp [h'] at h0 ⊢; exact h0
    ·simp [Array.getElem?_eq_none h']
   have hnot : ∀ e ∈ oj.after, Region.binds md e = true → e.on ≠ i := fun e he hb heq => by
    have h1 := hall e he hb
    rw [heq, hun] at h1
    cases h1
   have hjg : j ≠ g := by
    rintro rfl
    unfold waits at hw
    rw [hoj] at hw
    obtain ⟨e, he, hb⟩ := Array.any_eq_true'.1 hw
    simp only [Bool.and_eq_true, beq_iff_eq] at hb
    exact hnot e he hb.1 hb.2
   have hig : i ≠ g := by
    rintro rfl
    unfold waits at hw
    rw [hi] at hw
    obtain ⟨e, he, hb⟩ := Array.any_eq_true'.1 hw
    simp only [Bool.and_eq_true, beq_iff_eq] at hb
    have h2 := (mem_ready.1 hr).2
    obtain ⟨o', ho', h3⟩ := h2
    obtain rfl := zy (hi.symm.trans ho')
    have h4 := h3 e he hb.1
    rw [hb.2, hun] at h4
    cases h4
   have hfree' : ∀ k ok, ops[k]? = some ok → k ≠ i → (l.setIfInBounds j true).getD k true = false → (∀ e ∈ ok.after, Region.binds md e = true → e.on ≠ i) → oi.apart ops ok = true := fun k ok hk hki hun hno => by
    refine hfree k ok hk hki ?_ hno
    by_cases hjk : j = k
    ·subst hjk; exact hjun
    ·rw [getD_set_ne true hjk] at hun; exact hun
   refine wpOp_mono (fun a' w' h3 => ?_) (wpOp_putIf hoj (hfree j oj hoj hji hjun hnot) (fun cs b => hsel i oi cs b hi) (fun cs b => hsel j oj cs b hoj) hQ hy h1)
   have hS' := h3.2.1 (by rw [getD_set_ne true hjg, getD_set_ne true hig]; exact hg)
   refine ⟨fun _ => hS', ih (l.setIfInBounds j true) a' w' hfree' (ready_mono hr (Ne.symm hji)) h3.1 (by rw [getD_set_ne true hjg]; exact hg) hS' ?_⟩
   rw [Array.setIfInBounds_comm _ _ hji]
   exact h3.2.2
theorem first0 {i : Nat} {oi : Oper} {v : Value} (hi : ops[i]? = some oi) (hsel : ∀ (j : Nat) (o : Oper) cs b, ops[j]? = some o → o.op ≠ .select cs b) (hQ : ∀ c a w, Q (.panic c) (a.put oi.dst v) w → Q (.panic c) a w) (hig : i ≠ g) :
  ∀ (n : Nat) (l : Array Bool) (a : Act) (w : World), (∀ j oj, ops[j]? = some oj → j ≠ i → l.getD j true = false → (∀ e ∈ oj.after, Region.binds md e = true → e.on ≠ i) → oi.apart ops oj = true) →
   i ∈ Region.ready md ops l → YieldsIf P ops (fun _ => True) oi v a → (l.getD g true = false → S w) → any P md ops Q S g n (l.setIfInBounds i true) (a.put oi.dst v) w → any P md ops Q S g (n + 1) l a w := by
 intro n
 induction n with
 | zero =>
  intro l a w _ hr hy hS H
  refine ⟨fun h => (by rw [h] at hr; cases hr), fun j hj => ?_⟩
  by_cases hji : j = i
  ·subst hji; exact hy.wpOp hi trivial ⟨fun h => hS (by rw [getD_set_ne true hig] at h; exact h), H⟩
  ·have := ready_mono hj hji
   rw [H.1] at this
   cases this
 | succ n ih =>
  intro l a w hfree hr hy hS H
  refine ⟨fun h => (by rw [h] at hr; cases hr), fun j hj => ?_⟩
  by_cases hji : j = i
  ·subst hji; exact hy.wpOp hi trivial ⟨fun h => hS (by rw [getD_set_ne true hig] at h; exact h), H⟩
  ·have h1 := H.2 j (ready_mono hj hji)
   obtain ⟨hjun, oj, hoj, hall⟩ := mem_ready.1 hj
   have hun : l.getD i false = false := by
    have h0 := (mem_ready.1 hr).1
    rcases Nat.lt_or_ge i l.size with h' | h'
    ·simp [h'] at h0 ⊢; exact h0
    ·simp [Array.getElem?_eq_none h']
   have hnot : ∀ e ∈ oj.after, Region.binds md e = true → e.on ≠ i := fun e he hb heq => by
    have h1 := hall e he hb
    rw [heq, hun] at h1
    cases h1
   have hfree' : ∀ k ok, ops[k]? = some ok → k ≠ i → (l.setIfInBounds j true).getD k true = false → (∀ e ∈ ok.after, Region.binds md e = true → e.on ≠ i) → oi.apart ops ok = true := fun k ok hk hki hun hno => by
    refine hfree k ok hk hki ?_ hno
    by_cases hjk : j = k
    ·subst hjk; exact hjun
    ·rw [getD_set_ne true hjk] at hun; exact hun
   refine wpOp_mono (fun a' w' h3 => ?_) (wpOp_putIf hoj (hfree j oj hoj hji hjun hnot) (fun cs b => hsel i oi cs b hi) (fun cs b => hsel j oj cs b hoj) hQ hy h1)
   have hS' : (l.setIfInBounds j true).getD g true = false → S w' := fun h => h3.2.1 (by rw [Array.setIfInBounds_comm _ _ (Ne.symm hji), getD_set_ne true hig]; exact h)
   refine ⟨hS', ih (l.setIfInBounds j true) a' w' hfree' (ready_mono hr (Ne.symm hji)) h3.1 hS' ?_⟩
   rw [Array.setIfInBounds_comm _ _ hji]
   exact h3.2.2
theorem take0 (i d : Nat) {oi : Oper} (v : Value) {n : Nat} {l : Array Bool} {a : Act} {w : World} (hi : ops[i]? = some oi) (hd : oi.dst = some d) (hs : Region.noSelect ops = true) (hf : Region.free md ops l i = true) (hr : (Region.ready md ops l).contains i = true) (hg : i ≠ g)
  (hQ : ∀ c a w, Q (.panic c) (a.put oi.dst v) w → Q (.panic c) a w) (hu : oi.guard = none) (hy : ∀ w, (execOp a.eval oi).run P w = .ok (.value v) w) (hS : l.getD g true = false → S w) (h : any P md ops Q S g n (l.setIfInBounds i true) (a.put (some d) v) w) : any P md ops Q S g (n + 1) l a w :=
 first0 hi (Region.noSelect_spec hs) hQ hg n l a w (Region.free_spec hi hf) (by simpa using hr) (.inl ⟨by simp [Region.wanted, hu], fun w _ => hy w⟩) hS (by rw [hd]; exact h)
theorem take (i d : Nat) {oi : Oper} (v : Value) {n : Nat} {l : Array Bool} {a : Act} {w : World} (hi : ops[i]? = some oi) (hd : oi.dst = some d) (hs : Region.noSelect ops = true) (hf : Region.free md ops l i = true) (hr : (Region.ready md ops l).contains i = true) (hw : waits md ops g i = true) (hg : l.getD g true = false)
  (hQ : ∀ c a w, Q (.panic c) (a.put oi.dst v) w → Q (.panic c) a w) (hu : oi.guard = none) (hy : ∀ w, S w → (execOp a.eval oi).run P w = .ok (.value v) w) (hS : S w) (h : any P md ops Q S g n (l.setIfInBounds i true) (a.put (some d) v) w) : any P md ops Q S g (n + 1) l a w :=
 first hi (Region.noSelect_spec hs) hQ hw n l a w (Region.free_spec hi hf) (by simpa using hr) (.inl ⟨by simp [Region.wanted, hu], hy⟩) hg hS (by rw [hd]; exact h)
theorem only (i : Nat) {oi : Oper} {n : Nat} {l : Array Bool} {a : Act} {w : World} (hi : ops[i]? = some oi) (hu : oi.guard = none) (hr : Region.ready md ops l = [i]) (h : oi.wp P a w (fun a' w' => ((l.setIfInBounds i true).getD g true = false → S w') ∧ any P md ops Q S g n (l.setIfInBounds i true) a' w') Q) : any P md ops Q S g (n + 1) l a w := by
 refine ⟨fun h0 => (by rw [h0] at hr; cases hr), fun j hj => ?_⟩
 rw [hr] at hj
 obtain rfl := List.mem_singleton.1 hj
 unfold wpOp
 simp only [hi, Region.wanted, hu, if_true]
 exact .inl h
theorem value (i d : Nat) {oi : Oper} (v : Value) {n : Nat} {l : Array Bool} {a : Act} {w : World} (hi : ops[i]? = some oi) (hd : oi.dst = some d) (hu : oi.guard = none) (hr : Region.ready md ops l = [i]) (hg : (l.setIfInBounds i true).getD g true = true) (hy : (execOp a.eval oi).run P w = .ok (.value v) w) (h : any P md ops Q S g n (l.setIfInBounds i true) (a.put (some d) v) w) : any P md ops Q S g (n + 1) l a w := by
 refine only i hi hu hr ?_
 unfold Oper.wp
 rw [hy, Oper.upon_value, hd]
 exact ⟨fun e => (by rw [hg] at e; cases e), h⟩
theorem skip (i : Nat) {oi : Oper} {n : Nat} {l : Array Bool} {a : Act} {w w' : World} (hi : ops[i]? = some oi) (hu : oi.guard = none) (hd : oi.dst = none) (hr : Region.ready md ops l = [i]) (hg : (l.setIfInBounds i true).getD g true = true) (hy : (execOp a.eval oi).run P w = .ok .skip w') (h : any P md ops Q S g n (l.setIfInBounds i true) a w') : any P md ops Q S g (n + 1) l a w := by
 refine only i hi hu hr ?_
 unfold Oper.wp
 rw [hy, Oper.upon_skip, hd]
 exact ⟨fun e => (by rw [hg] at e; cases e), h⟩
theorem call (i d : Nat) {oi : Oper} {n : Nat} {l : Array Bool} {a : Act} {w : World} {f : FuncId} {args : Array Value} (hi : ops[i]? = some oi) (hd : oi.dst = some d) (hu : oi.guard = none) (hr : Region.ready md ops l = [i]) (hy : (execOp a.eval oi).run P w = .ok (.enter f args) w) (h : Calls P f args w fun e w' => ∃ v, e = .returned v ∧ S w' ∧ any P md ops Q S g n (l.setIfInBounds i true) (a.put (some d) v) w') : any P md ops Q S g (n + 1) l a w := by
 refine only i hi hu hr ?_
 unfold Oper.wp
 rw [hy, Oper.upon_enter]
 refine h.mono ?_
 rintro e w' ⟨v, rfl, h1, h2⟩
 show _ ∧ any _ _ _ _ _ _ _ _ (a.put oi.dst v) _
 rw [hd]
 exact ⟨fun _ => h1, h2⟩
theorem done {l : Array Bool} {a : Act} {w : World} (hr : Region.ready md ops l = []) (h : Q .normal a w) : ∀ n, any P md ops Q S g n l a w
 | 0 => ⟨hr, h⟩
 | _ + 1 => ⟨fun _ => h, by rw [hr]; simp⟩
theorem begin (S : World → Prop) (g : Nat) {id : Nat} {a : Act} {w : World} (hm : P.follows .mixedOrders = true) (h : any P .any ops Q S g ops.size (Array.replicate ops.size false) a w.drew) : (Code.region id ops true).wp P Q a w :=
 wp_region_any hm (of_any _ _ _ _ h)
theorem g0 (i d : Nat) {oi : Oper} (v : Value) {n : Nat} {l : Array Bool} {a a' : Act} {w : World} (hs' : S w) (h : any P md ops Q S g n (l.setIfInBounds i true) a' w) (hi : ops[i]? = some oi := by exact rfl) (hd : oi.dst = some d := by exact rfl) (hs : Region.noSelect ops = true := by kernel_rfl) (hf : Region.free md ops l i = true := by kernel_rfl) (hr : (Region.ready md ops l).contains i = true := by kernel_rfl) (hg : i ≠ g := by decide) (hQ : ∀ c a w, Q (.panic c) (a.put oi.dst v) w → Q (.panic c) a w := by exact fun _ _ _ h_ => h_) (hu : oi.guard = none := by exact rfl) (hy : ∀ w, (execOp a.eval oi).run P w = .ok (.value v) w := by intro w_; go_simp) (ha : a.put (some d) v = a' := by simp only [Act.put, List.setIfInBounds_toArray, List.set_cons_zero, List.set_cons_succ]; rfl) : any P md ops Q S g (n + 1) l a w :=
 take0 i d v hi hd hs hf hr hg hQ hu hy (fun _ => hs') (ha ▸ h)
theorem gt (i d : Nat) {oi : Oper} (v : Value) {n : Nat} {l : Array Bool} {a a' : Act} {w : World} (hs' : S w) (h : any P md ops Q S g n (l.setIfInBounds i true) a' w) (hi : ops[i]? = some oi := by exact rfl) (hd : oi.dst = some d := by exact rfl) (hs : Region.noSelect ops = true := by kernel_rfl) (hf : Region.free md ops l i = true := by kernel_rfl) (hr : (Region.ready md ops l).contains i = true := by kernel_rfl) (hw : waits md ops g i = true := by kernel_rfl) (hg : l.getD g true = false := by kernel_rfl) (hQ : ∀ c a w, Q (.panic c) (a.put oi.dst v) w → Q (.panic c) a w := by exact fun _ _ _ h_ => h_) (hu : oi.guard = none := by exact rfl) (hy : ∀ w, S w → (execOp a.eval oi).run P w = .ok (.value v) w := by intro w_ hw_; have h1_ := hw_.1; have h2_ := hw_.2; clear hw_; go_simp) (ha : a.put (some d) v = a' := by simp only [Act.put, List.setIfInBounds_toArray, List.set_cons_zero, List.set_cons_succ]; rfl) : any P md ops Q S g (n + 1) l a w :=
 take i d v hi hd hs hf hr hw hg hQ hu hy hs' (ha ▸ h)
theorem gv (i d : Nat) {oi : Oper} (v : Value) {n : Nat} {l : Array Bool} {a a' : Act} {w : World} (h : any P md ops Q S g n (l.setIfInBounds i true) a' w) (hi : ops[i]? = some oi := by exact rfl) (hd : oi.dst = some d := by exact rfl) (hu : oi.guard = none := by exact rfl) (hr : Region.ready md ops l = [i] := by kernel_rfl) (hg : (l.setIfInBounds i true).getD g true = true := by kernel_rfl) (hy : (execOp a.eval oi).run P w = .ok (.value v) w := by go_simp) (ha : a.put (some d) v = a' := by simp only [Act.put, List.setIfInBounds_toArray, List.set_cons_zero, List.set_cons_succ]; rfl) : any P md ops Q S g (n + 1) l a w :=
 value i d v hi hd hu hr hg hy (ha ▸ h)
theorem gs (i : Nat) {oi : Oper} {n : Nat} {l : Array Bool} {a : Act} {w w' : World} (h : any P md ops Q S g n (l.setIfInBounds i true) a w') (hi : ops[i]? = some oi := by exact rfl) (hu : oi.guard = none := by exact rfl) (hd : oi.dst = none := by exact rfl) (hr : Region.ready md ops l = [i] := by kernel_rfl) (hg : (l.setIfInBounds i true).getD g true = true := by kernel_rfl) (hy : (execOp a.eval oi).run P w = .ok .skip w' := by go_simp; rfl) : any P md ops Q S g (n + 1) l a w := skip i hi hu hd hr hg hy h
theorem gc (i d : Nat) {oi : Oper} {n : Nat} {l : Array Bool} {a : Act} {w : World} {f : FuncId} {args : Array Value} (h : Calls P f args w fun e w' => ∃ v, e = .returned v ∧ S w' ∧ any P md ops Q S g n (l.setIfInBounds i true) (a.put (some d) v) w') (hi : ops[i]? = some oi := by exact rfl) (hd : oi.dst = some d := by exact rfl) (hu : oi.guard = none := by exact rfl) (hr : Region.ready md ops l = [i] := by kernel_rfl) (hy : (execOp a.eval oi).run P w = .ok (.enter f args) w := by go_simp; exact ⟨rfl, rfl⟩) : any P md ops Q S g (n + 1) l a w := call i d hi hd hu hr hy h
end Go.Proofs.YtfnejdbjekkadaaGreat.Gate
end
section
namespace Go.Proofs.YtfnejdbjekkadaaGreat.PRatePuts
noncomputable section
open Go.RowKit Go.Proofs.YtfnejdbjekkadaaGreatW.PrintWords Go.Proofs.YtfnejdbjekkadaaGreatW.PrintLast Go.Proofs.YtfnejdbjekkadaaGreatW.PrintMore
set_option maxHeartbeats 8000000
set_option maxRecDepth 100000
theorem idxAct.idx (A : Option Addr) (c : Nat) (l : List S49) (gr : Addr) (J T : Nat → World → Prop) (hJ : ∀ k W, J k W → Kd.C k49 W A l.length l) (hl : l.length ≤ c)
  (hcall : ∀ k W (A3 : Option Addr) (c3 : Nat) (A4 : Option Addr) (c4 : Nat) (A5 : Option Addr) (c5 : Nat), k < l.length → J k W → Calls Tryz.prog 38 #[.agg #[.string (l.getD k z49).f0, .int .i64 (l.getD k z49).f1, .int .i64 (l.getD k z49).f2, .slice A3 (l.getD k z49).f3.length c3, .slice A4 (l.getD k z49).f4.length c4, .slice A5 (l.getD k z49).f5.length c5], .pointer (some gr)] W fun e W' => (e = .returned (.bool true) ∧ T k W') ∨ (e = .returned (.bool false) ∧ J (k + 1) W')) (w : World) (h0 : J 0 w) :
  Calls Tryz.prog 37 #[.slice A l.length c, .func (.func 38) #[] #[.pointer (some gr)]] w fun e W' => (∃ k : Nat, k < l.length ∧ e = .returned (.int .i64 (k : Int)) ∧ T k W') ∨ (e = .returned (.int .i64 (-1)) ∧ J l.length W') := by
 have hm := Kd.qE9 (hJ 0 w h0)
 have H0 := zq h0
 clear h0
 go_enter Tryz.func37, Tryz.ntmps37
 go_wp2
 go_loopw [5, 8] (fun _ i wr => ∃ k : Nat, k ≤ l.length ∧ i = .int .i64 k ∧ qA0 (J k wr)) (fun _ i _ => l.length - (intOf i).toNat)
 case atStart => exact ⟨0, Nat.zero_le _, rfl, H0⟩
 case round =>
  obtain ⟨k, hk, rfl, HJ⟩ := hrel
  by_cases hlt : k < l.length
  ·have hC := hJ k wr HJ.out
   obtain ⟨ad, A3, c3, A4, c4, A5, c5, rfl, hx0, hx1, hx2, hx3, hx4, hx5, hl3, hi3, hl4, hi4, hl5, hi5⟩ := qEY hC (k : Int) (by omega) (by omega)
   have e_ : qA4 l (k : Int) = l.getD k z49 := by simp [qA4]
   rw [e_] at hx0 hx1 hx2 hx3 hx4 hx5 hl3 hi3 hl4 hi4 hl5 hi5
   simp only [Int.toNat_natCast] at hx0 hx1 hx2 hx3 hx4 hx5
   clear hC e_ hl3 hi3 hl4 hi4 hl5 hi5
   have HC := zq (hcall k wr A3 c3 A4 c4 A5 c5 hlt HJ.out)
   clear hcall
   generalize l.getD k z49 = y at *
   go_wp2_with fail
   refine HC.out.mono ?_
   rintro e w' (⟨rfl, ht⟩ | ⟨rfl, hj⟩)
   ·have HT := zq ht
    clear ht
    go_wp2_with fail
    go_ret
    exact .inl ⟨k, hlt, rfl, HT.out⟩
   ·have HJ2 := zq hj
    clear hj
    go_wp2_with fail
    go_roundw
    case rel => exact ⟨k + 1, by omega, by go_num, HJ2⟩
    case measure => simp [intOf]; omega
  ·obtain rfl : k = l.length := by omega
   go_wp2_with fail
   go_ret
   exact .inr ⟨rfl, HJ.out⟩
theorem idxAct.pred (x : S49) (A3 : Option Addr) (c3 : Nat) (A4 : Option Addr) (c4 : Nat) (A5 : Option Addr) (c5 : Nat) (gr : Nat) (q : ByteArray) (W : World) (hq : W.cell? ⟨gr, 0, none⟩ = some (.string q)) :
  Calls Tryz.prog 38 #[.agg #[.string x.f0, .int .i64 x.f1, .int .i64 x.f2, .slice A3 x.f3.length c3, .slice A4 x.f4.length c4, .slice A5 x.f5.length c5], .pointer (some ⟨gr, 0, none⟩)] W fun e W' => e = .returned (.bool (x.f0.toList == q.toList)) ∧ Below W.heap.size W W' := by
 have hB : Below W.heap.size W (W.alloc (.cells #[.string x.f0, .int .i64 x.f1, .int .i64 x.f2, .slice A3 x.f3.length c3, .slice A4 x.f4.length c4, .slice A5 x.f5.length c5] 49)) := qAA (Below.refl _ _) _
 have hq' := qA2 hB hq
 have HB := zq hB
 clear hB
 go_enter Tryz.func38, Tryz.ntmps38
 go_wp2_with fail
 go_ret
 exact ⟨rfl, HB.out⟩
theorem idxAct.first (A : Option Addr) (c : Nat) (l : List S49) (gr : Nat) (q : ByteArray) (w : World) (hC : Kd.C k49 w A l.length l) (hl : l.length ≤ c) (hq : w.cell? ⟨gr, 0, none⟩ = some (.string q)) :
  Calls Tryz.prog 37 #[.slice A l.length c, .func (.func 38) #[] #[.pointer (some ⟨gr, 0, none⟩)]] w fun e W' => Below w.heap.size w W' ∧ ((∃ k : Nat, k < l.length ∧ e = .returned (.int .i64 (k : Int)) ∧ l.find? (fun x => x.f0.toList == q.toList) = some (l.getD k z49)) ∨ (e = .returned (.int .i64 (-1)) ∧ l.find? (fun x => x.f0.toList == q.toList) = none)) := by
 refine (idxAct.idx A c l ⟨gr, 0, none⟩ (fun k W => Below w.heap.size w W ∧ ∀ j, j < k → ((l.getD j z49).f0.toList == q.toList) = false) (fun k W => Below w.heap.size w W ∧ ((l.getD k z49).f0.toList == q.toList) = true ∧ ∀ j, j < k → ((l.getD j z49).f0.toList == q.toList) = false) (fun k W hW => Kd.qAB hC hW.1) hl ?_ w ⟨Below.refl _ _, fun j hj => absurd hj (by omega)⟩).mono ?_
 ·rintro k W A3 c3 A4 c4 A5 c5 hk ⟨hB, hJ⟩
  refine (idxAct.pred (l.getD k z49) A3 c3 A4 c4 A5 c5 gr q W (qA2 hB hq)).mono ?_
  rintro e W' ⟨rfl, hb⟩
  cases hp : ((l.getD k z49).f0.toList == q.toList)
  ·refine .inr ⟨rfl, qA7 hB hb, fun j hj => ?_⟩
   rcases Nat.lt_or_ge j k with h | h
   ·exact hJ j h
   ·obtain rfl : j = k := by omega
    exact hp
  ·exact .inl ⟨rfl, qA7 hB hb, rfl, hJ⟩
 ·rintro e W' (⟨k, hk, rfl, hB, hp, hJ⟩ | ⟨rfl, hB, hJ⟩)
  ·refine ⟨hB, .inl ⟨k, hk, rfl, List.find?_eq_some_iff_append.2 ⟨hp, l.take k, l.drop (k + 1), ?_, fun a ha => ?_⟩⟩⟩
   ·rw [List.getD_eq_getElem?_getD, List.getElem?_eq_getElem hk, Option.getD_some, ← List.drop_eq_getElem_cons hk, List.take_append_drop]
   ·obtain ⟨j, hj, rfl⟩ := List.getElem_of_mem ha
    have hj' : j < k := by rw [List.length_take] at hj; omega
    have := hJ j hj'
    rw [List.getD_eq_getElem?_getD, List.getElem?_eq_getElem (by omega), Option.getD_some] at this
    rw [List.getElem_take, this]
    rfl
  ·refine ⟨hB, .inr ⟨rfl, List.find?_eq_none.2 fun a ha => ?_⟩⟩
   obtain ⟨j, hj, rfl⟩ := List.getElem_of_mem ha
   have := hJ j hj
   rw [List.getD_eq_getElem?_getD, List.getElem?_eq_getElem hj, Option.getD_some] at this
   rw [this]
   decide
theorem idxTab.idx (A : Option Addr) (c : Nat) (l : List S73) (gr : Addr) (J T : Nat → World → Prop) (hJ : ∀ k W, J k W → Kd.C k73 W A l.length l) (hl : l.length ≤ c)
  (hcall : ∀ k W (A4 : Option Addr) (c4 : Nat), k < l.length → J k W → Calls Tryz.prog 40 #[.agg #[.string (l.getD k z73).f0, .int .i64 (l.getD k z73).f1, .int .i64 (l.getD k z73).f2, .bool (l.getD k z73).f3, .slice A4 (l.getD k z73).f4.length c4], .pointer (some gr)] W fun e W' => (e = .returned (.bool true) ∧ T k W') ∨ (e = .returned (.bool false) ∧ J (k + 1) W')) (w : World) (h0 : J 0 w) :
  Calls Tryz.prog 39 #[.slice A l.length c, .func (.func 40) #[] #[.pointer (some gr)]] w fun e W' => (∃ k : Nat, k < l.length ∧ e = .returned (.int .i64 (k : Int)) ∧ T k W') ∨ (e = .returned (.int .i64 (-1)) ∧ J l.length W') := by
 have hm := Kd.qE9 (hJ 0 w h0)
 have H0 := zq h0
 clear h0
 go_enter Tryz.func39, Tryz.ntmps39
 go_wp2
 go_loopw [5, 8] (fun _ i wr => ∃ k : Nat, k ≤ l.length ∧ i = .int .i64 k ∧ qA0 (J k wr)) (fun _ i _ => l.length - (intOf i).toNat)
 case atStart => exact ⟨0, Nat.zero_le _, rfl, H0⟩
 case round =>
  obtain ⟨k, hk, rfl, HJ⟩ := hrel
  by_cases hlt : k < l.length
  ·have hC := hJ k wr HJ.out
   obtain ⟨ad, A4, c4, rfl, hx0, hx1, hx2, hx3, hx4, hl4, hi4⟩ := at_T73 hC (k : Int) (by omega) (by omega)
   have e_ : qAK l (k : Int) = l.getD k z73 := by simp [qAK]
   rw [e_] at hx0 hx1 hx2 hx3 hx4 hl4 hi4
   simp only [Int.toNat_natCast] at hx0 hx1 hx2 hx3 hx4
   clear hC e_ hl4 hi4
   have HC := zq (hcall k wr A4 c4 hlt HJ.out)
   clear hcall
   generalize l.getD k z73 = y at *
   go_wp2_with fail
   refine HC.out.mono ?_
   rintro e w' (⟨rfl, ht⟩ | ⟨rfl, hj⟩)
   ·have HT := zq ht
    clear ht
    go_wp2_with fail
    go_ret
    exact .inl ⟨k, hlt, rfl, HT.out⟩
   ·have HJ2 := zq hj
    clear hj
    go_wp2_with fail
    go_roundw
    case rel => exact ⟨k + 1, by omega, by go_num, HJ2⟩
    case measure => simp [intOf]; omega
  ·obtain rfl : k = l.length := by omega
   go_wp2_with fail
   go_ret
   exact .inr ⟨rfl, HJ.out⟩
theorem idxTab.pred (x : S73) (A4 : Option Addr) (c4 : Nat) (gr : Nat) (q : ByteArray) (W : World) (hq : W.cell? ⟨gr, 1, none⟩ = some (.string q)) :
  Calls Tryz.prog 40 #[.agg #[.string x.f0, .int .i64 x.f1, .int .i64 x.f2, .bool x.f3, .slice A4 x.f4.length c4], .pointer (some ⟨gr, 0, none⟩)] W fun e W' => e = .returned (.bool (x.f0.toList == q.toList)) ∧ Below W.heap.size W W' := by
 have hB : Below W.heap.size W (W.alloc (.cells #[.string x.f0, .int .i64 x.f1, .int .i64 x.f2, .bool x.f3, .slice A4 x.f4.length c4] 73)) := qAA (Below.refl _ _) _
 have hq' := qA2 hB hq
 have HB := zq hB
 clear hB
 go_enter Tryz.func40, Tryz.ntmps40
 go_wp2_with fail
 go_ret
 exact ⟨rfl, HB.out⟩
theorem idxTab.first (A : Option Addr) (c : Nat) (l : List S73) (gr : Nat) (q : ByteArray) (w : World) (hC : Kd.C k73 w A l.length l) (hl : l.length ≤ c) (hq : w.cell? ⟨gr, 1, none⟩ = some (.string q)) :
  Calls Tryz.prog 39 #[.slice A l.length c, .func (.func 40) #[] #[.pointer (some ⟨gr, 0, none⟩)]] w fun e W' => Below w.heap.size w W' ∧ ((∃ k : Nat, k < l.length ∧ e = .returned (.int .i64 (k : Int)) ∧ l.find? (fun x => x.f0.toList == q.toList) = some (l.getD k z73)) ∨ (e = .returned (.int .i64 (-1)) ∧ l.find? (fun x => x.f0.toList == q.toList) = none)) := by
 refine (idxTab.idx A c l ⟨gr, 0, none⟩ (fun k W => Below w.heap.size w W ∧ ∀ j, j < k → ((l.getD j z73).f0.toList == q.toList) = false) (fun k W => Below w.heap.size w W ∧ ((l.getD k z73).f0.toList == q.toList) = true ∧ ∀ j, j < k → ((l.getD j z73).f0.toList == q.toList) = false) (fun k W hW => Kd.qAB hC hW.1) hl ?_ w ⟨Below.refl _ _, fun j hj => absurd hj (by omega)⟩).mono ?_
 ·rintro k W A4 c4 hk ⟨hB, hJ⟩
  refine (idxTab.pred (l.getD k z73) A4 c4 gr q W (qA2 hB hq)).mono ?_
  rintro e W' ⟨rfl, hb⟩
  cases hp : ((l.getD k z73).f0.toList == q.toList)
  ·refine .inr ⟨rfl, qA7 hB hb, fun j hj => ?_⟩
   rcases Nat.lt_or_ge j k with h | h
   ·exact hJ j h
   ·obtain rfl : j = k := by omega
    exact hp
  ·exact .inl ⟨rfl, qA7 hB hb, rfl, hJ⟩
 ·rintro e W' (⟨k, hk, rfl, hB, hp, hJ⟩ | ⟨rfl, hB, hJ⟩)
  ·refine ⟨hB, .inl ⟨k, hk, rfl, List.find?_eq_some_iff_append.2 ⟨hp, l.take k, l.drop (k + 1), ?_, fun a ha => ?_⟩⟩⟩
   ·rw [List.getD_eq_getElem?_getD, List.getElem?_eq_getElem hk, Option.getD_some, ← List.drop_eq_getElem_cons hk, List.take_append_drop]
   ·obtain ⟨j, hj, rfl⟩ := List.getElem_of_mem ha
    have hj' : j < k := by rw [List.length_take] at hj; omega
    have := hJ j hj'
    rw [List.getD_eq_getElem?_getD, List.getElem?_eq_getElem (by omega), Option.getD_some] at this
    rw [List.getElem_take, this]
    rfl
  ·refine ⟨hB, .inr ⟨rfl, List.find?_eq_none.2 fun a ha => ?_⟩⟩
   obtain ⟨j, hj, rfl⟩ := List.getElem_of_mem ha
   have := hJ j hj
   rw [List.getD_eq_getElem?_getD, List.getElem?_eq_getElem hj, Option.getD_some] at this
   rw [this]
   decide
theorem idxArt.idx (A : Option Addr) (c : Nat) (l : List S55) (gr : Addr) (J T : Nat → World → Prop) (hJ : ∀ k W, J k W → Kd.C k55 W A l.length l) (hl : l.length ≤ c)
  (hcall : ∀ k W (A2 : Option Addr) (c2 : Nat) (A3 : Option Addr) (c3 : Nat) (A4 : Option Addr) (c4 : Nat), k < l.length → J k W → Calls Tryz.prog 42 #[.agg #[.string (l.getD k z55).f0, .string (l.getD k z55).f1, .slice A2 (l.getD k z55).f2.length c2, .slice A3 (l.getD k z55).f3.length c3, .slice A4 (l.getD k z55).f4.length c4, .int .i64 (l.getD k z55).f5], .pointer (some gr)] W fun e W' => (e = .returned (.bool true) ∧ T k W') ∨ (e = .returned (.bool false) ∧ J (k + 1) W')) (w : World) (h0 : J 0 w) :
  Calls Tryz.prog 41 #[.slice A l.length c, .func (.func 42) #[] #[.pointer (some gr)]] w fun e W' => (∃ k : Nat, k < l.length ∧ e = .returned (.int .i64 (k : Int)) ∧ T k W') ∨ (e = .returned (.int .i64 (-1)) ∧ J l.length W') := by
 have hm := Kd.qE9 (hJ 0 w h0)
 have H0 := zq h0
 clear h0
 go_enter Tryz.func41, Tryz.ntmps41
 go_wp2
 go_loopw [5, 8] (fun _ i wr => ∃ k : Nat, k ≤ l.length ∧ i = .int .i64 k ∧ qA0 (J k wr)) (fun _ i _ => l.length - (intOf i).toNat)
 case atStart => exact ⟨0, Nat.zero_le _, rfl, H0⟩
 case round =>
  obtain ⟨k, hk, rfl, HJ⟩ := hrel
  by_cases hlt : k < l.length
  ·have hC := hJ k wr HJ.out
   obtain ⟨ad, A2, c2, A3, c3, A4, c4, rfl, hx0, hx1, hx2, hx3, hx4, hx5, hl2, hi2, hl3, hi3, hl4, hi4⟩ := at_T55 hC (k : Int) (by omega) (by omega)
   have e_ : qAY l (k : Int) = l.getD k z55 := by simp [qAY]
   rw [e_] at hx0 hx1 hx2 hx3 hx4 hx5 hl2 hi2 hl3 hi3 hl4 hi4
   simp only [Int.toNat_natCast] at hx0 hx1 hx2 hx3 hx4 hx5
   clear hC e_ hl2 hi2 hl3 hi3 hl4 hi4
   have HC := zq (hcall k wr A2 c2 A3 c3 A4 c4 hlt HJ.out)
   clear hcall
   generalize l.getD k z55 = y at *
   go_wp2_with fail
   refine HC.out.mono ?_
   rintro e w' (⟨rfl, ht⟩ | ⟨rfl, hj⟩)
   ·have HT := zq ht
    clear ht
    go_wp2_with fail
    go_ret
    exact .inl ⟨k, hlt, rfl, HT.out⟩
   ·have HJ2 := zq hj
    clear hj
    go_wp2_with fail
    go_roundw
    case rel => exact ⟨k + 1, by omega, by go_num, HJ2⟩
    case measure => simp [intOf]; omega
  ·obtain rfl : k = l.length := by omega
   go_wp2_with fail
   go_ret
   exact .inr ⟨rfl, HJ.out⟩
theorem idxArt.pred (x : S55) (A2 : Option Addr) (c2 : Nat) (A3 : Option Addr) (c3 : Nat) (A4 : Option Addr) (c4 : Nat) (gr : Nat) (q : ByteArray) (W : World) (hq : W.cell? ⟨gr, 1, none⟩ = some (.string q)) :
  Calls Tryz.prog 42 #[.agg #[.string x.f0, .string x.f1, .slice A2 x.f2.length c2, .slice A3 x.f3.length c3, .slice A4 x.f4.length c4, .int .i64 x.f5], .pointer (some ⟨gr, 0, none⟩)] W fun e W' => e = .returned (.bool (x.f0.toList == q.toList)) ∧ Below W.heap.size W W' := by
 have hB : Below W.heap.size W (W.alloc (.cells #[.string x.f0, .string x.f1, .slice A2 x.f2.length c2, .slice A3 x.f3.length c3, .slice A4 x.f4.length c4, .int .i64 x.f5] 55)) := qAA (Below.refl _ _) _
 have hq' := qA2 hB hq
 have HB := zq hB
 clear hB
 go_enter Tryz.func42, Tryz.ntmps42
 go_wp2_with fail
 go_ret
 exact ⟨rfl, HB.out⟩
theorem idxArt.first (A : Option Addr) (c : Nat) (l : List S55) (gr : Nat) (q : ByteArray) (w : World) (hC : Kd.C k55 w A l.length l) (hl : l.length ≤ c) (hq : w.cell? ⟨gr, 1, none⟩ = some (.string q)) :
  Calls Tryz.prog 41 #[.slice A l.length c, .func (.func 42) #[] #[.pointer (some ⟨gr, 0, none⟩)]] w fun e W' => Below w.heap.size w W' ∧ ((∃ k : Nat, k < l.length ∧ e = .returned (.int .i64 (k : Int)) ∧ l.find? (fun x => x.f0.toList == q.toList) = some (l.getD k z55)) ∨ (e = .returned (.int .i64 (-1)) ∧ l.find? (fun x => x.f0.toList == q.toList) = none)) := by
 refine (idxArt.idx A c l ⟨gr, 0, none⟩ (fun k W => Below w.heap.size w W ∧ ∀ j, j < k → ((l.getD j z55).f0.toList == q.toList) = false) (fun k W => Below w.heap.size w W ∧ ((l.getD k z55).f0.toList == q.toList) = true ∧ ∀ j, j < k → ((l.getD j z55).f0.toList == q.toList) = false) (fun k W hW => Kd.qAB hC hW.1) hl ?_ w ⟨Below.refl _ _, fun j hj => absurd hj (by omega)⟩).mono ?_
 ·rintro k W A2 c2 A3 c3 A4 c4 hk ⟨hB, hJ⟩
  refine (idxArt.pred (l.getD k z55) A2 c2 A3 c3 A4 c4 gr q W (qA2 hB hq)).mono ?_
  rintro e W' ⟨rfl, hb⟩
  cases hp : ((l.getD k z55).f0.toList == q.toList)
  ·refine .inr ⟨rfl, qA7 hB hb, fun j hj => ?_⟩
   rcases Nat.lt_or_ge j k with h | h
   ·exact hJ j h
   ·obtain rfl : j = k := by omega
    exact hp
  ·exact .inl ⟨rfl, qA7 hB hb, rfl, hJ⟩
 ·rintro e W' (⟨k, hk, rfl, hB, hp, hJ⟩ | ⟨rfl, hB, hJ⟩)
  ·refine ⟨hB, .inl ⟨k, hk, rfl, List.find?_eq_some_iff_append.2 ⟨hp, l.take k, l.drop (k + 1), ?_, fun a ha => ?_⟩⟩⟩
   ·rw [List.getD_eq_getElem?_getD, List.getElem?_eq_getElem hk, Option.getD_some, ← List.drop_eq_getElem_cons hk, List.take_append_drop]
   ·obtain ⟨j, hj, rfl⟩ := List.getElem_of_mem ha
    have hj' : j < k := by rw [List.length_take] at hj; omega
    have := hJ j hj'
    rw [List.getD_eq_getElem?_getD, List.getElem?_eq_getElem (by omega), Option.getD_some] at this
    rw [List.getElem_take, this]
    rfl
  ·refine ⟨hB, .inr ⟨rfl, List.find?_eq_none.2 fun a ha => ?_⟩⟩
   obtain ⟨j, hj, rfl⟩ := List.getElem_of_mem ha
   have := hJ j hj
   rw [List.getD_eq_getElem?_getD, List.getElem?_eq_getElem hj, Option.getD_some] at this
   rw [this]
   decide
def qDH (b : List S49) (r0 r1 : ByteArray) (r2 r3 : Int) : Option (Int × Int) :=
 (b.find? fun x => x.f0.toList == r0.toList).bind fun a =>
  if r2 = 2 ∨ r2 = 3 then (a.f4.find? fun t => t.f0.toList == r1.toList).bind fun t =>
   if r3 < 0 ∨ (t.f4.length : Int) ≤ r3 then none
   else some (if r2 = 2 then ((t.f4.getD r3.toNat z75).f0, t.f1) else ((t.f4.getD r3.toNat z75).f1, if t.f3 = true then 6 else t.f2))
  else (a.f5.find? fun x => x.f0.toList == r1.toList).bind fun x =>
   if r2 ≠ 0 ∧ r2 ≠ 1 then none
   else if r3 < 0 ∨ (((if r2 = 1 then x.f3 else x.f2).length : Nat) : Int) ≤ r3 then none
   else if ((if r2 = 1 then x.f3 else x.f2).getD r3.toNat z79).f0 ≠ 0 ∨ ((if r2 = 1 then x.f3 else x.f2).getD r3.toNat z79).f2 = 1 then none
   else some (((if r2 = 1 then x.f3 else x.f2).getD r3.toNat z79).f3, ((if r2 = 1 then x.f3 else x.f2).getD r3.toNat z79).f2)
def cellAt (W : World) (A : Option Addr) (sz i q : Nat) (u : Value) : Prop := ∃ ad, A = some ad ∧ W.cell? ⟨(ad.add (i * sz)).block, (ad.add (i * sz)).off + q, none⟩ = some u
def PAt (W : World) (A : Option Addr) (b : List S49) (r0 r1 : ByteArray) (r2 r3 : Int) (a : Addr) : Prop := 0 ≤ r3 ∧ ∃ i y, b[i]? = some y ∧ b.find? (fun x => x.f0.toList == r0.toList) = some y ∧
 ((∃ k t A4 c4 as_ cs, (r2 = 2 ∨ r2 = 3) ∧ y.f4[k]? = some t ∧ y.f4.find? (fun x => x.f0.toList == r1.toList) = some t ∧ cellAt W A 6 i 4 (.slice A4 y.f4.length c4) ∧ cellAt W A4 5 k 4 (.slice (some as_) t.f4.length cs) ∧ r3.toNat < t.f4.length ∧ a = (if r2 = 2 then as_.add (r3.toNat * 2) else ⟨(as_.add (r3.toNat * 2)).block, (as_.add (r3.toNat * 2)).off + 1, none⟩)) ∨
  (∃ k x A5 c5 as_ cs, (r2 = 0 ∨ r2 = 1) ∧ y.f5[k]? = some x ∧ y.f5.find? (fun x => x.f0.toList == r1.toList) = some x ∧ cellAt W A 6 i 5 (.slice A5 y.f5.length c5) ∧ cellAt W A5 6 k (if r2 = 1 then 3 else 2) (.slice (some as_) (if r2 = 1 then x.f3 else x.f2).length cs) ∧ r3.toNat < (if r2 = 1 then x.f3 else x.f2).length ∧ a = ⟨(as_.add (r3.toNat * 5)).block, (as_.add (r3.toNat * 5)).off + 3, none⟩))
theorem qD2 {P : Program} {ops : Array Oper} {rest : List Oper} {o : Oper} {a : Act} {Q : Exit → Act → World → Prop} {W : World} {t : TypeId} {p x : Tmp} (ho : o.op = .store t (.tmp p) (.tmp x)) (hgd : o.guard = none) (hN : o.dst = none) {g : Nat} {u : Value} {cur : Array Value} {e : TypeId}
  (ha : a.eval (.tmp p) = .pointer (some ⟨g, 0, none⟩)) (hx : a.eval (.tmp x) = u) (hh : W.heap[g]? = some (.cells cur e (0, 0))) (seg : List Value) (hu : u.cells.toList = seg) (ht : (P.info? t).map (·.size) = some seg.length) (hl : cur.size = seg.length) (h1 : ∀ q ∈ seg, q.oneCell' = true)
  (h : ∀ w1, w1.heap[g]? = some (.cells seg.toArray e (0, 0)) → (∀ k, k ≠ g → w1.heap[k]? = W.heap[k]?) → (∀ B a, Below B a W → B ≤ g → Below B a w1) → wpList P ops Q rest a w1) : wpList P ops Q (o :: rest) a W := by
 have hrun := run_store_run (P := P) (o := 0) t u seg hh hu ht (by omega) h1
 obtain ⟨cur', h3, _, h5⟩ := setCells_row seg 0 W cur hh (by omega)
 obtain ⟨s1, s2, s3, s4⟩ := setCells_same g seg 0 W
 have e1 : cur' = seg.toArray := by
  apply Array.toList_inj.1
  rw [h5, List.take_zero, List.nil_append, List.drop_eq_nil_of_le (by simp; omega), List.append_nil]
 refine wpList_plain hgd fun K hK => ?_
 unfold Oper.wp execOp
 simp only [ho, ha, hx, Sem.run_bind, Sem.run_pure, Result.andThen_ok, hrun]
 show K (a.put o.dst undef) _
 rw [hN]
 exact hK a _ (h _ (e1 ▸ h3) (fun k hk => qFD seg 0 k hk) (fun B a HB hg => ⟨s1.trans HB.os, s2.trans HB.tape, s3.trans HB.output, by rw [s4]; exact HB.size, fun k hk => (qFD seg 0 k (by omega)).trans (HB.block k hk)⟩))
set_option maxHeartbeats 4000000 in
set_option maxRecDepth 100000 in
theorem rate_place.walk (A : Option Addr) (c : Nat) (b : List S49) (r0 r1 : ByteArray) (r2 r3 : Int) (w : World) (hC : Kd.C k49 w A b.length b) (hl : b.length ≤ c) :
  Calls Tryz.prog 12 #[.slice A b.length c, .agg #[.string r0, .string r1, .int .i64 r2, .int .i64 r3]] w fun e W' => Below w.heap.size w W' ∧ ((e = .returned (.tuple #[.pointer none, .int .i64 0]) ∧ qDH b r0 r1 r2 r3 = none) ∨ (∃ (a : Addr) (n kd : Int), e = .returned (.tuple #[.pointer (some a), .int .i64 kd]) ∧ W'.cell? a = some (.int .i64 n) ∧ qDH b r0 r1 r2 r3 = some (n, kd) ∧ PAt W' A b r0 r1 r2 r3 a)) := by
 have hm := Kd.qE9 hC
 have hB : Below w.heap.size w (w.alloc (.cells #[.string r0, .string r1, .int .i64 r2, .int .i64 r3] 25)) := qAA (Below.refl _ _) _
 have hblk : (w.alloc (.cells #[.string r0, .string r1, .int .i64 r2, .int .i64 r3] 25)).heap[w.heap.size]? = some (.cells #[.string r0, .string r1, .int .i64 r2, .int .i64 r3] 25) := heap_alloc_new w _
 have hC1 := Kd.qAB hC hB
 have hI := idxAct.first A c b w.heap.size r0 _ hC1 hl ((qA1 hblk 0).trans rfl)
 have hlt1 : w.heap.size < (w.alloc (.cells #[.string r0, .string r1, .int .i64 r2, .int .i64 r3] 25)).heap.size := Gen.qAT hblk
 have HI := zq hI
 have HC := zq (And.intro hC1 (And.intro hB (And.intro hblk hlt1)))
 clear hI hC hB hC1 hblk hlt1
 go_enter Tryz.func12, Tryz.ntmps12
 go_wp2_with fail
 refine HI.out.mono ?_
 rintro e W2 ⟨hb, (⟨k, hk, rfl, hf⟩ | ⟨rfl, hf⟩)⟩
 ·have hC2 := Kd.qAB HC.out.1 hb
  have hblk2 := (hb.block _ HC.out.2.2.2).trans HC.out.2.2.1
  have hB2 := qA7 HC.out.2.1 hb
  clear HI
  obtain ⟨ad, A3, c3, A4, c4, A5, c5, rfl, hx0, hx1, hx2, hx3, hx4, hx5, hl3, hi3, hl4, hi4, hl5, hi5⟩ := qEY hC2 (k : Int) (by omega) (by omega)
  have e_ : qA4 b (k : Int) = b.getD k z49 := by simp [qA4]
  rw [e_] at hx0 hx1 hx2 hx3 hx4 hx5 hl3 hi3 hl4 hi4 hl5 hi5
  simp only [Int.toNat_natCast] at hx0 hx1 hx2 hx3 hx4 hx5
  have hr2 := (qA1 hblk2 2).trans rfl
  generalize hy : b.getD k z49 = y at *
  have HF := zq (And.intro (show b[k]? = some y by rw [← hy, List.getD_eq_getElem?_getD, List.getElem?_eq_getElem hk]; rfl) hf)
  have hpl : qDH b r0 r1 r2 r3 = (if r2 = 2 ∨ r2 = 3 then (y.f4.find? fun t => t.f0.toList == r1.toList).bind fun t =>
   if r3 < 0 ∨ (t.f4.length : Int) ≤ r3 then none
   else some (if r2 = 2 then ((t.f4.getD r3.toNat z75).f0, t.f1) else ((t.f4.getD r3.toNat z75).f1, if t.f3 = true then 6 else t.f2))
  else (y.f5.find? fun x => x.f0.toList == r1.toList).bind fun x =>
   if r2 ≠ 0 ∧ r2 ≠ 1 then none
   else if r3 < 0 ∨ (((if r2 = 1 then x.f3 else x.f2).length : Nat) : Int) ≤ r3 then none
   else if ((if r2 = 1 then x.f3 else x.f2).getD r3.toNat z79).f0 ≠ 0 ∨ ((if r2 = 1 then x.f3 else x.f2).getD r3.toNat z79).f2 = 1 then none
   else some (((if r2 = 1 then x.f3 else x.f2).getD r3.toNat z79).f3, ((if r2 = 1 then x.f3 else x.f2).getD r3.toNat z79).f2)) := by
   unfold qDH; rw [hf]; rfl
  by_cases hp : r2 = 2 ∨ r2 = 3
  ·rw [if_pos hp] at hpl
   have hI4 := idxTab.first A4 c4 y.f4 w.heap.size r1 W2 hi4 hl4 ((qA1 hblk2 1).trans rfl)
   have HI4 := zq hI4
   have HK := zq (And.intro hi4 (And.intro hl4 (And.intro hblk2 (And.intro hB2 hpl))))
   clear hI4 hpl hf hi3 hi4 hi5 hC2 hblk2 hB2 HC hl3 hl5 hb
   rcases hp with hp | hp
   ·go_wp2_with fail
    refine HI4.out.mono ?_
    rintro e W3 ⟨hb3, (⟨j, hj, rfl, hf3⟩ | ⟨rfl, hf3⟩)⟩
    ·have hC3 := Kd.qAB HK.out.1 hb3
     have hblk3 := (hb3.block _ (Gen.qAT HK.out.2.2.1)).trans HK.out.2.2.1
     have hB3 := qA7 HK.out.2.2.2.1 hb3
     have hx43 := qA2 hb3 hx4
     have hpl3 := HK.out.2.2.2.2
     rw [hf3, Option.bind_some] at hpl3
     have hlj := HK.out.2.1
     have HF3 := zq hf3
     clear HI4 HK hf3 hx0 hx1 hx2 hx3 hx4 hx5
     obtain ⟨at_, B4, d4, rfl, ht0, ht1, ht2, ht3, ht4, hl4', hi4'⟩ := at_T73 hC3 (j : Int) (by omega) (by omega)
     have e_ : qAK y.f4 (j : Int) = y.f4.getD j z73 := by simp [qAK]
     rw [e_] at ht0 ht1 ht2 ht3 ht4 hl4' hi4'
     simp only [Int.toNat_natCast] at ht0 ht1 ht2 ht3 ht4
     have hr2 : W3.cell? ⟨w.heap.size, 2, none⟩ = some (.int .i64 _) := (qA1 hblk3 2).trans rfl
     have hr3 : W3.cell? ⟨w.heap.size, 3, none⟩ = some (.int .i64 r3) := (qA1 hblk3 3).trans rfl
     have hj0 : decide ((j : Int) < 0) = false := by simp
     clear e_ hC3
     generalize ht_ : y.f4.getD j z73 = t at *
     have HG := zq (And.intro (show y.f4[j]? = some t by rw [← ht_, List.getD_eq_getElem?_getD, List.getElem?_eq_getElem hj]; rfl) (And.intro HF3.out (And.intro hx43 ht4)))
     clear ht_ HF3
     by_cases hq : r3 < 0 ∨ (t.f4.length : Int) ≤ r3
     ·rw [if_pos hq] at hpl3
      have HZ := zq (And.intro hB3 hpl3)
      clear hB3 hpl3 hi4'
      by_cases hq0 : r3 < 0
      ·have hd : decide (r3 < 0) = true := by simpa using hq0
       go_wp2_with fail
       go_quiet (fail)
       go_wp2_with fail
       go_ret2
       exact ⟨qA8 HZ.out.1 _, .inl ⟨rfl, HZ.out.2⟩⟩
      ·have hd : decide (r3 < 0) = false := by simpa using hq0
       have hq1 : (t.f4.length : Int) ≤ r3 := hq.resolve_left hq0
       go_wp2_with fail
       go_quiet (fail)
       go_wp2_with fail
       go_ret2
       exact ⟨qA8 HZ.out.1 _, .inl ⟨rfl, HZ.out.2⟩⟩
     ·rw [if_neg hq] at hpl3
      have HZ := zq (And.intro hB3 hpl3)
      clear hB3 hpl3
      have hq0 : ¬ r3 < 0 := fun h => hq (.inl h)
      have hq1 : ¬ (t.f4.length : Int) ≤ r3 := fun h => hq (.inr h)
      have hd : decide (r3 < 0) = false := by simpa using hq0
      go_wp2_with fail
      go_quiet (fail)
      obtain ⟨as_, rfl, hs0, hs1⟩ := at_T75 hi4' r3 (by omega) (by omega)
      have e_ : qD0 t.f4 r3 = t.f4.getD r3.toNat z75 := by simp [qD0]
      rw [e_] at hs0 hs1
      generalize t.f4.getD r3.toNat z75 = s at *
      have hltw : w.heap.size < W3.heap.size := Gen.qAT hblk3
      go_wp2_with ((with_reducible refine qC8 (t := 73) (p := 8) rfl ?_); refine qD2 (t := 73) (p := 8) (g := W3.heap.size) (cur := #[.string ⟨#[]⟩, .int .i64 0, .int .i64 0, .bool false, .slice none 0 0]) (e := 73) rfl rfl rfl rfl rfl (heap_alloc_new _ _) [.string t.f0, .int .i64 t.f1, .int .i64 t.f2, .bool t.f3, .slice (some as_) t.f4.length d4] rfl rfl rfl ?h1 ?_; (case h1 => intro q hq_; simp only [List.mem_cons, List.not_mem_nil, or_false] at hq_; rcases hq_ with rfl | rfl | rfl | rfl | rfl <;> rfl); intro w4 hblk4 hsame hB4; have hB34 := hB4 _ _ (qAA (qA8 (Below.refl W3.heap.size W3) _) _) (Nat.le_refl _); have hr24 := qA2 hB34 hr2; have hr34 := qA2 hB34 hr3; have hs04 := qA2 hB34 hs0; have hs14 := qA2 hB34 hs1; have u0 : w4.cell? ⟨W3.heap.size, 0, none⟩ = some (.string t.f0) := (qA1 hblk4 0).trans rfl; have u1 : w4.cell? ⟨W3.heap.size, 1, none⟩ = some (.int .i64 t.f1) := (qA1 hblk4 1).trans rfl; have u2 : w4.cell? ⟨W3.heap.size, 2, none⟩ = some (.int .i64 t.f2) := (qA1 hblk4 2).trans rfl; have u3 : w4.cell? ⟨W3.heap.size, 3, none⟩ = some (.bool t.f3) := (qA1 hblk4 3).trans rfl; have u4 : w4.cell? ⟨W3.heap.size, 4, none⟩ = some (.slice (some as_) t.f4.length d4) := (qA1 hblk4 4).trans rfl; have HB34 := zq hB34; clear hB34 hB4 hsame hblk4 hs0 hs1 hr2 hr3 ht0 ht1 ht2 ht3 ht4)
      repeat (go_quiet (fail); try go_wp2_with fail)
      go_ret2
      exact ⟨by repeat (first | exact qA7 HZ.out.1 HB34.out | apply qA8), .inr ⟨_, _, _, rfl, by first | exact hs04 | exact hs14, by rw [HZ.out.2]; simp [hp], (by omega), k, y, HF.out.1, HF.out.2, .inl ⟨j, t, _, _, as_, _, .inl hp, HG.out.1, HG.out.2.1, ⟨_, rfl, qA2 HB34.out HG.out.2.2.1⟩, ⟨_, rfl, qA2 HB34.out HG.out.2.2.2⟩, by omega, by rw [if_pos hp]⟩⟩⟩
    ·have hB3 := qA7 HK.out.2.2.2.1 hb3
     have hpl3 := HK.out.2.2.2.2
     rw [hf3, Option.bind_none] at hpl3
     clear HI4 HK
     go_wp2_with fail
     go_quiet (fail)
     go_wp2_with fail
     go_ret2
     exact ⟨qA8 hB3 _, .inl ⟨rfl, hpl3⟩⟩
   ·go_wp2_with fail
    refine HI4.out.mono ?_
    rintro e W3 ⟨hb3, (⟨j, hj, rfl, hf3⟩ | ⟨rfl, hf3⟩)⟩
    ·have hC3 := Kd.qAB HK.out.1 hb3
     have hblk3 := (hb3.block _ (Gen.qAT HK.out.2.2.1)).trans HK.out.2.2.1
     have hB3 := qA7 HK.out.2.2.2.1 hb3
     have hx43 := qA2 hb3 hx4
     have hpl3 := HK.out.2.2.2.2
     rw [hf3, Option.bind_some] at hpl3
     have hlj := HK.out.2.1
     have HF3 := zq hf3
     clear HI4 HK hf3 hx0 hx1 hx2 hx3 hx4 hx5
     obtain ⟨at_, B4, d4, rfl, ht0, ht1, ht2, ht3, ht4, hl4', hi4'⟩ := at_T73 hC3 (j : Int) (by omega) (by omega)
     have e_ : qAK y.f4 (j : Int) = y.f4.getD j z73 := by simp [qAK]
     rw [e_] at ht0 ht1 ht2 ht3 ht4 hl4' hi4'
     simp only [Int.toNat_natCast] at ht0 ht1 ht2 ht3 ht4
     have hr2 : W3.cell? ⟨w.heap.size, 2, none⟩ = some (.int .i64 _) := (qA1 hblk3 2).trans rfl
     have hr3 : W3.cell? ⟨w.heap.size, 3, none⟩ = some (.int .i64 r3) := (qA1 hblk3 3).trans rfl
     have hj0 : decide ((j : Int) < 0) = false := by simp
     clear e_ hC3
     generalize ht_ : y.f4.getD j z73 = t at *
     have HG := zq (And.intro (show y.f4[j]? = some t by rw [← ht_, List.getD_eq_getElem?_getD, List.getElem?_eq_getElem hj]; rfl) (And.intro HF3.out (And.intro hx43 ht4)))
     clear ht_ HF3
     by_cases hq : r3 < 0 ∨ (t.f4.length : Int) ≤ r3
     ·rw [if_pos hq] at hpl3
      have HZ := zq (And.intro hB3 hpl3)
      clear hB3 hpl3 hi4'
      by_cases hq0 : r3 < 0
      ·have hd : decide (r3 < 0) = true := by simpa using hq0
       go_wp2_with fail
       go_quiet (fail)
       go_wp2_with fail
       go_ret2
       exact ⟨qA8 HZ.out.1 _, .inl ⟨rfl, HZ.out.2⟩⟩
      ·have hd : decide (r3 < 0) = false := by simpa using hq0
       have hq1 : (t.f4.length : Int) ≤ r3 := hq.resolve_left hq0
       go_wp2_with fail
       go_quiet (fail)
       go_wp2_with fail
       go_ret2
       exact ⟨qA8 HZ.out.1 _, .inl ⟨rfl, HZ.out.2⟩⟩
     ·rw [if_neg hq] at hpl3
      have HZ := zq (And.intro hB3 hpl3)
      clear hB3 hpl3
      have hq0 : ¬ r3 < 0 := fun h => hq (.inl h)
      have hq1 : ¬ (t.f4.length : Int) ≤ r3 := fun h => hq (.inr h)
      have hd : decide (r3 < 0) = false := by simpa using hq0
      go_wp2_with fail
      go_quiet (fail)
      obtain ⟨as_, rfl, hs0, hs1⟩ := at_T75 hi4' r3 (by omega) (by omega)
      have e_ : qD0 t.f4 r3 = t.f4.getD r3.toNat z75 := by simp [qD0]
      rw [e_] at hs0 hs1
      generalize t.f4.getD r3.toNat z75 = s at *
      have hltw : w.heap.size < W3.heap.size := Gen.qAT hblk3
      go_wp2_with ((with_reducible refine qC8 (t := 73) (p := 8) rfl ?_); refine qD2 (t := 73) (p := 8) (g := W3.heap.size) (cur := #[.string ⟨#[]⟩, .int .i64 0, .int .i64 0, .bool false, .slice none 0 0]) (e := 73) rfl rfl rfl rfl rfl (heap_alloc_new _ _) [.string t.f0, .int .i64 t.f1, .int .i64 t.f2, .bool t.f3, .slice (some as_) t.f4.length d4] rfl rfl rfl ?h1 ?_; (case h1 => intro q hq_; simp only [List.mem_cons, List.not_mem_nil, or_false] at hq_; rcases hq_ with rfl | rfl | rfl | rfl | rfl <;> rfl); intro w4 hblk4 hsame hB4; have hB34 := hB4 _ _ (qAA (qA8 (Below.refl W3.heap.size W3) _) _) (Nat.le_refl _); have hr24 := qA2 hB34 hr2; have hr34 := qA2 hB34 hr3; have hs04 := qA2 hB34 hs0; have hs14 := qA2 hB34 hs1; have u0 : w4.cell? ⟨W3.heap.size, 0, none⟩ = some (.string t.f0) := (qA1 hblk4 0).trans rfl; have u1 : w4.cell? ⟨W3.heap.size, 1, none⟩ = some (.int .i64 t.f1) := (qA1 hblk4 1).trans rfl; have u2 : w4.cell? ⟨W3.heap.size, 2, none⟩ = some (.int .i64 t.f2) := (qA1 hblk4 2).trans rfl; have u3 : w4.cell? ⟨W3.heap.size, 3, none⟩ = some (.bool t.f3) := (qA1 hblk4 3).trans rfl; have u4 : w4.cell? ⟨W3.heap.size, 4, none⟩ = some (.slice (some as_) t.f4.length d4) := (qA1 hblk4 4).trans rfl; have HB34 := zq hB34; clear hB34 hB4 hsame hblk4 hs0 hs1 hr2 hr3 ht0 ht1 ht2 ht3 ht4)
      all_goals (repeat (go_quiet (fail); try go_wp2_with fail))
      all_goals go_ret2
      all_goals exact ⟨by repeat (first | exact qA7 HZ.out.1 HB34.out | apply qA8), .inr ⟨_, _, _, rfl, by first | exact hs04 | exact hs14, by rw [HZ.out.2]; by_cases hts : t.f3 = true <;> first | (simp [hp, hts]; done) | exact absurd (hts.symm.trans (by assumption : t.f3 = false)) (by decide) | exact absurd hts (by assumption) | exact absurd (by assumption : t.f3 = true) hts, (by omega), k, y, HF.out.1, HF.out.2, .inl ⟨j, t, _, _, as_, _, .inr hp, HG.out.1, HG.out.2.1, ⟨_, rfl, qA2 HB34.out HG.out.2.2.1⟩, ⟨_, rfl, qA2 HB34.out HG.out.2.2.2⟩, by omega, by rw [if_neg (by omega)]⟩⟩⟩
    ·have hB3 := qA7 HK.out.2.2.2.1 hb3
     have hpl3 := HK.out.2.2.2.2
     rw [hf3, Option.bind_none] at hpl3
     clear HI4 HK
     go_wp2_with fail
     go_quiet (fail)
     go_wp2_with fail
     go_ret2
     exact ⟨qA8 hB3 _, .inl ⟨rfl, hpl3⟩⟩
  ·rw [if_neg hp] at hpl
   have hI5 := idxArt.first A5 c5 y.f5 w.heap.size r1 W2 hi5 hl5 ((qA1 hblk2 1).trans rfl)
   have HI5 := zq hI5
   have HK := zq (And.intro hi5 (And.intro hl5 (And.intro hblk2 (And.intro hB2 hpl))))
   have hp2 : ¬ r2 = 2 := fun h => hp (.inl h)
   have hp3 : ¬ r2 = 3 := fun h => hp (.inr h)
   have hq2 : (r2 == 2) = false := by simpa using hp2
   have hq3 : (r2 == 3) = false := by simpa using hp3
   clear hI5 hpl hf hi3 hi4 hi5 hC2 hblk2 hB2 HC hl3 hl4 hl5 hb hp
   go_wp2_with fail
   refine HI5.out.mono ?_
   rintro e W3 ⟨hb3, (⟨j, hj, rfl, hf3⟩ | ⟨rfl, hf3⟩)⟩
   ·have hC3 := Kd.qAB HK.out.1 hb3
    have hblk3 := (hb3.block _ (Gen.qAT HK.out.2.2.1)).trans HK.out.2.2.1
    have hB3 := qA7 HK.out.2.2.2.1 hb3
    have hx53 := qA2 hb3 hx5
    have hpl3 := HK.out.2.2.2.2
    rw [hf3, Option.bind_some] at hpl3
    have hlj := HK.out.2.1
    have HF3 := zq hf3
    clear HI5 HK hf3 hx0 hx1 hx2 hx3 hx4 hx5 hr2
    obtain ⟨at_, B2, d2, B3, d3, B4, d4, rfl, ht0, ht1, ht2, ht3, ht4, ht5, hl2, hi2, hl3, hi3, hl4, hi4⟩ := at_T55 hC3 (j : Int) (by omega) (by omega)
    have e_ : qAY y.f5 (j : Int) = y.f5.getD j z55 := by simp [qAY]
    rw [e_] at ht0 ht1 ht2 ht3 ht4 ht5 hl2 hi2 hl3 hi3 hl4 hi4
    simp only [Int.toNat_natCast] at ht0 ht1 ht2 ht3 ht4 ht5
    have hr2 : W3.cell? ⟨w.heap.size, 2, none⟩ = some (.int .i64 r2) := (qA1 hblk3 2).trans rfl
    have hr3 : W3.cell? ⟨w.heap.size, 3, none⟩ = some (.int .i64 r3) := (qA1 hblk3 3).trans rfl
    have hj0 : decide ((j : Int) < 0) = false := by simp
    clear e_ hC3 hl4 hi4 hblk3
    generalize hx_ : y.f5.getD j z55 = x at *
    have HG := zq (And.intro (show y.f5[j]? = some x by rw [← hx_, List.getD_eq_getElem?_getD, List.getElem?_eq_getElem hj]; rfl) (And.intro HF3.out (And.intro hx53 (And.intro ht2 ht3))))
    clear hx_ HF3
    by_cases e0 : r2 = 0
    ·subst e0
     have hg0 : ((0 : Int) != 0) = false := rfl
     have hx := hi2
     clear hi2 hi3
     by_cases hq : r3 < 0 ∨ ((x.f2.length : Nat) : Int) ≤ r3
     ·have hz : qDH b r0 r1 0 r3 = none := by rw [hpl3]; simp only [ne_eq, not_true_eq_false, false_and, if_false, Int.reduceEq, not_false_eq_true, and_true, and_false, true_and, if_true]; exact if_pos hq
      have HZ := zq (And.intro hB3 hz)
      clear hB3 hpl3 hz
      by_cases hq0 : r3 < 0
      ·have hd : decide (r3 < 0) = true := by simpa using hq0
       go_wp2_with fail
       repeat (go_quiet (fail); try go_wp2_with fail)
       go_ret2
       exact ⟨by repeat (first | exact HZ.out.1 | apply qA8), .inl ⟨rfl, HZ.out.2⟩⟩
      ·have hd : decide (r3 < 0) = false := by simpa using hq0
       have hq1 : (x.f2.length : Int) ≤ r3 := hq.resolve_left hq0
       have hd1 : decide ((x.f2.length : Int) ≤ r3) = true := by simpa using hq1
       go_wp2_with fail
       repeat (go_quiet (fail); try go_wp2_with fail)
       go_ret2
       exact ⟨by repeat (first | exact HZ.out.1 | apply qA8), .inl ⟨rfl, HZ.out.2⟩⟩
     ·have hq0 : ¬ r3 < 0 := fun h => hq (.inl h)
      have hq1 : ¬ (x.f2.length : Int) ≤ r3 := fun h => hq (.inr h)
      have hd : decide (r3 < 0) = false := by simpa using hq0
      have hd1 : decide ((x.f2.length : Int) ≤ r3) = false := by simpa using hq1
      obtain ⟨as_, D1, g1, rfl, hs0, hs1, hs2, hs3, hs4, hls1, his1⟩ := at_T79 hx r3 (by omega) (by omega)
      have e_ : qA3 x.f2 r3 = x.f2.getD r3.toNat z79 := by simp [qA3]
      rw [e_] at hs0 hs1 hs2 hs3 hs4 hls1 his1
      have hz : qDH b r0 r1 0 r3 = (if (x.f2.getD r3.toNat z79).f0 ≠ 0 ∨ (x.f2.getD r3.toNat z79).f2 = 1 then none else some ((x.f2.getD r3.toNat z79).f3, (x.f2.getD r3.toNat z79).f2)) := by rw [hpl3]; simp only [ne_eq, not_true_eq_false, false_and, if_false, Int.reduceEq, not_false_eq_true, and_true, and_false, true_and, if_true]; exact if_neg hq
      clear e_ hls1 his1
      generalize x.f2.getD r3.toNat z79 = s at *
      have HZ := zq (And.intro hB3 hz)
      clear hB3 hpl3 hz
      by_cases e0 : s.f0 = 0
      ·have hd2 : (s.f0 == 0) = true := by simpa using e0
       have hd3 : (s.f0 != 0) = false := by simpa using e0
       by_cases e2 : s.f2 = 1
       ·have hd4 : (s.f2 == 1) = true := by simpa using e2
        go_wp2_with fail
        repeat (go_quiet (fail); try go_wp2_with fail)
        go_ret2
        exact ⟨by repeat (first | exact HZ.out.1 | apply qA8), .inl ⟨rfl, by rw [HZ.out.2]; simp [e2]⟩⟩
       ·have hd4 : (s.f2 == 1) = false := by simpa using e2
        go_wp2_with fail
        repeat (go_quiet (fail); try go_wp2_with fail)
        go_ret2
        exact ⟨by repeat (first | exact HZ.out.1 | apply qA8), .inr ⟨_, _, _, rfl, by exact hs3, by rw [HZ.out.2]; simp [e0, e2], (by omega), k, y, HF.out.1, HF.out.2, .inr ⟨j, x, _, _, as_, _, .inl rfl, HG.out.1, HG.out.2.1, ⟨_, rfl, HG.out.2.2.1⟩, ⟨_, rfl, HG.out.2.2.2.1⟩, by first | omega | (simp; omega), rfl⟩⟩⟩
      ·have hd2 : (s.f0 == 0) = false := by simpa using e0
       have hd3 : (s.f0 != 0) = true := by simpa using e0
       go_wp2_with fail
       repeat (go_quiet (fail); try go_wp2_with fail)
       go_ret2
       exact ⟨by repeat (first | exact HZ.out.1 | apply qA8), .inl ⟨rfl, by rw [HZ.out.2]; simp [e0]⟩⟩
    ·by_cases e1 : r2 = 1
     ·subst e1
      have hg0 : ((1 : Int) != 0) = true := rfl
      have hg1 : ((1 : Int) != 1) = false := rfl
      have hx := hi3
      clear hi2 hi3
      by_cases hq : r3 < 0 ∨ ((x.f3.length : Nat) : Int) ≤ r3
      ·have hz : qDH b r0 r1 1 r3 = none := by rw [hpl3]; simp only [ne_eq, not_true_eq_false, false_and, if_false, Int.reduceEq, not_false_eq_true, and_true, and_false, true_and, if_true]; exact if_pos hq
       have HZ := zq (And.intro hB3 hz)
       clear hB3 hpl3 hz
       by_cases hq0 : r3 < 0
       ·have hd : decide (r3 < 0) = true := by simpa using hq0
        go_wp2_with fail
        repeat (go_quiet (fail); try go_wp2_with fail)
        go_ret2
        exact ⟨by repeat (first | exact HZ.out.1 | apply qA8), .inl ⟨rfl, HZ.out.2⟩⟩
       ·have hd : decide (r3 < 0) = false := by simpa using hq0
        have hq1 : (x.f3.length : Int) ≤ r3 := hq.resolve_left hq0
        have hd1 : decide ((x.f3.length : Int) ≤ r3) = true := by simpa using hq1
        go_wp2_with fail
        repeat (go_quiet (fail); try go_wp2_with fail)
        go_ret2
        exact ⟨by repeat (first | exact HZ.out.1 | apply qA8), .inl ⟨rfl, HZ.out.2⟩⟩
      ·have hq0 : ¬ r3 < 0 := fun h => hq (.inl h)
       have hq1 : ¬ (x.f3.length : Int) ≤ r3 := fun h => hq (.inr h)
       have hd : decide (r3 < 0) = false := by simpa using hq0
       have hd1 : decide ((x.f3.length : Int) ≤ r3) = false := by simpa using hq1
       obtain ⟨as_, D1, g1, rfl, hs0, hs1, hs2, hs3, hs4, hls1, his1⟩ := at_T79 hx r3 (by omega) (by omega)
       have e_ : qA3 x.f3 r3 = x.f3.getD r3.toNat z79 := by simp [qA3]
       rw [e_] at hs0 hs1 hs2 hs3 hs4 hls1 his1
       have hz : qDH b r0 r1 1 r3 = (if (x.f3.getD r3.toNat z79).f0 ≠ 0 ∨ (x.f3.getD r3.toNat z79).f2 = 1 then none else some ((x.f3.getD r3.toNat z79).f3, (x.f3.getD r3.toNat z79).f2)) := by rw [hpl3]; simp only [ne_eq, not_true_eq_false, false_and, if_false, Int.reduceEq, not_false_eq_true, and_true, and_false, true_and, if_true]; exact if_neg hq
       clear e_ hls1 his1
       generalize x.f3.getD r3.toNat z79 = s at *
       have HZ := zq (And.intro hB3 hz)
       clear hB3 hpl3 hz
       by_cases e0 : s.f0 = 0
       ·have hd2 : (s.f0 == 0) = true := by simpa using e0
        have hd3 : (s.f0 != 0) = false := by simpa using e0
        by_cases e2 : s.f2 = 1
        ·have hd4 : (s.f2 == 1) = true := by simpa using e2
         go_wp2_with fail
         repeat (go_quiet (fail); try go_wp2_with fail)
         go_ret2
         exact ⟨by repeat (first | exact HZ.out.1 | apply qA8), .inl ⟨rfl, by rw [HZ.out.2]; simp [e2]⟩⟩
        ·have hd4 : (s.f2 == 1) = false := by simpa using e2
         go_wp2_with fail
         repeat (go_quiet (fail); try go_wp2_with fail)
         go_ret2
         exact ⟨by repeat (first | exact HZ.out.1 | apply qA8), .inr ⟨_, _, _, rfl, by exact hs3, by rw [HZ.out.2]; simp [e0, e2], (by omega), k, y, HF.out.1, HF.out.2, .inr ⟨j, x, _, _, as_, _, .inr rfl, HG.out.1, HG.out.2.1, ⟨_, rfl, HG.out.2.2.1⟩, ⟨_, rfl, HG.out.2.2.2.2⟩, by first | omega | (simp; omega), rfl⟩⟩⟩
       ·have hd2 : (s.f0 == 0) = false := by simpa using e0
        have hd3 : (s.f0 != 0) = true := by simpa using e0
        go_wp2_with fail
        repeat (go_quiet (fail); try go_wp2_with fail)
        go_ret2
        exact ⟨by repeat (first | exact HZ.out.1 | apply qA8), .inl ⟨rfl, by rw [HZ.out.2]; simp [e0]⟩⟩
     ·have hz : qDH b r0 r1 r2 r3 = none := by rw [hpl3]; exact if_pos ⟨e0, e1⟩
      have hg0 : (r2 == 0) = false := by simpa using e0
      have hg1 : (r2 == 1) = false := by simpa using e1
      have hg2 : (r2 != 0) = true := by simpa using e0
      have hg3 : (r2 != 1) = true := by simpa using e1
      clear hi2 hi3 hpl3
      have HZ := zq (And.intro hB3 hz)
      clear hB3 hz
      go_wp2_with fail
      repeat (go_quiet (fail); try go_wp2_with fail)
      go_ret2
      exact ⟨by repeat (first | exact HZ.out.1 | apply qA8), .inl ⟨rfl, HZ.out.2⟩⟩
   ·have hB3 := qA7 HK.out.2.2.2.1 hb3
    have hpl3 := HK.out.2.2.2.2
    rw [hf3, Option.bind_none] at hpl3
    have HZ := zq (And.intro hB3 hpl3)
    have hblk3 := (hb3.block _ (Gen.qAT HK.out.2.2.1)).trans HK.out.2.2.1
    have hr2 : W3.cell? ⟨w.heap.size, 2, none⟩ = some (.int .i64 r2) := (qA1 hblk3 2).trans rfl
    clear HI5 HK hB3 hpl3 hblk3
    go_wp2_with fail
    repeat (go_quiet (fail); try go_wp2_with fail)
    go_ret2
    exact ⟨by repeat (first | exact HZ.out.1 | apply qA8), .inl ⟨rfl, HZ.out.2⟩⟩
 ·have hB2 := qA7 HC.out.2.1 hb
  clear HI
  go_wp2_with fail
  go_ret2
  exact ⟨hB2, .inl ⟨rfl, by unfold qDH; rw [hf]; rfl⟩⟩
end
end Go.Proofs.YtfnejdbjekkadaaGreat.PRatePuts
end
section
namespace Go.Inv
variable {P : Program} {md : Region.Mode} {ops : Array Oper} {Q : Exit → Act → World → Prop}
theorem ready_iff {l : Array Bool} {i : Nat} : i ∈ Region.ready md ops l ↔ i < ops.size ∧ l.getD i true = false ∧ ((ops[i]?).map (·.after.all fun e => !Region.binds md e || l.getD e.on false)).getD false = true := by
 unfold Region.ready
 rw [List.mem_filter, List.mem_range, Bool.and_eq_true, Bool.not_eq_true']
theorem qFL {l : Array Bool} {i k : Nat} (hi : i < l.size) : (l.setIfInBounds i true).getD k false = if k = i then true else l.getD k false := by
 simp only [Array.getD_eq_getD_getElem?, Array.getElem?_setIfInBounds]
 by_cases h : k = i
 ·subst h
  simp [hi]
 ·rw [if_neg h, if_neg (fun e => h e.symm)]
theorem bo {l : Array Bool} {i : Nat} (hi : i < l.size) (k : Nat) (hk : ¬ k = i := by decide) : (l.setIfInBounds i true).getD k false = l.getD k false := by rw [qFL hi, if_neg hk]
theorem qBA {l : Array Bool} {i k : Nat} (hi : i < l.size) (h : l.getD k false = true) : (l.setIfInBounds i true).getD k false = true := by
 rw [qFL hi]
 split
 ·rfl
 ·exact h
theorem qDA {l : Array Bool} {i : Nat} (hi : i < l.size) (h : l.getD i true = false) : l.getD i false = false := by
 simp only [Array.getD_eq_getD_getElem?, Array.getElem?_eq_getElem hi, Option.getD_some] at h ⊢
 exact h
theorem wpAny_inv {I : Array Bool → Act → World → Prop}
  (hstep : ∀ l a w i, i ∈ Region.ready md ops l → l.size = ops.size → I l a w → wpOp P ops Q i (I (l.setIfInBounds i true)) a w)
  (hend : ∀ l a w, Region.ready md ops l = [] → l.size = ops.size → I l a w → Q .normal a w) :
  ∀ (fuel : Nat) (l : Array Bool) (a : Act) (w : World), l.size = ops.size → l.toList.count false ≤ fuel → I l a w → wpAny P md ops Q fuel l a w
 | 0, l, a, w, hs, hc, hI => by
  have hn : Region.ready md ops l = [] := by
   rw [List.eq_nil_iff_forall_not_mem]
   intro i hi
   obtain ⟨h1, h2, _⟩ := ready_iff.1 hi
   have h3 := qDA (hs ▸ h1) h2
   have hm : false ∈ l.toList := by
    have h4 : i < l.size := hs ▸ h1
    simp only [Array.getD_eq_getD_getElem?, Array.getElem?_eq_getElem h4, Option.getD_some] at h3
    rw [← h3]
    exact Array.mem_toList_iff.2 (Array.getElem_mem h4)
   exact absurd (List.count_pos_iff.2 hm) (by omega)
  exact ⟨hn, hend l a w hn hs hI⟩
 | fuel + 1, l, a, w, hs, hc, hI => by
  refine ⟨fun hn => hend l a w hn hs hI, fun i hi => wpOp_mono (fun a' w' h => ?_) (hstep l a w i hi hs hI)⟩
  obtain ⟨h1, h2, _⟩ := ready_iff.1 hi
  have h4 : i < l.size := hs ▸ h1
  have h3 := qDA h4 h2
  refine wpAny_inv hstep hend fuel _ a' w' (by simpa using hs) ?_ h
  have h5 : l.toList[i]'(by simpa using h4) = false := by
   simp only [Array.getD_eq_getD_getElem?, Array.getElem?_eq_getElem h4, Option.getD_some] at h3
   simpa using h3
  have h6 := List.count_pos_iff.2 (h5 ▸ List.getElem_mem (l := l.toList) (n := i) (by simpa using h4))
  rw [Array.toList_setIfInBounds, List.count_set (by simpa using h4), h5]
  change List.count false l.toList - 1 + 0 ≤ fuel
  omega
theorem qCQ {l : Array Bool} (hn : Region.ready md ops l = []) (hs : l.size = ops.size) {i : Nat} (hi : i < ops.size) (hd : ((ops[i]?).map (·.after.all fun e => !Region.binds md e || l.getD e.on false)).getD false = true) : l.getD i false = true := by
 cases hb : l.getD i false with
 | true => rfl
 | false =>
  have h1 : l.getD i true = false := by
   have h4 : i < l.size := hs ▸ hi
   simp only [Array.getD_eq_getD_getElem?, Array.getElem?_eq_getElem h4, Option.getD_some] at hb ⊢
   exact hb
  have h2 := ready_iff.2 ⟨hi, h1, hd⟩
  rw [hn] at h2
  cases h2
theorem qE7 {i : Nat} {o : Oper} {K : Act → World → Prop} {a : Act} {w : World} (ho : ops[i]? = some o) (hg : o.guard = none) (h : o.wp P a w K Q) : wpOp P ops Q i K a w := by
 unfold wpOp
 simp only [ho, Region.wanted, hg, if_true]
 exact .inl h
theorem qEP {o : Oper} {K : Act → World → Prop} {a : Act} {w w' : World} {v : Value} (hr : (execOp a.eval o).run P w = .ok (.value v) w') (h : K (a.put o.dst v) w') : o.wp P a w K Q := by
 unfold Oper.wp
 rw [hr]
 exact h
theorem skip_step {o : Oper} {K : Act → World → Prop} {a : Act} {w w' : World} (hr : (execOp a.eval o).run P w = .ok .skip w') (h : K (a.put o.dst undef) w') : o.wp P a w K Q := by
 unfold Oper.wp
 rw [hr]
 exact h
theorem put_same {a : Act} {d : Nat} {v : Value} (h : d < a.tmps.size) : (a.put (some d) v).eval (.tmp d) = v := by
 simp [Act.put, Act.eval, Array.getD_eq_getD_getElem?, h]
theorem qB2 {a : Act} {d d' : Nat} {v : Value} (h : d ≠ d') : (a.put (some d) v).eval (.tmp d') = a.eval (.tmp d') := Act.eval_put fun e he hx => by
 injection he with he
 injection hx with hx
 exact h (he.trans hx.symm)
def Slot (k d : Nat) (v : Value) (l : Array Bool) (a : Act) : Prop := l.getD k false = true → a.eval (.tmp d) = v
theorem Slot.same {k d : Nat} {v : Value} {l : Array Bool} {a : Act} (h : d < a.tmps.size) : Slot k d v l (a.put (some d) v) := fun _ => put_same h
theorem Slot.other {i k d d' : Nat} {u v : Value} {l : Array Bool} {a : Act} (h : Slot k d v l a) (hi : i < l.size) (hk : k ≠ i) (hd : d' ≠ d) : Slot k d v (l.setIfInBounds i true) (a.put (some d') u) := fun hb => by
 rw [qFL hi, if_neg hk] at hb
 rw [qB2 hd]
 exact h hb
theorem Slot.still {i k d : Nat} {u v : Value} {l : Array Bool} {a : Act} (h : Slot k d v l a) (hi : i < l.size) (hk : k ≠ i) : Slot k d v (l.setIfInBounds i true) (a.put none u) := fun hb => by
 rw [qFL hi, if_neg hk] at hb
 exact h hb
end Go.Inv
end
section
namespace Go.Proofs.YtfnejdbjekkadaaGreat.PRatePuts
noncomputable section
open Go.RowKit Go.Proofs.YtfnejdbjekkadaaGreatW.PrintWords Go.Proofs.YtfnejdbjekkadaaGreatW.PrintLast Go.Proofs.YtfnejdbjekkadaaGreatW.PrintMore
set_option maxHeartbeats 8000000
set_option maxRecDepth 100000
theorem info25x : (Tryz.prog.info? 25).map (fun i => (i.zero, i.size, i.bytes)) = some (some (.agg #[.string ⟨#[]⟩, .string ⟨#[]⟩, .int .i64 0, .int .i64 0]), 4, 48) := by kernel_rfl
theorem info32x : (Tryz.prog.info? 69).map (fun i => (i.zero, i.size, i.bytes)) = some (some (.agg #[.int .i64 0, .int .i64 0]), 2, 16) := by kernel_rfl
def enc25 (x : S25) : List Value := [.string x.f0, .string x.f1, .int .i64 x.f2, .int .i64 x.f3]
def enc32 (x : S69) : List Value := [.int .i64 x.f0, .int .i64 x.f1]
theorem app25 (W : World) (base : Nat) (v : Value) (R : List S25) (HO : W.ownsRow base 25 4 v R.length (R.flatMap enc25)) (g0 : Nat) (x : S25) (hblk : W.heap[g0]? = some (.cells #[.string x.f0, .string x.f1, .int .i64 x.f2, .int .i64 x.f3] 25 (0, 0))) (hbase : base ≤ W.heap.size) (hl : (R.length + 1) * 48 ≤ 140737488355328) :
  ∃ v1 w1, (Builtin.append_ #[30, 30] 30 #[v, .slice (some ⟨g0, 0, none⟩) 1 1]).run Tryz.prog W = .ok v1 w1 ∧ w1.ownsRow base 25 4 v1 (R ++ [x]).length ((R ++ [x]).flatMap enc25) ∧ W.grownBy w1 v.ownBlock ∧ (v1.ownBlock = v.ownBlock ∨ v1.ownBlock = some W.heap.size) := by
 obtain ⟨i0, hi, hz0, hz1, hz2⟩ := info_parts info25x
 obtain ⟨v1, w1, hr, h2, h3, _, h5⟩ := run_append_own_at (P := Tryz.prog) W base 30 30 25 i0 (.agg #[.string ⟨#[]⟩, .string ⟨#[]⟩, .int .i64 0, .int .i64 0]) 4 48 Tryz.underlying30 hi hz0 hz1 hz2 rfl (by decide) v R.length (R.flatMap enc25) HO ⟨g0, 0, none⟩ 1 1 (enc25 x) rfl (World.news_of_block hblk)
  (fun q hq => by simp [enc25] at hq; rcases hq with rfl | rfl | rfl | rfl <;> rfl) (by simp only [maxLen]; omega) hl hbase
 exact ⟨v1, w1, hr, by rw [List.flatMap_append, List.length_append]; simpa using h2, h3, h5⟩
theorem app32 (W : World) (base : Nat) (v : Value) (R : List S69) (HO : W.ownsRow base 69 2 v R.length (R.flatMap enc32)) (g0 : Nat) (x : S69) (hblk : W.heap[g0]? = some (.cells #[.int .i64 x.f0, .int .i64 x.f1] 69 (0, 0))) (hbase : base ≤ W.heap.size) (hl : (R.length + 1) * 16 ≤ 140737488355328) :
  ∃ v1 w1, (Builtin.append_ #[31, 31] 31 #[v, .slice (some ⟨g0, 0, none⟩) 1 1]).run Tryz.prog W = .ok v1 w1 ∧ w1.ownsRow base 69 2 v1 (R ++ [x]).length ((R ++ [x]).flatMap enc32) ∧ W.grownBy w1 v.ownBlock ∧ (v1.ownBlock = v.ownBlock ∨ v1.ownBlock = some W.heap.size) := by
 obtain ⟨i0, hi, hz0, hz1, hz2⟩ := info_parts info32x
 obtain ⟨v1, w1, hr, h2, h3, _, h5⟩ := run_append_own_at (P := Tryz.prog) W base 31 31 69 i0 (.agg #[.int .i64 0, .int .i64 0]) 2 16 Tryz.underlying31 hi hz0 hz1 hz2 rfl (by decide) v R.length (R.flatMap enc32) HO ⟨g0, 0, none⟩ 1 1 (enc32 x) rfl (World.news_of_block hblk)
  (fun q hq => by simp [enc32] at hq; rcases hq with rfl | rfl <;> rfl) (by simp only [maxLen]; omega) hl hbase
 exact ⟨v1, w1, hr, by rw [List.flatMap_append, List.length_append]; simpa using h2, h3, h5⟩
def Kp (K : List (Nat × Obj)) (bo bv : Nat) (vo vv : Value) (w : World) : Prop := ∀ p, p ∈ K → w.heap[p.1]? = some p.2 ∧ p.1 ≠ bo ∧ p.1 ≠ bv ∧ vo.ownBlock ≠ some p.1 ∧ vv.ownBlock ≠ some p.1
structure PM (base : Nat) (W : World) (bo bv : Nat) (K : List (Nat × Obj)) (L : List S25) (V : List S69) : Prop where
 lo : base ≤ bo
 lv : base ≤ bv
 ne : bo ≠ bv
 own : ∃ vo vv, W.heap[bo]? = some (.cells #[vo] 30 (0, 0)) ∧ W.heap[bv]? = some (.cells #[vv] 31 (0, 0)) ∧ W.ownsRow base 25 4 vo L.length (L.flatMap enc25) ∧ W.ownsRow base 69 2 vv V.length (V.flatMap enc32) ∧
  vo.ownBlock ≠ some bo ∧ vo.ownBlock ≠ some bv ∧ vv.ownBlock ≠ some bo ∧ vv.ownBlock ≠ some bv ∧ (∀ g, vo.ownBlock = some g → vv.ownBlock ≠ some g) ∧ Kp K bo bv vo vv W
structure PW (base bo bv gX : Nat) (K : List (Nat × Obj)) (x : S25) (w0 : World) (L : List S25) (V : List S69) (vo vv co cv : Value) (w : World) : Prop where
 bd : Below base w0 w
 hbase : base ≤ w.heap.size
 hbo : w.heap[bo]? = some (.cells #[co] 30 (0, 0))
 hbv : w.heap[bv]? = some (.cells #[cv] 31 (0, 0))
 hX : w.heap[gX]? = some (.cells #[.string x.f0, .string x.f1, .int .i64 x.f2, .int .i64 x.f3] 25 (0, 0))
 ro : w.ownsRow base 25 4 vo L.length (L.flatMap enc25)
 rv : w.ownsRow base 69 2 vv V.length (V.flatMap enc32)
 o1 : vo.ownBlock ≠ some bo
 o2 : vo.ownBlock ≠ some bv
 o3 : vo.ownBlock ≠ some gX
 v1 : vv.ownBlock ≠ some bo
 v2 : vv.ownBlock ≠ some bv
 v3 : vv.ownBlock ≠ some gX
 ov : ∀ g, vo.ownBlock = some g → vv.ownBlock ≠ some g
 kp : Kp K bo bv vo vv w
theorem own_far {W : World} {v : Value} {base n : Nat} {e : TypeId} {sz : Nat} {xs : List Value} (h : W.ownsRow base e sz v n xs) : v.ownBlock ≠ some W.heap.size := fun e => Nat.lt_irrefl _ (qD6 h _ e)
theorem below_grown {base : Nat} {w0 w w1 : World} {row : Option Nat} (hb : Below base w0 w) (hg : w.grownBy w1 row) (hr : ∀ g, row = some g → base ≤ g) (hs : base ≤ w.heap.size) : Below base w0 w1 :=
 hb.trans ⟨hg.os, hg.tape, hg.output, hg.size, fun k hk => hg.block k (by omega) (fun e => by have := hr k e.symm; omega)⟩
theorem PW.alloc {base bo bv gX : Nat} {K : List (Nat × Obj)} {x : S25} {w0 : World} {L : List S25} {V : List S69} {vo vv co cv : Value} {w : World} (h : PW base bo bv gX K x w0 L V vo vv co cv w) (o : Obj) : PW base bo bv gX K x w0 L V vo vv co cv (w.alloc o) :=
 {bd := below_grown h.bd (World.grownBy_alloc _ _ none) (by simp) h.hbase
  hbase := Nat.le_trans h.hbase (by simp)
  hbo := qBV h.hbo _
  hbv := qBV h.hbv _
  hX := qBV h.hX _
  ro := h.ro.kept (World.grownBy_alloc _ _ none) (by cases vo.ownBlock <;> simp)
  rv := h.rv.kept (World.grownBy_alloc _ _ none) (by cases vv.ownBlock <;> simp)
  o1 := h.o1, o2 := h.o2, o3 := h.o3, v1 := h.v1, v2 := h.v2, v3 := h.v3, ov := h.ov, kp := fun p hp => ⟨qBV (h.kp p hp).1 _, (h.kp p hp).2⟩ }
theorem PW.drew {base bo bv gX : Nat} {K : List (Nat × Obj)} {x : S25} {w0 : World} {L : List S25} {V : List S69} {vo vv co cv : Value} {w : World} (h : PW base bo bv gX K x w0 L V vo vv co cv w) : PW base bo bv gX K x w0 L V vo vv co cv w.drew :=
 { bd := h.bd.drew, hbase := h.hbase, hbo := h.hbo, hbv := h.hbv, hX := h.hX, ro := h.ro, rv := h.rv, o1 := h.o1, o2 := h.o2, o3 := h.o3, v1 := h.v1, v2 := h.v2, v3 := h.v3, ov := h.ov, kp := h.kp }
theorem PW.put25 {base bo bv gX : Nat} {K : List (Nat × Obj)} {x : S25} {w0 : World} {L : List S25} {V : List S69} {vo vv co cv : Value} {w : World} (h : PW base bo bv gX K x w0 L V vo vv co cv w) {v1 : Value} {w1 : World} {L1 : List S25} (hro : w1.ownsRow base 25 4 v1 L1.length (L1.flatMap enc25)) (hg : w.grownBy w1 vo.ownBlock) (ho : v1.ownBlock = vo.ownBlock ∨ v1.ownBlock = some w.heap.size) : PW base bo bv gX K x w0 L1 V v1 vv co cv w1 := by
 have hl1 := qCR h.hbo
 have hl2 := qCR h.hbv
 have hl3 := qCR h.hX
 have hne : ∀ g, g < w.heap.size → vo.ownBlock ≠ some g → v1.ownBlock ≠ some g := fun g hg1 hg2 e => by
  rcases ho with ho | ho
  ·exact hg2 (ho ▸ e)
  ·rw [ho] at e; injection e with e; omega
 exact
 {bd := below_grown h.bd hg (fun g hg => qBR h.ro g hg) h.hbase
  hbase := Nat.le_trans h.hbase hg.size
  hbo := qAF h.hbo hg (fun e => h.o1 e.symm)
  hbv := qAF h.hbv hg (fun e => h.o2 e.symm)
  hX := qAF h.hX hg (fun e => h.o3 e.symm)
  ro := hro
  rv := h.rv.kept hg (by cases hv : vv.ownBlock with
   | none => exact .inl rfl
   | some g => exact .inr fun e => h.ov g e.symm hv)
  o1 := hne _ hl1 h.o1, o2 := hne _ hl2 h.o2, o3 := hne _ hl3 h.o3, v1 := h.v1, v2 := h.v2, v3 := h.v3
  kp := fun p hp => have q := h.kp p hp; ⟨qAF q.1 hg (fun e => q.2.2.2.1 e.symm), q.2.1, q.2.2.1, hne _ (qCR q.1) q.2.2.2.1, q.2.2.2.2⟩
  ov := fun g e e' => by
   rcases ho with ho | ho
   ·exact h.ov g (ho ▸ e) e'
   ·rw [ho] at e; injection e with e; exact own_far h.rv (e ▸ e') }
theorem PW.put32 {base bo bv gX : Nat} {K : List (Nat × Obj)} {x : S25} {w0 : World} {L : List S25} {V : List S69} {vo vv co cv : Value} {w : World} (h : PW base bo bv gX K x w0 L V vo vv co cv w) {u1 : Value} {w1 : World} {V1 : List S69} (hrv : w1.ownsRow base 69 2 u1 V1.length (V1.flatMap enc32)) (hg : w.grownBy w1 vv.ownBlock) (ho : u1.ownBlock = vv.ownBlock ∨ u1.ownBlock = some w.heap.size) : PW base bo bv gX K x w0 L V1 vo u1 co cv w1 := by
 have hl1 := qCR h.hbo
 have hl2 := qCR h.hbv
 have hl3 := qCR h.hX
 have hne : ∀ g, g < w.heap.size → vv.ownBlock ≠ some g → u1.ownBlock ≠ some g := fun g hg1 hg2 e => by
  rcases ho with ho | ho
  ·exact hg2 (ho ▸ e)
  ·rw [ho] at e; injection e with e; omega
 exact
 {bd := below_grown h.bd hg (fun g hg => qBR h.rv g hg) h.hbase
  hbase := Nat.le_trans h.hbase hg.size
  hbo := qAF h.hbo hg (fun e => h.v1 e.symm)
  hbv := qAF h.hbv hg (fun e => h.v2 e.symm)
  hX := qAF h.hX hg (fun e => h.v3 e.symm)
  ro := h.ro.kept hg (by cases hv : vo.ownBlock with
   | none => exact .inl rfl
   | some g => exact .inr fun e => h.ov g hv e.symm)
  rv := hrv
  o1 := h.o1, o2 := h.o2, o3 := h.o3, v1 := hne _ hl1 h.v1, v2 := hne _ hl2 h.v2, v3 := hne _ hl3 h.v3
  kp := fun p hp => have q := h.kp p hp; ⟨qAF q.1 hg (fun e => q.2.2.2.2 e.symm), q.2.1, q.2.2.1, q.2.2.2.1, hne _ (qCR q.1) q.2.2.2.2⟩
  ov := fun g e e' => by
   rcases ho with ho | ho
   ·exact h.ov g e (ho ▸ e')
   ·rw [ho] at e'; injection e' with e'; exact own_far h.ro (e' ▸ e) }
theorem PW.set28 {base bo bv gX : Nat} {K : List (Nat × Obj)} {x : S25} {w0 : World} {L : List S25} {V : List S69} {vo vv co cv : Value} {w : World} (h : PW base bo bv gX K x w0 L V vo vv co cv w) (lo : base ≤ bo) (ne : bo ≠ bv) (nX : bo ≠ gX) (u : Value) : PW base bo bv gX K x w0 L V vo vv u cv (w.setCell ⟨bo, 0, none⟩ u) :=
 have hg := grownBy_setCell' w bo u
 {bd := below_grown h.bd hg (fun g hg => by injection hg with hg; omega) h.hbase
  hbase := Nat.le_trans h.hbase hg.size
  hbo := qC2 h.hbo 0 u rfl
  hbv := qCJ h.hbv ne.symm _
  hX := qCJ h.hX nX.symm _
  kp := fun p hp => have q := h.kp p hp; ⟨qAF q.1 hg (fun e => q.2.1 (zy e)), q.2⟩
  ro := h.ro.kept hg (.inr h.o1)
  rv := h.rv.kept hg (.inr h.v1)
  o1 := h.o1, o2 := h.o2, o3 := h.o3, v1 := h.v1, v2 := h.v2, v3 := h.v3, ov := h.ov }
theorem PW.set35 {base bo bv gX : Nat} {K : List (Nat × Obj)} {x : S25} {w0 : World} {L : List S25} {V : List S69} {vo vv co cv : Value} {w : World} (h : PW base bo bv gX K x w0 L V vo vv co cv w) (lv : base ≤ bv) (ne : bo ≠ bv) (nX : bv ≠ gX) (u : Value) : PW base bo bv gX K x w0 L V vo vv co u (w.setCell ⟨bv, 0, none⟩ u) :=
 have hg := grownBy_setCell' w bv u
 {bd := below_grown h.bd hg (fun g hg => by injection hg with hg; omega) h.hbase
  hbase := Nat.le_trans h.hbase hg.size
  hbo := qCJ h.hbo ne _
  hbv := qC2 h.hbv 0 u rfl
  hX := qCJ h.hX nX.symm _
  kp := fun p hp => have q := h.kp p hp; ⟨qAF q.1 hg (fun e => q.2.2.1 (zy e)), q.2⟩
  ro := h.ro.kept hg (.inr h.o2)
  rv := h.rv.kept hg (.inr h.v2)
  o1 := h.o1, o2 := h.o2, o3 := h.o3, v1 := h.v1, v2 := h.v2, v3 := h.v3, ov := h.ov }
theorem app_rn {o : Oper} {a : Act} {W w1 : World} {v1 : Value} (s x : Operand) (t : TypeId) (ho : o.op = .call { callee := .builtin .append, args := #[s, x], argTypes := #[t, t] }) (hty : o.type = t)
  (v u : Value) (hs : a.eval s = v) (hx : a.eval x = u) (hr : (Builtin.append_ #[t, t] t #[v, u]).run Tryz.prog W = .ok v1 w1) : (execOp a.eval o).run Tryz.prog W = .ok (.value v1) w1 := by
 unfold execOp
 simp only [ho, resolve, invoke, builtin, Sem.run_bind, Sem.run_pure, Result.andThen_ok, List.map_toArray, List.map_cons, List.map_nil, hs, hx, hty, hr]
theorem store_run {o : Oper} {a : Act} {W w1 : World} (p x : Operand) (t : TypeId) (ho : o.op = .store t p x) (v u : Value) (hp : a.eval p = v) (hx : a.eval x = u) (hr : (Instr.storeAt t v u).run Tryz.prog W = .ok () w1) : (execOp a.eval o).run Tryz.prog W = .ok .skip w1 := by
 unfold execOp
 simp only [ho, hp, hx, Sem.run_bind, Sem.run_pure, Result.andThen_ok, hr]
def One (k d : Nat) (cs : Array Value) (t : TypeId) (bo bv : Nat) (vo vv : Value) (l : Array Bool) (a : Act) (w : World) : Prop :=
 l.getD k false = true → ∃ g, a.eval (.tmp d) = .slice (some ⟨g, 0, none⟩) 1 1 ∧ w.heap[g]? = some (.cells cs t (0, 0)) ∧ g ≠ bo ∧ g ≠ bv ∧ vo.ownBlock ≠ some g ∧ vv.ownBlock ≠ some g
structure PI (base bo bv gX : Nat) (K : List (Nat × Obj)) (x : S25) (y : S69) (w0 : World) (L : List S25) (V : List S69) (vo vv : Value) (l : Array Bool) (a : Act) (w : World) : Prop where
 sz : l.size = 12
 tz : a.tmps.size = 18
 df : a.defers = []
 t1 : a.eval (.tmp 1) = .int .i64 y.f0
 t2 : a.eval (.tmp 2) = .int .i64 y.f1
 t3 : a.eval (.tmp 3) = .pointer (some ⟨bo, 0, none⟩)
 t4 : a.eval (.tmp 4) = .pointer (some ⟨bv, 0, none⟩)
 t5 : a.eval (.tmp 5) = .pointer (some ⟨gX, 0, none⟩)
 i10 : l.getD 10 false = true → l.getD 0 false = true ∧ l.getD 3 false = true
 i11 : l.getD 11 false = true → l.getD 4 false = true ∧ l.getD 9 false = true
 s0 : Inv.Slot 0 8 vo l a
 s1 : Inv.Slot 1 9 (.agg #[.string x.f0, .string x.f1, .int .i64 x.f2, .int .i64 x.f3]) l a
 s4 : Inv.Slot 4 12 vv l a
 s5 : Inv.Slot 5 13 (.int .i64 y.f0) l a
 s6 : Inv.Slot 6 14 (.int .i64 y.f1) l a
 s7 : Inv.Slot 7 15 (.agg #[.int .i64 y.f0, .int .i64 y.f1]) l a
 W : ∃ L1 V1 vo1 vv1 co cv, PW base bo bv gX K x w0 L1 V1 vo1 vv1 co cv w ∧
  (if l.getD 3 false = true then L1 = L ++ [x] ∧ a.eval (.tmp 11) = vo1 else L1 = L ∧ vo1 = vo) ∧
  (if l.getD 9 false = true then V1 = V ++ [y] ∧ a.eval (.tmp 17) = vv1 else V1 = V ∧ vv1 = vv) ∧
  co = (if l.getD 10 false = true then vo1 else vo) ∧ cv = (if l.getD 11 false = true then vv1 else vv) ∧
  One 2 10 #[.string x.f0, .string x.f1, .int .i64 x.f2, .int .i64 x.f3] 25 bo bv vo1 vv1 l a w ∧ One 8 16 #[.int .i64 y.f0, .int .i64 y.f1] 69 bo bv vo1 vv1 l a w
theorem PI.nx {base bo bv gX : Nat} {K : List (Nat × Obj)} {x : S25} {y : S69} {w0 : World} {L : List S25} {V : List S69} {vo vv : Value} {l : Array Bool} {a : Act} {w w' : World} {i d : Nat} {v : Value} (h : PI base bo bv gX K x y w0 L V vo vv l a w) (hi10 : (l.setIfInBounds i true).getD 10 false = true → (l.setIfInBounds i true).getD 0 false = true ∧ (l.setIfInBounds i true).getD 3 false = true) (hi11 : (l.setIfInBounds i true).getD 11 false = true → (l.setIfInBounds i true).getD 4 false = true ∧ (l.setIfInBounds i true).getD 9 false = true) (hs0 : Inv.Slot 0 8 vo (l.setIfInBounds i true) (a.put (some d) v)) (hs1 : Inv.Slot 1 9 (.agg #[.string x.f0, .string x.f1, .int .i64 x.f2, .int .i64 x.f3]) (l.setIfInBounds i true) (a.put (some d) v)) (hs4 : Inv.Slot 4 12 vv (l.setIfInBounds i true) (a.put (some d) v)) (hs5 : Inv.Slot 5 13 (.int .i64 y.f0) (l.setIfInBounds i true) (a.put (some d) v)) (hs6 : Inv.Slot 6 14 (.int .i64 y.f1) (l.setIfInBounds i true) (a.put (some d) v)) (hs7 : Inv.Slot 7 15 (.agg #[.int .i64 y.f0, .int .i64 y.f1]) (l.setIfInBounds i true) (a.put (some d) v)) (hW : ∃ L1 V1 vo1 vv1 co cv, PW base bo bv gX K x w0 L1 V1 vo1 vv1 co cv w' ∧
  (if (l.setIfInBounds i true).getD 3 false = true then L1 = L ++ [x] ∧ (a.put (some d) v).eval (.tmp 11) = vo1 else L1 = L ∧ vo1 = vo) ∧
  (if (l.setIfInBounds i true).getD 9 false = true then V1 = V ++ [y] ∧ (a.put (some d) v).eval (.tmp 17) = vv1 else V1 = V ∧ vv1 = vv) ∧
  co = (if (l.setIfInBounds i true).getD 10 false = true then vo1 else vo) ∧ cv = (if (l.setIfInBounds i true).getD 11 false = true then vv1 else vv) ∧
  One 2 10 #[.string x.f0, .string x.f1, .int .i64 x.f2, .int .i64 x.f3] 25 bo bv vo1 vv1 (l.setIfInBounds i true) (a.put (some d) v) w' ∧ One 8 16 #[.int .i64 y.f0, .int .i64 y.f1] 69 bo bv vo1 vv1 (l.setIfInBounds i true) (a.put (some d) v) w') (hd : 5 < d := by decide) : PI base bo bv gX K x y w0 L V vo vv (l.setIfInBounds i true) (a.put (some d) v) w' :=
 { sz := by simpa using h.sz, tz := by simpa [Act.put] using h.tz, df := h.df, t1 := (Inv.qB2 (by omega)).trans h.t1, t2 := (Inv.qB2 (by omega)).trans h.t2, t3 := (Inv.qB2 (by omega)).trans h.t3, t4 := (Inv.qB2 (by omega)).trans h.t4, t5 := (Inv.qB2 (by omega)).trans h.t5, i10 := hi10, i11 := hi11, s0 := hs0, s1 := hs1, s4 := hs4, s5 := hs5, s6 := hs6, s7 := hs7, W := hW }
set_option maxHeartbeats 4000000 in
set_option maxHeartbeats 4000000 in
set_option maxRecDepth 100000 in
theorem put.walk (base bo bv : Nat) (K : List (Nat × Obj)) (L : List S25) (V : List S69) (x : S25) (y : S69) (w0 W : World) (HM : PM base W bo bv K L V) (hB : Below base w0 W) (hbase : base ≤ W.heap.size) (hl : (L.length + 1) * 48 ≤ 140737488355328) (hv : (V.length + 1) * 16 ≤ 140737488355328) :
  Calls Tryz.prog 23 #[.agg #[.string x.f0, .string x.f1, .int .i64 x.f2, .int .i64 x.f3], .int .i64 y.f0, .int .i64 y.f1, .pointer (some ⟨bo, 0, none⟩), .pointer (some ⟨bv, 0, none⟩)] W fun e W' => e = .returned (.tuple #[]) ∧ PM base W' bo bv K (L ++ [x]) (V ++ [y]) ∧ Below base w0 W' := by
 obtain ⟨lo, lv, ne, vo, vv, hbo, hbv, ho, hv_, n1, n2, n3, n4, n5, n6⟩ := HM
 have nX : bo ≠ W.heap.size := Nat.ne_of_lt (qCR hbo)
 have nXv : bv ≠ W.heap.size := Nat.ne_of_lt (qCR hbv)
 have hN := heap_alloc_new W (.cells #[.string x.f0, .string x.f1, .int .i64 x.f2, .int .i64 x.f3] 25)
 have hP : PW base bo bv W.heap.size K x w0 L V vo vv vo vv (W.alloc (.cells #[.string x.f0, .string x.f1, .int .i64 x.f2, .int .i64 x.f3] 25)) :=
  {bd := below_grown hB (World.grownBy_alloc _ _ none) (by simp) hbase
   hbase := Nat.le_trans hbase (by simp)
   hbo := qBV hbo _, hbv := qBV hbv _, hX := hN
   ro := ho.kept (World.grownBy_alloc _ _ none) (by cases vo.ownBlock <;> simp)
   rv := hv_.kept (World.grownBy_alloc _ _ none) (by cases vv.ownBlock <;> simp)
   o1 := n1, o2 := n2, o3 := own_far ho, v1 := n3, v2 := n4, v3 := own_far hv_, ov := n5, kp := fun p hp => ⟨qBV (n6 p hp).1 _, (n6 p hp).2⟩ }
 go_enter Tryz.func23, Tryz.ntmps23
 go_wp2_with fail
 generalize hgX : W.heap.size = gX at *
 refine wp_region_any (by kernel_rfl) (Inv.wpAny_inv (I := PI base bo bv gX K x y w0 L V vo vv) ?step ?hend _ _ _ _ (by rfl) (by decide) ?start)
 case start =>
  exact { sz := rfl, tz := rfl, df := rfl, t1 := rfl, t2 := rfl, t3 := rfl, t4 := rfl, t5 := rfl, i10 := fun hb => absurd hb (by decide), i11 := fun hb => absurd hb (by decide), s0 := fun hb => absurd hb (by decide), s1 := fun hb => absurd hb (by decide), s4 := fun hb => absurd hb (by decide), s5 := fun hb => absurd hb (by decide), s6 := fun hb => absurd hb (by decide), s7 := fun hb => absurd hb (by decide), W := ⟨L, V, vo, vv, vo, vv, hP.drew, ⟨rfl, rfl⟩, ⟨rfl, rfl⟩, rfl, rfl, fun hb => absurd hb (by decide), fun hb => absurd hb (by decide)⟩ }
 case hend =>
  intro l a w hn hs h
  skip
  have b0 : l[0]?.getD false = true := by have h_ := Inv.qCQ hn hs (i := 0) (by decide) (by simp [Region.binds]); rwa [Array.getD_eq_getD_getElem?] at h_
  have b1 : l[1]?.getD false = true := by have h_ := Inv.qCQ hn hs (i := 1) (by decide) (by simp [Region.binds]); rwa [Array.getD_eq_getD_getElem?] at h_
  have b2 : l[2]?.getD false = true := by have h_ := Inv.qCQ hn hs (i := 2) (by decide) (by simp [Region.binds, b1]); rwa [Array.getD_eq_getD_getElem?] at h_
  have b3 : l[3]?.getD false = true := by have h_ := Inv.qCQ hn hs (i := 3) (by decide) (by simp [Region.binds, b0, b2]); rwa [Array.getD_eq_getD_getElem?] at h_
  have b4 : l[4]?.getD false = true := by have h_ := Inv.qCQ hn hs (i := 4) (by decide) (by simp [Region.binds]); rwa [Array.getD_eq_getD_getElem?] at h_
  have b5 : l[5]?.getD false = true := by have h_ := Inv.qCQ hn hs (i := 5) (by decide) (by simp [Region.binds]); rwa [Array.getD_eq_getD_getElem?] at h_
  have b6 : l[6]?.getD false = true := by have h_ := Inv.qCQ hn hs (i := 6) (by decide) (by simp [Region.binds]); rwa [Array.getD_eq_getD_getElem?] at h_
  have b7 : l[7]?.getD false = true := by have h_ := Inv.qCQ hn hs (i := 7) (by decide) (by simp [Region.binds, b5, b6]); rwa [Array.getD_eq_getD_getElem?] at h_
  have b8 : l[8]?.getD false = true := by have h_ := Inv.qCQ hn hs (i := 8) (by decide) (by simp [Region.binds, b7]); rwa [Array.getD_eq_getD_getElem?] at h_
  have b9 : l[9]?.getD false = true := by have h_ := Inv.qCQ hn hs (i := 9) (by decide) (by simp [Region.binds, b3, b4, b8]); rwa [Array.getD_eq_getD_getElem?] at h_
  have b10 : l[10]?.getD false = true := by have h_ := Inv.qCQ hn hs (i := 10) (by decide) (by simp [Region.binds, b0, b1, b2, b3, b9]); rwa [Array.getD_eq_getD_getElem?] at h_
  have b11 : l[11]?.getD false = true := by have h_ := Inv.qCQ hn hs (i := 11) (by decide) (by simp [Region.binds, b0, b1, b2, b3, b4, b5, b6, b7, b8, b9, b10]); rwa [Array.getD_eq_getD_getElem?] at h_
  obtain ⟨L1, V1, vo1, vv1, co, cv, hp, c3, c9, c10, c11, g2, g8⟩ := h.W
  simp only [Array.getD_eq_getD_getElem?, b3, b9, b10, b11, if_true] at c3 c9 c10 c11
  obtain ⟨rfl, _⟩ := c3
  obtain ⟨rfl, _⟩ := c9
  subst c10
  subst c11
  refine bodyPost_end (results_none rfl _ _ _) h.df ?_
  exact ⟨rfl, ⟨lo, lv, ne, _, _, hp.hbo, hp.hbv, hp.ro, hp.rv, hp.o1, hp.o2, hp.v1, hp.v2, hp.ov, hp.kp⟩, hp.bd⟩
 case step =>
  intro l a w i hi hs h
  obtain ⟨hlt, hi2, hi3⟩ := Inv.ready_iff.1 hi
  clear hi hs
  obtain ⟨L1, V1, vo1, vv1, co, cv, hp, c3, c9, c10, c11, g2, g8⟩ := h.W
  have hlt' : i < 12 := hlt
  clear hlt
  rcases (by omega : i = 0 ∨ i = 1 ∨ i = 2 ∨ i = 3 ∨ i = 4 ∨ i = 5 ∨ i = 6 ∨ i = 7 ∨ i = 8 ∨ i = 9 ∨ i = 10 ∨ i = 11) with rfl | rfl | rfl | rfl | rfl | rfl | rfl | rfl | rfl | rfl | rfl | rfl
  ·-- operation 0
   have hnot : l.getD 0 false = false := Inv.qDA (by rw [h.sz]; decide) hi2
   have hsz0 : 0 < l.size := by rw [h.sz]; decide
   have e2 := Inv.bo hsz0 2
   have e3 := Inv.bo hsz0 3
   have e8 := Inv.bo hsz0 8
   have e9 := Inv.bo hsz0 9
   have e10 := Inv.bo hsz0 10
   have e11 := Inv.bo hsz0 11
   have hn : l.getD 10 false = false := Bool.eq_false_iff.2 fun hb => by have := (h.i10 hb).1; rw [hnot] at this; cases this
   have hc : w.cell? ⟨bo, 0, none⟩ = some vo := (qA1 hp.hbo 0).trans (by rw [c10, hn]; rfl)
   have h3 := h.t3; simp only [Act.eval, Array.getD_eq_getD_getElem?] at h3
   refine Inv.qE7 (i := 0) rfl rfl (Inv.qEP (v := vo) (w' := w) (by go_simp) ?_)
   show PI base bo bv gX K x y w0 L V vo vv (l.setIfInBounds 0 true) (a.put (some 8) (vo)) (w)
   refine h.nx ?_ ?_ ?_ ?_ ?_ ?_ ?_ ?_ ?_
   ·intro hb; rw [e10] at hb; exact ⟨Inv.qBA hsz0 (h.i10 hb).1, Inv.qBA hsz0 (h.i10 hb).2⟩
   ·intro hb; rw [e11] at hb; exact ⟨Inv.qBA hsz0 (h.i11 hb).1, Inv.qBA hsz0 (h.i11 hb).2⟩
   ·exact Inv.Slot.same (by rw [h.tz]; decide)
   ·exact h.s1.other hsz0 (by decide) (by decide)
   ·exact h.s4.other hsz0 (by decide) (by decide)
   ·exact h.s5.other hsz0 (by decide) (by decide)
   ·exact h.s6.other hsz0 (by decide) (by decide)
   ·exact h.s7.other hsz0 (by decide) (by decide)
   ·exact ⟨L1, V1, vo1, vv1, co, cv, hp, by rw [e3, Inv.qB2 (by decide)]; exact c3, by rw [e9, Inv.qB2 (by decide)]; exact c9, by rw [e10]; exact c10, by rw [e11]; exact c11, fun hb => by rw [e2] at hb; obtain ⟨g, q1, q2⟩ := g2 hb; exact ⟨g, (Inv.qB2 (by decide)).trans q1, q2⟩, fun hb => by rw [e8] at hb; obtain ⟨g, q1, q2⟩ := g8 hb; exact ⟨g, (Inv.qB2 (by decide)).trans q1, q2⟩⟩
  ·-- operation 1
   have hnot : l.getD 1 false = false := Inv.qDA (by rw [h.sz]; decide) hi2
   have hsz1 : 1 < l.size := by rw [h.sz]; decide
   have e2 := Inv.bo hsz1 2
   have e3 := Inv.bo hsz1 3
   have e8 := Inv.bo hsz1 8
   have e9 := Inv.bo hsz1 9
   have e10 := Inv.bo hsz1 10
   have e11 := Inv.bo hsz1 11
   have h5 := h.t5; simp only [Act.eval, Array.getD_eq_getD_getElem?] at h5
   have q0 : w.cell? ⟨gX, 0, none⟩ = some (.string x.f0) := (qA1 hp.hX 0).trans rfl
   have q1 : w.cell? ⟨gX, 1, none⟩ = some (.string x.f1) := (qA1 hp.hX 1).trans rfl
   have q2 : w.cell? ⟨gX, 2, none⟩ = some (.int .i64 x.f2) := (qA1 hp.hX 2).trans rfl
   have q3 : w.cell? ⟨gX, 3, none⟩ = some (.int .i64 x.f3) := (qA1 hp.hX 3).trans rfl
   refine Inv.qE7 (i := 1) rfl rfl (Inv.qEP (v := .agg #[.string x.f0, .string x.f1, .int .i64 x.f2, .int .i64 x.f3]) (w' := w) (by go_simp) ?_)
   show PI base bo bv gX K x y w0 L V vo vv (l.setIfInBounds 1 true) (a.put (some 9) (.agg #[.string x.f0, .string x.f1, .int .i64 x.f2, .int .i64 x.f3])) (w)
   refine h.nx ?_ ?_ ?_ ?_ ?_ ?_ ?_ ?_ ?_
   ·intro hb; rw [e10] at hb; exact ⟨Inv.qBA hsz1 (h.i10 hb).1, Inv.qBA hsz1 (h.i10 hb).2⟩
   ·intro hb; rw [e11] at hb; exact ⟨Inv.qBA hsz1 (h.i11 hb).1, Inv.qBA hsz1 (h.i11 hb).2⟩
   ·exact h.s0.other hsz1 (by decide) (by decide)
   ·exact Inv.Slot.same (by rw [h.tz]; decide)
   ·exact h.s4.other hsz1 (by decide) (by decide)
   ·exact h.s5.other hsz1 (by decide) (by decide)
   ·exact h.s6.other hsz1 (by decide) (by decide)
   ·exact h.s7.other hsz1 (by decide) (by decide)
   ·exact ⟨L1, V1, vo1, vv1, co, cv, hp, by rw [e3, Inv.qB2 (by decide)]; exact c3, by rw [e9, Inv.qB2 (by decide)]; exact c9, by rw [e10]; exact c10, by rw [e11]; exact c11, fun hb => by rw [e2] at hb; obtain ⟨g, q1, q2⟩ := g2 hb; exact ⟨g, (Inv.qB2 (by decide)).trans q1, q2⟩, fun hb => by rw [e8] at hb; obtain ⟨g, q1, q2⟩ := g8 hb; exact ⟨g, (Inv.qB2 (by decide)).trans q1, q2⟩⟩
  ·-- operation 2
   have hnot : l.getD 2 false = false := Inv.qDA (by rw [h.sz]; decide) hi2
   have hd1 : l.getD 1 false = true := by simpa [Region.binds] using hi3
   have hsz2 : 2 < l.size := by rw [h.sz]; decide
   have e2 : (l.setIfInBounds 2 true).getD 2 false = true := by rw [Inv.qFL hsz2, if_pos rfl]
   have e3 := Inv.bo hsz2 3
   have e8 := Inv.bo hsz2 8
   have e9 := Inv.bo hsz2 9
   have e10 := Inv.bo hsz2 10
   have e11 := Inv.bo hsz2 11
   have h9 := h.s1 hd1; simp only [Act.eval, Array.getD_eq_getD_getElem?] at h9
   refine Inv.qE7 (i := 2) rfl rfl (Inv.qEP (v := .slice (some ⟨w.heap.size, 0, none⟩) 1 1) (w' := w.alloc (.cells #[.string x.f0, .string x.f1, .int .i64 x.f2, .int .i64 x.f3] 25)) (by go_simp) ?_)
   show PI base bo bv gX K x y w0 L V vo vv (l.setIfInBounds 2 true) (a.put (some 10) (.slice (some ⟨w.heap.size, 0, none⟩) 1 1)) (w.alloc (.cells #[.string x.f0, .string x.f1, .int .i64 x.f2, .int .i64 x.f3] 25))
   refine h.nx ?_ ?_ ?_ ?_ ?_ ?_ ?_ ?_ ?_
   ·intro hb; rw [e10] at hb; exact ⟨Inv.qBA hsz2 (h.i10 hb).1, Inv.qBA hsz2 (h.i10 hb).2⟩
   ·intro hb; rw [e11] at hb; exact ⟨Inv.qBA hsz2 (h.i11 hb).1, Inv.qBA hsz2 (h.i11 hb).2⟩
   ·exact h.s0.other hsz2 (by decide) (by decide)
   ·exact h.s1.other hsz2 (by decide) (by decide)
   ·exact h.s4.other hsz2 (by decide) (by decide)
   ·exact h.s5.other hsz2 (by decide) (by decide)
   ·exact h.s6.other hsz2 (by decide) (by decide)
   ·exact h.s7.other hsz2 (by decide) (by decide)
   ·exact ⟨L1, V1, vo1, vv1, co, cv, hp.alloc _, by rw [e3, Inv.qB2 (by decide)]; exact c3, by rw [e9, Inv.qB2 (by decide)]; exact c9, by rw [e10]; exact c10, by rw [e11]; exact c11, fun _ => ⟨w.heap.size, Inv.put_same (by rw [h.tz]; decide), heap_alloc_new _ _, fun e => Nat.lt_irrefl _ (e ▸ qCR hp.hbo), fun e => Nat.lt_irrefl _ (e ▸ qCR hp.hbv), own_far hp.ro, own_far hp.rv⟩, fun hb => by rw [e8] at hb; obtain ⟨g, q1, q2, q3⟩ := g8 hb; exact ⟨g, (Inv.qB2 (by decide)).trans q1, qBV q2 _, q3⟩⟩
  ·-- operation 3
   have hnot : l.getD 3 false = false := Inv.qDA (by rw [h.sz]; decide) hi2
   obtain ⟨hd0, hd2⟩ : l.getD 0 false = true ∧ l.getD 2 false = true := by have h_ := hi3; simp [Region.binds] at h_; simp [h_]
   have hsz3 : 3 < l.size := by rw [h.sz]; decide
   have e2 := Inv.bo hsz3 2
   have e3 : (l.setIfInBounds 3 true).getD 3 false = true := by rw [Inv.qFL hsz3, if_pos rfl]
   have e8 := Inv.bo hsz3 8
   have e9 := Inv.bo hsz3 9
   have e10 := Inv.bo hsz3 10
   have e11 := Inv.bo hsz3 11
   rw [hnot, if_neg Bool.false_ne_true] at c3
   obtain ⟨rfl, rfl⟩ : L = L1 ∧ vo = vo1 := ⟨c3.1.symm, c3.2.symm⟩
   have h10 : l.getD 10 false = false := Bool.eq_false_iff.2 fun hb => by have := (h.i10 hb).2; rw [hnot] at this; cases this
   have h8 := h.s0 hd0
   obtain ⟨g, q1, q2, q3, q4, q5, q6⟩ := g2 hd2
   obtain ⟨u1, w1, hrun, hown, hgr, hob⟩ := app25 w base vo L hp.ro g x q2 hp.hbase hl
   have hne : ∀ g, g < w.heap.size → vo.ownBlock ≠ some g → u1.ownBlock ≠ some g := fun g hg1 hg2 e => by
    rcases hob with ho | ho
    ·exact hg2 (ho ▸ e)
    ·rw [ho] at e; injection e with e; omega
   refine Inv.qE7 (i := 3) rfl rfl (Inv.qEP (v := u1) (w' := w1) (app_rn (.tmp 8) (.tmp 10) 30 rfl rfl _ _ h8 q1 hrun) ?_)
   show PI base bo bv gX K x y w0 L V vo vv (l.setIfInBounds 3 true) (a.put (some 11) (u1)) (w1)
   refine h.nx ?_ ?_ ?_ ?_ ?_ ?_ ?_ ?_ ?_
   ·intro hb; rw [e10] at hb; exact ⟨Inv.qBA hsz3 (h.i10 hb).1, Inv.qBA hsz3 (h.i10 hb).2⟩
   ·intro hb; rw [e11] at hb; exact ⟨Inv.qBA hsz3 (h.i11 hb).1, Inv.qBA hsz3 (h.i11 hb).2⟩
   ·exact h.s0.other hsz3 (by decide) (by decide)
   ·exact h.s1.other hsz3 (by decide) (by decide)
   ·exact h.s4.other hsz3 (by decide) (by decide)
   ·exact h.s5.other hsz3 (by decide) (by decide)
   ·exact h.s6.other hsz3 (by decide) (by decide)
   ·exact h.s7.other hsz3 (by decide) (by decide)
   ·exact ⟨L ++ [x], V1, u1, vv1, co, cv, hp.put25 hown hgr hob, by rw [e3]; exact ⟨rfl, Inv.put_same (by rw [h.tz]; decide)⟩, by rw [e9, Inv.qB2 (by decide)]; exact c9, by rw [e10, h10]; rw [h10] at c10; exact c10, by rw [e11]; exact c11, fun hb => ⟨g, (Inv.qB2 (by decide)).trans q1, qAF q2 hgr (fun e => q5 e.symm), q3, q4, hne g (qCR q2) q5, q6⟩, fun hb => by rw [e8] at hb; obtain ⟨g', p1, p2, p3, p4, p5, p6⟩ := g8 hb; exact ⟨g', (Inv.qB2 (by decide)).trans p1, qAF p2 hgr (fun e => p5 e.symm), p3, p4, hne g' (qCR p2) p5, p6⟩⟩
  ·-- operation 4
   have hnot : l.getD 4 false = false := Inv.qDA (by rw [h.sz]; decide) hi2
   have hsz4 : 4 < l.size := by rw [h.sz]; decide
   have e2 := Inv.bo hsz4 2
   have e3 := Inv.bo hsz4 3
   have e8 := Inv.bo hsz4 8
   have e9 := Inv.bo hsz4 9
   have e10 := Inv.bo hsz4 10
   have e11 := Inv.bo hsz4 11
   have hn : l.getD 11 false = false := Bool.eq_false_iff.2 fun hb => by have := (h.i11 hb).1; rw [hnot] at this; cases this
   have hc : w.cell? ⟨bv, 0, none⟩ = some vv := (qA1 hp.hbv 0).trans (by rw [c11, hn]; rfl)
   have h4 := h.t4; simp only [Act.eval, Array.getD_eq_getD_getElem?] at h4
   refine Inv.qE7 (i := 4) rfl rfl (Inv.qEP (v := vv) (w' := w) (by go_simp) ?_)
   show PI base bo bv gX K x y w0 L V vo vv (l.setIfInBounds 4 true) (a.put (some 12) (vv)) (w)
   refine h.nx ?_ ?_ ?_ ?_ ?_ ?_ ?_ ?_ ?_
   ·intro hb; rw [e10] at hb; exact ⟨Inv.qBA hsz4 (h.i10 hb).1, Inv.qBA hsz4 (h.i10 hb).2⟩
   ·intro hb; rw [e11] at hb; exact ⟨Inv.qBA hsz4 (h.i11 hb).1, Inv.qBA hsz4 (h.i11 hb).2⟩
   ·exact h.s0.other hsz4 (by decide) (by decide)
   ·exact h.s1.other hsz4 (by decide) (by decide)
   ·exact Inv.Slot.same (by rw [h.tz]; decide)
   ·exact h.s5.other hsz4 (by decide) (by decide)
   ·exact h.s6.other hsz4 (by decide) (by decide)
   ·exact h.s7.other hsz4 (by decide) (by decide)
   ·exact ⟨L1, V1, vo1, vv1, co, cv, hp, by rw [e3, Inv.qB2 (by decide)]; exact c3, by rw [e9, Inv.qB2 (by decide)]; exact c9, by rw [e10]; exact c10, by rw [e11]; exact c11, fun hb => by rw [e2] at hb; obtain ⟨g, q1, q2⟩ := g2 hb; exact ⟨g, (Inv.qB2 (by decide)).trans q1, q2⟩, fun hb => by rw [e8] at hb; obtain ⟨g, q1, q2⟩ := g8 hb; exact ⟨g, (Inv.qB2 (by decide)).trans q1, q2⟩⟩
  ·-- operation 5
   have hnot : l.getD 5 false = false := Inv.qDA (by rw [h.sz]; decide) hi2
   have hsz5 : 5 < l.size := by rw [h.sz]; decide
   have e2 := Inv.bo hsz5 2
   have e3 := Inv.bo hsz5 3
   have e8 := Inv.bo hsz5 8
   have e9 := Inv.bo hsz5 9
   have e10 := Inv.bo hsz5 10
   have e11 := Inv.bo hsz5 11
   have h1 := h.t1; simp only [Act.eval, Array.getD_eq_getD_getElem?] at h1
   refine Inv.qE7 (i := 5) rfl rfl (Inv.qEP (v := .int .i64 y.f0) (w' := w) (by go_simp) ?_)
   show PI base bo bv gX K x y w0 L V vo vv (l.setIfInBounds 5 true) (a.put (some 13) (.int .i64 y.f0)) (w)
   refine h.nx ?_ ?_ ?_ ?_ ?_ ?_ ?_ ?_ ?_
   ·intro hb; rw [e10] at hb; exact ⟨Inv.qBA hsz5 (h.i10 hb).1, Inv.qBA hsz5 (h.i10 hb).2⟩
   ·intro hb; rw [e11] at hb; exact ⟨Inv.qBA hsz5 (h.i11 hb).1, Inv.qBA hsz5 (h.i11 hb).2⟩
   ·exact h.s0.other hsz5 (by decide) (by decide)
   ·exact h.s1.other hsz5 (by decide) (by decide)
   ·exact h.s4.other hsz5 (by decide) (by decide)
   ·exact Inv.Slot.same (by rw [h.tz]; decide)
   ·exact h.s6.other hsz5 (by decide) (by decide)
   ·exact h.s7.other hsz5 (by decide) (by decide)
   ·exact ⟨L1, V1, vo1, vv1, co, cv, hp, by rw [e3, Inv.qB2 (by decide)]; exact c3, by rw [e9, Inv.qB2 (by decide)]; exact c9, by rw [e10]; exact c10, by rw [e11]; exact c11, fun hb => by rw [e2] at hb; obtain ⟨g, q1, q2⟩ := g2 hb; exact ⟨g, (Inv.qB2 (by decide)).trans q1, q2⟩, fun hb => by rw [e8] at hb; obtain ⟨g, q1, q2⟩ := g8 hb; exact ⟨g, (Inv.qB2 (by decide)).trans q1, q2⟩⟩
  ·-- operation 6
   have hnot : l.getD 6 false = false := Inv.qDA (by rw [h.sz]; decide) hi2
   have hsz6 : 6 < l.size := by rw [h.sz]; decide
   have e2 := Inv.bo hsz6 2
   have e3 := Inv.bo hsz6 3
   have e8 := Inv.bo hsz6 8
   have e9 := Inv.bo hsz6 9
   have e10 := Inv.bo hsz6 10
   have e11 := Inv.bo hsz6 11
   have h2 := h.t2; simp only [Act.eval, Array.getD_eq_getD_getElem?] at h2
   refine Inv.qE7 (i := 6) rfl rfl (Inv.qEP (v := .int .i64 y.f1) (w' := w) (by go_simp) ?_)
   show PI base bo bv gX K x y w0 L V vo vv (l.setIfInBounds 6 true) (a.put (some 14) (.int .i64 y.f1)) (w)
   refine h.nx ?_ ?_ ?_ ?_ ?_ ?_ ?_ ?_ ?_
   ·intro hb; rw [e10] at hb; exact ⟨Inv.qBA hsz6 (h.i10 hb).1, Inv.qBA hsz6 (h.i10 hb).2⟩
   ·intro hb; rw [e11] at hb; exact ⟨Inv.qBA hsz6 (h.i11 hb).1, Inv.qBA hsz6 (h.i11 hb).2⟩
   ·exact h.s0.other hsz6 (by decide) (by decide)
   ·exact h.s1.other hsz6 (by decide) (by decide)
   ·exact h.s4.other hsz6 (by decide) (by decide)
   ·exact h.s5.other hsz6 (by decide) (by decide)
   ·exact Inv.Slot.same (by rw [h.tz]; decide)
   ·exact h.s7.other hsz6 (by decide) (by decide)
   ·exact ⟨L1, V1, vo1, vv1, co, cv, hp, by rw [e3, Inv.qB2 (by decide)]; exact c3, by rw [e9, Inv.qB2 (by decide)]; exact c9, by rw [e10]; exact c10, by rw [e11]; exact c11, fun hb => by rw [e2] at hb; obtain ⟨g, q1, q2⟩ := g2 hb; exact ⟨g, (Inv.qB2 (by decide)).trans q1, q2⟩, fun hb => by rw [e8] at hb; obtain ⟨g, q1, q2⟩ := g8 hb; exact ⟨g, (Inv.qB2 (by decide)).trans q1, q2⟩⟩
  ·-- operation 7
   have hnot : l.getD 7 false = false := Inv.qDA (by rw [h.sz]; decide) hi2
   obtain ⟨hd5, hd6⟩ : l.getD 5 false = true ∧ l.getD 6 false = true := by have h_ := hi3; simp [Region.binds] at h_; simp [h_]
   have hsz7 : 7 < l.size := by rw [h.sz]; decide
   have e2 := Inv.bo hsz7 2
   have e3 := Inv.bo hsz7 3
   have e8 := Inv.bo hsz7 8
   have e9 := Inv.bo hsz7 9
   have e10 := Inv.bo hsz7 10
   have e11 := Inv.bo hsz7 11
   have h13 := h.s5 hd5; simp only [Act.eval, Array.getD_eq_getD_getElem?] at h13
   have h14 := h.s6 hd6; simp only [Act.eval, Array.getD_eq_getD_getElem?] at h14
   refine Inv.qE7 (i := 7) rfl rfl (Inv.qEP (v := .agg #[.int .i64 y.f0, .int .i64 y.f1]) (w' := w) (by go_simp) ?_)
   show PI base bo bv gX K x y w0 L V vo vv (l.setIfInBounds 7 true) (a.put (some 15) (.agg #[.int .i64 y.f0, .int .i64 y.f1])) (w)
   refine h.nx ?_ ?_ ?_ ?_ ?_ ?_ ?_ ?_ ?_
   ·intro hb; rw [e10] at hb; exact ⟨Inv.qBA hsz7 (h.i10 hb).1, Inv.qBA hsz7 (h.i10 hb).2⟩
   ·intro hb; rw [e11] at hb; exact ⟨Inv.qBA hsz7 (h.i11 hb).1, Inv.qBA hsz7 (h.i11 hb).2⟩
   ·exact h.s0.other hsz7 (by decide) (by decide)
   ·exact h.s1.other hsz7 (by decide) (by decide)
   ·exact h.s4.other hsz7 (by decide) (by decide)
   ·exact h.s5.other hsz7 (by decide) (by decide)
   ·exact h.s6.other hsz7 (by decide) (by decide)
   ·exact Inv.Slot.same (by rw [h.tz]; decide)
   ·exact ⟨L1, V1, vo1, vv1, co, cv, hp, by rw [e3, Inv.qB2 (by decide)]; exact c3, by rw [e9, Inv.qB2 (by decide)]; exact c9, by rw [e10]; exact c10, by rw [e11]; exact c11, fun hb => by rw [e2] at hb; obtain ⟨g, q1, q2⟩ := g2 hb; exact ⟨g, (Inv.qB2 (by decide)).trans q1, q2⟩, fun hb => by rw [e8] at hb; obtain ⟨g, q1, q2⟩ := g8 hb; exact ⟨g, (Inv.qB2 (by decide)).trans q1, q2⟩⟩
  ·-- operation 8
   have hnot : l.getD 8 false = false := Inv.qDA (by rw [h.sz]; decide) hi2
   have hd7 : l.getD 7 false = true := by simpa [Region.binds] using hi3
   have hsz8 : 8 < l.size := by rw [h.sz]; decide
   have e2 := Inv.bo hsz8 2
   have e3 := Inv.bo hsz8 3
   have e8 : (l.setIfInBounds 8 true).getD 8 false = true := by rw [Inv.qFL hsz8, if_pos rfl]
   have e9 := Inv.bo hsz8 9
   have e10 := Inv.bo hsz8 10
   have e11 := Inv.bo hsz8 11
   have h15 := h.s7 hd7; simp only [Act.eval, Array.getD_eq_getD_getElem?] at h15
   refine Inv.qE7 (i := 8) rfl rfl (Inv.qEP (v := .slice (some ⟨w.heap.size, 0, none⟩) 1 1) (w' := w.alloc (.cells #[.int .i64 y.f0, .int .i64 y.f1] 69)) (by go_simp) ?_)
   show PI base bo bv gX K x y w0 L V vo vv (l.setIfInBounds 8 true) (a.put (some 16) (.slice (some ⟨w.heap.size, 0, none⟩) 1 1)) (w.alloc (.cells #[.int .i64 y.f0, .int .i64 y.f1] 69))
   refine h.nx ?_ ?_ ?_ ?_ ?_ ?_ ?_ ?_ ?_
   ·intro hb; rw [e10] at hb; exact ⟨Inv.qBA hsz8 (h.i10 hb).1, Inv.qBA hsz8 (h.i10 hb).2⟩
   ·intro hb; rw [e11] at hb; exact ⟨Inv.qBA hsz8 (h.i11 hb).1, Inv.qBA hsz8 (h.i11 hb).2⟩
   ·exact h.s0.other hsz8 (by decide) (by decide)
   ·exact h.s1.other hsz8 (by decide) (by decide)
   ·exact h.s4.other hsz8 (by decide) (by decide)
   ·exact h.s5.other hsz8 (by decide) (by decide)
   ·exact h.s6.other hsz8 (by decide) (by decide)
   ·exact h.s7.other hsz8 (by decide) (by decide)
   ·exact ⟨L1, V1, vo1, vv1, co, cv, hp.alloc _, by rw [e3, Inv.qB2 (by decide)]; exact c3, by rw [e9, Inv.qB2 (by decide)]; exact c9, by rw [e10]; exact c10, by rw [e11]; exact c11, fun hb => by rw [e2] at hb; obtain ⟨g, q1, q2, q3⟩ := g2 hb; exact ⟨g, (Inv.qB2 (by decide)).trans q1, qBV q2 _, q3⟩, fun _ => ⟨w.heap.size, Inv.put_same (by rw [h.tz]; decide), heap_alloc_new _ _, fun e => Nat.lt_irrefl _ (e ▸ qCR hp.hbo), fun e => Nat.lt_irrefl _ (e ▸ qCR hp.hbv), own_far hp.ro, own_far hp.rv⟩⟩
  ·-- operation 9
   have hnot : l.getD 9 false = false := Inv.qDA (by rw [h.sz]; decide) hi2
   obtain ⟨hd3, hd4, hd8⟩ : l.getD 3 false = true ∧ l.getD 4 false = true ∧ l.getD 8 false = true := by have h_ := hi3; simp [Region.binds] at h_; simp [h_]
   have hsz9 : 9 < l.size := by rw [h.sz]; decide
   have e2 := Inv.bo hsz9 2
   have e3 := Inv.bo hsz9 3
   have e8 := Inv.bo hsz9 8
   have e9 : (l.setIfInBounds 9 true).getD 9 false = true := by rw [Inv.qFL hsz9, if_pos rfl]
   have e10 := Inv.bo hsz9 10
   have e11 := Inv.bo hsz9 11
   rw [hnot, if_neg Bool.false_ne_true] at c9
   obtain ⟨rfl, rfl⟩ : V = V1 ∧ vv = vv1 := ⟨c9.1.symm, c9.2.symm⟩
   have h11 : l.getD 11 false = false := Bool.eq_false_iff.2 fun hb => by have := (h.i11 hb).2; rw [hnot] at this; cases this
   have h12 := h.s4 hd4
   obtain ⟨g, q1, q2, q3, q4, q5, q6⟩ := g8 hd8
   obtain ⟨u1, w1, hrun, hown, hgr, hob⟩ := app32 w base vv V hp.rv g y q2 hp.hbase hv
   have hne : ∀ g, g < w.heap.size → vv.ownBlock ≠ some g → u1.ownBlock ≠ some g := fun g hg1 hg2 e => by
    rcases hob with ho | ho
    ·exact hg2 (ho ▸ e)
    ·rw [ho] at e; injection e with e; omega
   refine Inv.qE7 (i := 9) rfl rfl (Inv.qEP (v := u1) (w' := w1) (app_rn (.tmp 12) (.tmp 16) 31 rfl rfl _ _ h12 q1 hrun) ?_)
   show PI base bo bv gX K x y w0 L V vo vv (l.setIfInBounds 9 true) (a.put (some 17) (u1)) (w1)
   refine h.nx ?_ ?_ ?_ ?_ ?_ ?_ ?_ ?_ ?_
   ·intro hb; rw [e10] at hb; exact ⟨Inv.qBA hsz9 (h.i10 hb).1, Inv.qBA hsz9 (h.i10 hb).2⟩
   ·intro hb; rw [e11] at hb; exact ⟨Inv.qBA hsz9 (h.i11 hb).1, Inv.qBA hsz9 (h.i11 hb).2⟩
   ·exact h.s0.other hsz9 (by decide) (by decide)
   ·exact h.s1.other hsz9 (by decide) (by decide)
   ·exact h.s4.other hsz9 (by decide) (by decide)
   ·exact h.s5.other hsz9 (by decide) (by decide)
   ·exact h.s6.other hsz9 (by decide) (by decide)
   ·exact h.s7.other hsz9 (by decide) (by decide)
   ·exact ⟨L1, V ++ [y], vo1, u1, co, cv, hp.put32 hown hgr hob, by rw [e3, Inv.qB2 (by decide)]; exact c3, by rw [e9]; exact ⟨rfl, Inv.put_same (by rw [h.tz]; decide)⟩, by rw [e10]; exact c10, by rw [e11, h11]; rw [h11] at c11; exact c11, fun hb => by rw [e2] at hb; obtain ⟨g', p1, p2, p3, p4, p5, p6⟩ := g2 hb; exact ⟨g', (Inv.qB2 (by decide)).trans p1, qAF p2 hgr (fun e => p6 e.symm), p3, p4, p5, hne g' (qCR p2) p6⟩, fun hb => ⟨g, (Inv.qB2 (by decide)).trans q1, qAF q2 hgr (fun e => q6 e.symm), q3, q4, q5, hne g (qCR q2) q6⟩⟩
  ·-- operation 10
   have hnot : l.getD 10 false = false := Inv.qDA (by rw [h.sz]; decide) hi2
   obtain ⟨hd0, hd1, hd2, hd3, hd9⟩ : l.getD 0 false = true ∧ l.getD 1 false = true ∧ l.getD 2 false = true ∧ l.getD 3 false = true ∧ l.getD 9 false = true := by have h_ := hi3; simp [Region.binds] at h_; simp [h_]
   have hsz10 : 10 < l.size := by rw [h.sz]; decide
   have e2 := Inv.bo hsz10 2
   have e3 := Inv.bo hsz10 3
   have e8 := Inv.bo hsz10 8
   have e9 := Inv.bo hsz10 9
   have e10 : (l.setIfInBounds 10 true).getD 10 false = true := by rw [Inv.qFL hsz10, if_pos rfl]
   have e11 := Inv.bo hsz10 11
   rw [hd3, if_pos rfl] at c3
   have h11 := c3.2
   refine Inv.qE7 (i := 10) rfl rfl (Inv.skip_step (w' := w.setCell ⟨bo, 0, none⟩ vo1) (by have hcs : vo1.cells.toList = [vo1] := (by rcases hp.ro.2 with ⟨h_, _⟩ | ⟨_, _, _, h_, _⟩ <;> rw [h_] <;> rfl); have hone : ∀ q ∈ [vo1], q.oneCell' = true := (by intro q hq; rw [List.mem_singleton] at hq; subst hq; rcases hp.ro.2 with ⟨h_, _⟩ | ⟨_, _, _, h_, _⟩ <;> rw [h_] <;> rfl); have hr_ := run_store_run (P := Tryz.prog) (o := 0) 30 vo1 [vo1] hp.hbo hcs (by kernel_rfl) (by simp) hone; exact store_run (.tmp 3) (.tmp 11) 30 rfl _ _ h.t3 h11 hr_) ?_)
   show PI base bo bv gX K x y w0 L V vo vv (l.setIfInBounds 10 true) (a.put none undef) (w.setCell ⟨bo, 0, none⟩ vo1)
   refine { sz := by simpa using h.sz, tz := by simpa [Act.put] using h.tz, df := h.df, t1 := rfl.trans h.t1, t2 := rfl.trans h.t2, t3 := rfl.trans h.t3, t4 := rfl.trans h.t4, t5 := rfl.trans h.t5, i10 := ?_, i11 := ?_, s0 := ?_, s1 := ?_, s4 := ?_, s5 := ?_, s6 := ?_, s7 := ?_, W := ?_ }
   ·exact fun _ => ⟨Inv.qBA hsz10 hd0, Inv.qBA hsz10 hd3⟩
   ·intro hb; rw [e11] at hb; exact ⟨Inv.qBA hsz10 (h.i11 hb).1, Inv.qBA hsz10 (h.i11 hb).2⟩
   ·exact h.s0.still hsz10 (by decide)
   ·exact h.s1.still hsz10 (by decide)
   ·exact h.s4.still hsz10 (by decide)
   ·exact h.s5.still hsz10 (by decide)
   ·exact h.s6.still hsz10 (by decide)
   ·exact h.s7.still hsz10 (by decide)
   ·exact ⟨L1, V1, vo1, vv1, vo1, cv, hp.set28 lo ne nX vo1, by rw [e3, hd3, if_pos rfl]; exact c3, by rw [e9]; exact c9, by rw [e10]; rfl, by rw [e11]; exact c11, fun hb => by rw [e2] at hb; obtain ⟨g, q1, q2, q3, q4, q5⟩ := g2 hb; exact ⟨g, q1, qCJ q2 q3 _, q3, q4, q5⟩, fun hb => by rw [e8] at hb; obtain ⟨g, q1, q2, q3, q4, q5⟩ := g8 hb; exact ⟨g, q1, qCJ q2 q3 _, q3, q4, q5⟩⟩
  ·-- operation 11
   have hnot : l.getD 11 false = false := Inv.qDA (by rw [h.sz]; decide) hi2
   obtain ⟨hd0, hd1, hd2, hd3, hd4, hd5, hd6, hd7, hd8, hd9, hd10⟩ : l.getD 0 false = true ∧ l.getD 1 false = true ∧ l.getD 2 false = true ∧ l.getD 3 false = true ∧ l.getD 4 false = true ∧ l.getD 5 false = true ∧ l.getD 6 false = true ∧ l.getD 7 false = true ∧ l.getD 8 false = true ∧ l.getD 9 false = true ∧ l.getD 10 false = true := by have h_ := hi3; simp [Region.binds] at h_; simp [h_]
   have hsz11 : 11 < l.size := by rw [h.sz]; decide
   have e2 := Inv.bo hsz11 2
   have e3 := Inv.bo hsz11 3
   have e8 := Inv.bo hsz11 8
   have e9 := Inv.bo hsz11 9
   have e10 := Inv.bo hsz11 10
   have e11 : (l.setIfInBounds 11 true).getD 11 false = true := by rw [Inv.qFL hsz11, if_pos rfl]
   rw [hd9, if_pos rfl] at c9
   have h17 := c9.2
   refine Inv.qE7 (i := 11) rfl rfl (Inv.skip_step (w' := w.setCell ⟨bv, 0, none⟩ vv1) (by have hcs : vv1.cells.toList = [vv1] := (by rcases hp.rv.2 with ⟨h_, _⟩ | ⟨_, _, _, h_, _⟩ <;> rw [h_] <;> rfl); have hone : ∀ q ∈ [vv1], q.oneCell' = true := (by intro q hq; rw [List.mem_singleton] at hq; subst hq; rcases hp.rv.2 with ⟨h_, _⟩ | ⟨_, _, _, h_, _⟩ <;> rw [h_] <;> rfl); have hr_ := run_store_run (P := Tryz.prog) (o := 0) 31 vv1 [vv1] hp.hbv hcs (by kernel_rfl) (by simp) hone; exact store_run (.tmp 4) (.tmp 17) 31 rfl _ _ h.t4 h17 hr_) ?_)
   show PI base bo bv gX K x y w0 L V vo vv (l.setIfInBounds 11 true) (a.put none undef) (w.setCell ⟨bv, 0, none⟩ vv1)
   refine { sz := by simpa using h.sz, tz := by simpa [Act.put] using h.tz, df := h.df, t1 := rfl.trans h.t1, t2 := rfl.trans h.t2, t3 := rfl.trans h.t3, t4 := rfl.trans h.t4, t5 := rfl.trans h.t5, i10 := ?_, i11 := ?_, s0 := ?_, s1 := ?_, s4 := ?_, s5 := ?_, s6 := ?_, s7 := ?_, W := ?_ }
   ·intro hb; rw [e10] at hb; exact ⟨Inv.qBA hsz11 (h.i10 hb).1, Inv.qBA hsz11 (h.i10 hb).2⟩
   ·exact fun _ => ⟨Inv.qBA hsz11 hd4, Inv.qBA hsz11 hd9⟩
   ·exact h.s0.still hsz11 (by decide)
   ·exact h.s1.still hsz11 (by decide)
   ·exact h.s4.still hsz11 (by decide)
   ·exact h.s5.still hsz11 (by decide)
   ·exact h.s6.still hsz11 (by decide)
   ·exact h.s7.still hsz11 (by decide)
   ·exact ⟨L1, V1, vo1, vv1, co, vv1, hp.set35 lv ne nXv vv1, by rw [e3]; exact c3, by rw [e9, hd9, if_pos rfl]; exact c9, by rw [e10]; exact c10, by rw [e11]; rfl, fun hb => by rw [e2] at hb; obtain ⟨g, q1, q2, q3, q4, q5⟩ := g2 hb; exact ⟨g, q1, qCJ q2 q4 _, q3, q4, q5⟩, fun hb => by rw [e8] at hb; obtain ⟨g, q1, q2, q3, q4, q5⟩ := g8 hb; exact ⟨g, q1, qCJ q2 q4 _, q3, q4, q5⟩⟩
def qF9 (a : S49) (t : S73) (i : Nat) (s : S75) : List (S25 × S69) := [(⟨a.f0, t.f0, 2, (i : Int)⟩, ⟨t.f1, s.f0⟩), (⟨a.f0, t.f0, 3, (i : Int)⟩, ⟨if t.f3 = true then 6 else t.f2, s.f1⟩)]
def qEG (a : S49) (x : S55) (part : Int) (i : Nat) (n : S79) : List (S25 × S69) := if n.f0 ≠ 0 ∨ n.f2 = 1 then [] else [(⟨a.f0, x.f0, part, (i : Int)⟩, ⟨n.f2, n.f3⟩)]
def upto {β : Type} (f : Nat → List β) (n : Nat) : List β := (List.range n).flatMap f
def qCC (a : S49) (t : S73) : List (S25 × S69) := upto (fun i => qF9 a t i (t.f4.getD i z75)) t.f4.length
def qES (a : S49) (x : S55) (part : Int) (e : List S79) : List (S25 × S69) := upto (fun i => qEG a x part i (e.getD i z79)) e.length
def artP (a : S49) (x : S55) : List (S25 × S69) := qES a x 0 x.f2 ++ qES a x 1 x.f3
def actP (a : S49) : List (S25 × S69) := a.f4.flatMap (qCC a) ++ a.f5.flatMap (artP a)
def qC9 (b : List S49) : List (S25 × S69) := b.flatMap actP
def qC5.f (l0 : List S49) : Option (List S25 × List S69) := if (qC9 l0).length * 48 ≤ 140737488355328 then some ((qC9 l0).map (·.1), (qC9 l0).map (·.2)) else none
def PQ (base : Nat) (W : World) (bo bv : Nat) (K : List (Nat × Obj)) (P : List (S25 × S69)) : Prop := PM base W bo bv K (P.map (·.1)) (P.map (·.2))
abbrev PR (w W : World) (K : List (Nat × Obj)) (P : List (S25 × S69)) : Prop := PQ w.heap.size W w.heap.size (w.heap.size + 1) K P
abbrev b48 (b : World) (y : S49) (A B C : Option Addr) (i j k : Nat) : Nat × Obj := (b.heap.size, .cells #[.string y.f0, .int .i64 y.f1, .int .i64 y.f2, .slice A y.f3.length i, .slice B y.f4.length j, .slice C y.f5.length k] 49 (0, 0))
abbrev b69 (b : World) (t : S73) (A : Option Addr) (i : Nat) : Nat × Obj := (b.heap.size, .cells #[.string t.f0, .int .i64 t.f1, .int .i64 t.f2, .bool t.f3, .slice A t.f4.length i] 73 (0, 0))
abbrev b76 (b : World) (s : S75) : Nat × Obj := (b.heap.size, .cells #[.int .i64 s.f0, .int .i64 s.f1] 75 (0, 0))
abbrev b54 (b : World) (x : S55) (A B C : Option Addr) (i j k : Nat) : Nat × Obj := (b.heap.size, .cells #[.string x.f0, .string x.f1, .slice A x.f2.length i, .slice B x.f3.length j, .slice C x.f4.length k, .int .i64 x.f5] 55 (0, 0))
abbrev b80 (b : World) (n : S79) (A : Option Addr) (i : Nat) : Nat × Obj := (b.heap.size, .cells #[.int .i64 n.f0, .slice A n.f1.length i, .int .i64 n.f2, .int .i64 n.f3, .string n.f4] 79 (0, 0))
abbrev bE (b : World) (x : S55) (A B : Option Addr) (i j : Nat) : Nat × Obj := (b.heap.size, .cells #[.slice A x.f2.length i, .slice B x.f3.length j] 53 (0, 0))
theorem PM.start (W : World) : PM W.heap.size ((W.alloc (.cells #[.slice none 0 0] 30)).alloc (.cells #[.slice none 0 0] 31)) W.heap.size (W.heap.size + 1) [] [] [] := by
 have h1 := heap_alloc_new (W.alloc (.cells #[.slice none 0 0] 30)) (.cells #[.slice none 0 0] 31)
 rw [show (W.alloc (.cells #[.slice none 0 0] 30)).heap.size = W.heap.size + 1 from by simp] at h1
 exact ⟨Nat.le_refl _, Nat.le_succ _, by omega, .slice none 0 0, .slice none 0 0, qBV (heap_alloc_new W _) _, h1, own_nil _ _ _ _, own_nil _ _ _ _, by simp [Value.ownBlock], by simp [Value.ownBlock], by simp [Value.ownBlock], by simp [Value.ownBlock], fun g hg => by simp [Value.ownBlock] at hg, fun p hp => by cases hp⟩
theorem PM.drew {base : Nat} {W : World} {bo bv : Nat} {K : List (Nat × Obj)} {L : List S25} {V : List S69} (h : PM base W bo bv K L V) : PM base W.drew bo bv K L V := by
 obtain ⟨lo, lv, ne, vo, vv, hbo, hbv, ho, hv_, n⟩ := h
 exact ⟨lo, lv, ne, vo, vv, hbo, hbv, ho, hv_, n⟩
theorem PM.drewN {base : Nat} {W : World} {bo bv : Nat} {K : List (Nat × Obj)} {L : List S25} {V : List S69} (h : PM base W bo bv K L V) (k : Nat) : PM base (W.drewN k) bo bv K L V := by
 obtain ⟨lo, lv, ne, vo, vv, hbo, hbv, ho, hv_, n⟩ := h
 exact ⟨lo, lv, ne, vo, vv, hbo, hbv, ho, hv_, n⟩
theorem PM.grow {base : Nat} {W W' : World} {bo bv : Nat} {K : List (Nat × Obj)} {L : List S25} {V : List S69} (h : PM base W bo bv K L V) (hb : Below W.heap.size W W') {b : Nat} {o : Obj} (hge : W.heap.size ≤ b) (hblk : W'.heap[b]? = some o) : PM base W' bo bv ((b, o) :: K) L V := by
 obtain ⟨lo, lv, ne, vo, vv, hbo, hbv, ho, hv_, n1, n2, n3, n4, n5, n6⟩ := h
 have hg := qAN hb none
 have q1 := qCR hbo
 have q2 := qCR hbv
 refine ⟨lo, lv, ne, vo, vv, qAM hbo hb, qAM hbv hb, ho.kept hg (by cases vo.ownBlock <;> simp), hv_.kept hg (by cases vv.ownBlock <;> simp), n1, n2, n3, n4, n5, fun p hp => ?_⟩
 rcases List.mem_cons.1 hp with rfl | hp
 ·exact ⟨hblk, fun e => by dsimp only at e; omega, fun e => by dsimp only at e; omega, fun e => by have := qD6 ho _ e; dsimp only at this; omega, fun e => by have := qD6 hv_ _ e; dsimp only at this; omega⟩
 ·exact ⟨qAM (n6 p hp).1 hb, (n6 p hp).2⟩
theorem PM.sub {base : Nat} {W : World} {bo bv : Nat} {K K' : List (Nat × Obj)} {L : List S25} {V : List S69} (h : PM base W bo bv K L V) (hs : ∀ p, p ∈ K' → p ∈ K) : PM base W bo bv K' L V := by
 obtain ⟨lo, lv, ne, vo, vv, hbo, hbv, ho, hv_, n1, n2, n3, n4, n5, n6⟩ := h
 exact ⟨lo, lv, ne, vo, vv, hbo, hbv, ho, hv_, n1, n2, n3, n4, n5, fun p hp => n6 p (hs p hp)⟩
theorem PM.at_ {base : Nat} {W : World} {bo bv : Nat} {K : List (Nat × Obj)} {L : List S25} {V : List S69} (h : PM base W bo bv K L V) {b : Nat} {o : Obj} (hm : (b, o) ∈ K) : W.heap[b]? = some o := by
 obtain ⟨lo, lv, ne, vo, vv, hbo, hbv, ho, hv_, n1, n2, n3, n4, n5, n6⟩ := h
 exact (n6 _ hm).1
theorem PM.bv_lt {base : Nat} {W : World} {bo bv : Nat} {K : List (Nat × Obj)} {L : List S25} {V : List S69} (h : PM base W bo bv K L V) : base ≤ W.heap.size := by
 obtain ⟨lo, lv, ne, vo, vv, hbo, hbv, ho, hv_, n⟩ := h
 exact Nat.le_trans lo (Nat.le_of_lt (qCR hbo))
theorem qDP {β : Type} (f : Nat → List β) (n : Nat) : upto f (n + 1) = upto f n ++ f n := by simp [upto, List.range_succ]
theorem upto_le {β : Type} (f : Nat → List β) {q n : Nat} (h : q ≤ n) : (upto f q).length ≤ (upto f n).length := by
 induction h with
 | refl => exact Nat.le_refl _
 | step _ ih => rw [qDP, List.length_append]; omega
theorem upto_lt {β : Type} (f : Nat → List β) {q n : Nat} (h : q < n) : (upto f q).length + (f q).length ≤ (upto f n).length := by
 have := upto_le f (q := q + 1) (n := n) h
 rwa [qDP, List.length_append] at this
theorem qEI {α β : Type} (f : α → List β) {l : List α} {k : Nat} (z : α) (h : k < l.length) : (l.take (k + 1)).flatMap f = (l.take k).flatMap f ++ f (l.getD k z) := by
 rw [List.take_add_one, List.getElem?_eq_getElem h, List.flatMap_append, List.getD_eq_getElem?_getD, List.getElem?_eq_getElem h]
 simp
theorem flat_lt {α β : Type} (f : α → List β) {l : List α} {k : Nat} (z : α) (h : k < l.length) : ((l.take k).flatMap f).length + (f (l.getD k z)).length ≤ (l.flatMap f).length := by
 have h1 := congrArg (fun x => (List.flatMap f x).length) (List.take_append_drop (k + 1) l)
 simp only [List.flatMap_append, List.length_append] at h1
 rw [qEI f z h, List.length_append] at h1
 omega
theorem putP.walk (base bo bv : Nat) (K : List (Nat × Obj)) (P : List (S25 × S69)) (x : S25) (y : S69) (w0 W : World) (HM : PQ base W bo bv K P) (hB : Below base w0 W) (hl : (P.length + 1) * 48 ≤ 140737488355328) :
  Calls Tryz.prog 23 #[.agg #[.string x.f0, .string x.f1, .int .i64 x.f2, .int .i64 x.f3], .int .i64 y.f0, .int .i64 y.f1, .pointer (some ⟨bo, 0, none⟩), .pointer (some ⟨bv, 0, none⟩)] W fun e W' => e = .returned (.tuple #[]) ∧ PQ base W' bo bv K (P ++ [(x, y)]) ∧ Below base w0 W' := by
 refine (put.walk base bo bv K _ _ x y w0 W HM hB (PM.bv_lt HM) (by simpa using hl) (by simp; omega)).mono ?_
 rintro e W' ⟨he, hM, hb⟩
 exact ⟨he, by unfold PQ; simpa using hM, hb⟩
set_option maxHeartbeats 4000000 in
set_option maxRecDepth 100000 in
theorem qC5.walk (A0 : Option Addr) (c0 : Nat) (l0 : List (S49)) (r1 : List S25) (r2 : List S69) (w : World) (hr0 : Kd.C k49 w A0 l0.length l0) (hc0 : l0.length ≤ c0) (h : qC5.f l0 = some (r1, r2)) :
  Calls Tryz.prog 6 #[.slice A0 l0.length c0] w fun e w' => ∃ vo vv, e = .returned (.tuple #[vo, vv]) ∧ w'.ownsRow w.heap.size 25 4 vo r1.length (r1.flatMap enc25) ∧ w'.ownsRow w.heap.size 69 2 vv r2.length (r2.flatMap enc32) ∧ (∀ g, vo.ownBlock = some g → vv.ownBlock ≠ some g) ∧ Below w.heap.size w w' := by
 have hm := Kd.qE9 hr0
 have HM : qA0 ((qC9 l0).length * 48 ≤ 140737488355328) := ⟨by unfold qC5.f at h; split at h; assumption; cases h⟩
 have HP0 : qA0 (PQ w.heap.size ((w.alloc (.cells #[.slice none 0 0] 30)).alloc (.cells #[.slice none 0 0] 31)) w.heap.size (w.heap.size + 1) [] (qC9 (l0.take 0))) := ⟨PM.start w⟩
 have HB0 : qA0 (Below w.heap.size w ((w.alloc (.cells #[.slice none 0 0] 30)).alloc (.cells #[.slice none 0 0] 31))) := ⟨qAA (qAA (Below.refl _ _) _) _⟩
 have HR := zq hr0
 clear hr0
 go_enter Tryz.func6, Tryz.ntmps6
 go_wp2_with fail
 go_loopw [23] (fun i wr => ∃ k : Nat, k ≤ l0.length ∧ i = .int .i64 k ∧ qA0 (PR w wr [] (qC9 (l0.take k))) ∧ qA0 (Below w.heap.size w wr)) (fun i _ => l0.length - (intOf i).toNat)
 case atStart => exact ⟨0, Nat.zero_le _, rfl, HP0, HB0⟩
 case round =>
  obtain ⟨k, hk, rfl, HP, HB⟩ := hrel
  clear HP0 HB0
  by_cases hlt : k < l0.length
  ·have hC := HR.out
   obtain ⟨ad, A3, c3, A4, c4, A5, c5, rfl, hx0, hx1, hx2, hx3, hx4, hx5, hl3, hi3, hl4, hi4, hl5, hi5⟩ := qEY hC (k : Int) (by omega) (by omega)
   have e_ : qA4 l0 (k : Int) = l0.getD k z49 := by simp [qA4]
   rw [e_] at hx0 hx1 hx2 hx3 hx4 hx5 hl3 hi3 hl4 hi4 hl5 hi5
   simp only [Int.toNat_natCast] at hx0 hx1 hx2 hx3 hx4 hx5
   clear e_
   generalize hy_ : l0.getD k z49 = y at *
   replace hx0 := qA2 HB.out hx0
   replace hx1 := qA2 HB.out hx1
   replace hx2 := qA2 HB.out hx2
   replace hx3 := qA2 HB.out hx3
   replace hx4 := qA2 HB.out hx4
   replace hx5 := qA2 HB.out hx5
   clear hC
   have HLy := zq (show (qC9 (l0.take k)).length + (actP y).length ≤ (qC9 l0).length by rw [← hy_]; exact flat_lt actP z49 hlt)
   go_wp2_with ((with_reducible refine qC8 (t := 49) (p := 8) rfl ?_); refine qD2 (t := 49) (p := 8) (g := wr.heap.size) (cur := #[.string ⟨#[]⟩, .int .i64 0, .int .i64 0, .slice none 0 0, .slice none 0 0, .slice none 0 0]) (e := 49) rfl rfl rfl rfl rfl (heap_alloc_new _ _) [.string y.f0, .int .i64 y.f1, .int .i64 y.f2, .slice A3 y.f3.length c3, .slice A4 y.f4.length c4, .slice A5 y.f5.length c5] rfl rfl rfl ?h1 ?_; (case h1 => intro q hq_; simp only [List.mem_cons, List.not_mem_nil, or_false] at hq_; rcases hq_ with rfl | rfl | rfl | rfl | rfl | rfl <;> rfl); intro w4 hblk hsame hB_; have hb_ := hB_ _ _ (qAA (Below.refl wr.heap.size wr) _) (Nat.le_refl _); have HPn : qA0 (PR w w4 [b48 wr y A3 A4 A5 c3 c4 c5] (qC9 (l0.take k))) := ⟨PM.grow HP.out hb_ (Nat.le_refl _) hblk⟩; have HBn := zq (qA7 HB.out hb_); clear hB_ hsame hblk hb_; have u0 : w4.cell? ⟨wr.heap.size, 0, none⟩ = some (.string y.f0) := (qA1 (PM.at_ HPn.out (List.mem_cons_self ..)) 0).trans rfl; have u4 : w4.cell? ⟨wr.heap.size, 4, none⟩ = some (.slice A4 y.f4.length c4) := (qA1 (PM.at_ HPn.out (List.mem_cons_self ..)) 4).trans rfl; have u5 : w4.cell? ⟨wr.heap.size, 5, none⟩ = some (.slice A5 y.f5.length c5) := (qA1 (PM.at_ HPn.out (List.mem_cons_self ..)) 5).trans rfl; clear hx0 hx1 hx2 hx3 hx4 hx5)
   have hm4 := Kd.qE9 hi4
   have hm5 := Kd.qE9 hi5
   obtain ⟨wo, hwo⟩ : ∃ v, v = wr := ⟨_, rfl⟩
   subst hwo
   go_loopw [30] (fun i wx => ∃ j : Nat, j ≤ y.f4.length ∧ i = .int .i64 j ∧ qA0 (PR w wx [b48 wo y A3 A4 A5 c3 c4 c5] (qC9 (l0.take k) ++ (y.f4.take j).flatMap (qCC y))) ∧ qA0 (Below w.heap.size w wx)) (fun i _ => y.f4.length - (intOf i).toNat)
   case atStart => exact ⟨0, Nat.zero_le _, rfl, ⟨by simpa using HPn.out⟩, HBn⟩
   case round =>
    clear HPn HBn HP HB u0 u4 u5
    obtain ⟨j, hj, rfl, HP, HB⟩ := hrel
    by_cases hjlt : j < y.f4.length
    ·obtain ⟨at_, B4, d4, rfl, ht0, ht1, ht2, ht3, ht4, hlt4, hit4⟩ := at_T73 hi4 (j : Int) (by omega) (by omega)
     have e_ : qAK y.f4 (j : Int) = y.f4.getD j z73 := by simp [qAK]
     rw [e_] at ht0 ht1 ht2 ht3 ht4 hlt4 hit4
     simp only [Int.toNat_natCast] at ht0 ht1 ht2 ht3 ht4
     clear e_
     generalize ht_ : y.f4.getD j z73 = t at *
     replace ht0 := qA2 HB.out ht0
     replace ht1 := qA2 HB.out ht1
     replace ht2 := qA2 HB.out ht2
     replace ht3 := qA2 HB.out ht3
     replace ht4 := qA2 HB.out ht4
     have HLt := zq (show ((y.f4.take j).flatMap (qCC y)).length + (qCC y t).length ≤ (actP y).length by rw [← ht_]; have := flat_lt (qCC y) z73 hjlt; unfold actP; rw [List.length_append]; omega)
     go_wp2_with ((with_reducible refine qC8 (t := 73) (p := 10) rfl ?_); refine qD2 (t := 73) (p := 10) (g := wr.heap.size) (cur := #[.string ⟨#[]⟩, .int .i64 0, .int .i64 0, .bool false, .slice none 0 0]) (e := 73) rfl rfl rfl rfl rfl (heap_alloc_new _ _) [.string t.f0, .int .i64 t.f1, .int .i64 t.f2, .bool t.f3, .slice B4 t.f4.length d4] rfl rfl rfl ?h1 ?_; (case h1 => intro q hq_; simp only [List.mem_cons, List.not_mem_nil, or_false] at hq_; rcases hq_ with rfl | rfl | rfl | rfl | rfl <;> rfl); intro w5 hblk hsame hB_; have hb_ := hB_ _ _ (qAA (Below.refl wr.heap.size wr) _) (Nat.le_refl _); have HPn : qA0 (PR w w5 [b69 wr t B4 d4, b48 wo y A3 (some at_) A5 c3 c4 c5] (qC9 (l0.take k) ++ (y.f4.take j).flatMap (qCC y))) := ⟨PM.grow HP.out hb_ (Nat.le_refl _) hblk⟩; have HBn := zq (qA7 HB.out hb_); clear hB_ hsame hblk hb_; have v0 : w5.cell? ⟨wr.heap.size, 0, none⟩ = some (.string t.f0) := (qA1 (PM.at_ HPn.out (List.mem_cons_self ..)) 0).trans rfl; have v4 : w5.cell? ⟨wr.heap.size, 4, none⟩ = some (.slice B4 t.f4.length d4) := (qA1 (PM.at_ HPn.out (List.mem_cons_self ..)) 4).trans rfl; clear ht0 ht1 ht2 ht3 ht4)
     have hmt := Kd.qE9 hit4
     obtain ⟨wt, hwt⟩ : ∃ v, v = wr := ⟨_, rfl⟩
     subst hwt
     go_loopw [37] (fun i wx => ∃ q : Nat, q ≤ t.f4.length ∧ i = .int .i64 q ∧ qA0 (PR w wx [b69 wt t B4 d4, b48 wo y A3 (some at_) A5 c3 c4 c5] (qC9 (l0.take k) ++ (y.f4.take j).flatMap (qCC y) ++ upto (fun i => qF9 y t i (t.f4.getD i z75)) q)) ∧ qA0 (Below w.heap.size w wx)) (fun i _ => t.f4.length - (intOf i).toNat)
     case atStart => exact ⟨0, Nat.zero_le _, rfl, ⟨by simpa [upto] using HPn.out⟩, HBn⟩
     case round =>
      clear HPn HBn HP HB v0 v4
      obtain ⟨q, hq, rfl, HP, HB⟩ := hrel
      by_cases hqlt : q < t.f4.length
      ·obtain ⟨as_, rfl, hs0, hs1⟩ := at_T75 hit4 (q : Int) (by omega) (by omega)
       have e_ : qD0 t.f4 (q : Int) = t.f4.getD q z75 := by simp [qD0]
       rw [e_] at hs0 hs1 
       simp only [Int.toNat_natCast] at hs0 hs1
       clear e_
       generalize hs_ : t.f4.getD q z75 = s at *
       replace hs0 := qA2 HB.out hs0
       replace hs1 := qA2 HB.out hs1
       have HLs := zq (show (qC9 (l0.take k) ++ (y.f4.take j).flatMap (qCC y) ++ upto (fun i => qF9 y t i (t.f4.getD i z75)) q).length + 2 ≤ (qC9 l0).length by have h1 := HLy.out; have h2 := HLt.out; have h3 : (upto (fun i => qF9 y t i (t.f4.getD i z75)) q).length + 2 ≤ (qCC y t).length := upto_lt (fun i => qF9 y t i (t.f4.getD i z75)) hqlt; simp only [List.length_append] at h1 h2 h3 ⊢; omega)
       have HPn : qA0 (PR w (wr.alloc (.cells #[.int .i64 s.f0, .int .i64 s.f1] 75)) [b76 wr s, b69 wt t (some as_) d4, b48 wo y A3 (some at_) A5 c3 c4 c5] (qC9 (l0.take k) ++ (y.f4.take j).flatMap (qCC y) ++ upto (fun i => qF9 y t i (t.f4.getD i z75)) q)) := ⟨PM.grow HP.out (qAA (Below.refl wr.heap.size wr) _) (Nat.le_refl _) (heap_alloc_new _ _)⟩
       have HBn := zq (qA7 HB.out (qAA (Below.refl wr.heap.size wr) (.cells #[.int .i64 s.f0, .int .i64 s.f1] 75)))
       have hk_ : (wr.alloc (.cells #[.int .i64 s.f0, .int .i64 s.f1] 75)).heap[wo.heap.size]? = some (.cells #[.string y.f0, .int .i64 y.f1, .int .i64 y.f2, .slice A3 y.f3.length c3, .slice (some at_) y.f4.length c4, .slice A5 y.f5.length c5] 49 (0, 0)) := PM.at_ HPn.out (by simp)
       have u0_ := (qA1 hk_ 0).trans rfl
       clear hk_
       have hk_ : (wr.alloc (.cells #[.int .i64 s.f0, .int .i64 s.f1] 75)).heap[wt.heap.size]? = some (.cells #[.string t.f0, .int .i64 t.f1, .int .i64 t.f2, .bool t.f3, .slice (some as_) t.f4.length d4] 73 (0, 0)) := PM.at_ HPn.out (by simp)
       have v0_ := (qA1 hk_ 0).trans rfl
       have v1_ := (qA1 hk_ 1).trans rfl
       have v2_ := (qA1 hk_ 2).trans rfl
       have v3_ := (qA1 hk_ 3).trans rfl
       clear hk_
       have hk_ : (wr.alloc (.cells #[.int .i64 s.f0, .int .i64 s.f1] 75)).heap[wr.heap.size]? = some (.cells #[.int .i64 s.f0, .int .i64 s.f1] 75 (0, 0)) := PM.at_ HPn.out (by simp)
       have r0_ := (qA1 hk_ 0).trans rfl
       have r1_ := (qA1 hk_ 1).trans rfl
       clear hk_
       clear HP HB
       by_cases hsl : t.f3 = true
       ·rw [hsl] at v3_
        have HS := zq hsl
        clear hsl
        go_wp2_with fail
        refine (putP.walk w.heap.size w.heap.size (w.heap.size + 1) _ _ ⟨y.f0, t.f0, 2, (q : Int)⟩ ⟨t.f1, s.f0⟩ w _ HPn.out HBn.out ?hl).mono ?_
        case hl => have h1_ := HM.out; have h2_ := HLs.out; simp only [List.length_append, List.length_cons, List.length_nil] at h2_ ⊢; omega
        rintro e w7 ⟨rfl, HP_, HB_⟩
        have HP7 := zq HP_
        have HB7 := zq HB_
        clear HP_ HB_ HPn HBn
        clear u0_ v0_ v1_ v2_ v3_ r0_ r1_
        have hk_ : w7.heap[wo.heap.size]? = some (.cells #[.string y.f0, .int .i64 y.f1, .int .i64 y.f2, .slice A3 y.f3.length c3, .slice (some at_) y.f4.length c4, .slice A5 y.f5.length c5] 49 (0, 0)) := PM.at_ HP7.out (by simp)
        have u0_ := (qA1 hk_ 0).trans rfl
        clear hk_
        have hk_ : w7.heap[wt.heap.size]? = some (.cells #[.string t.f0, .int .i64 t.f1, .int .i64 t.f2, .bool t.f3, .slice (some as_) t.f4.length d4] 73 (0, 0)) := PM.at_ HP7.out (by simp)
        have v0_ := (qA1 hk_ 0).trans rfl
        clear hk_
        have hk_ : w7.heap[wr.heap.size]? = some (.cells #[.int .i64 s.f0, .int .i64 s.f1] 75 (0, 0)) := PM.at_ HP7.out (by simp)
        have r1_ := (qA1 hk_ 1).trans rfl
        clear hk_
        go_wp2_with fail
        refine (putP.walk w.heap.size w.heap.size (w.heap.size + 1) _ _ ⟨y.f0, t.f0, 3, (q : Int)⟩ ⟨6, s.f1⟩ w _ HP7.out HB7.out ?hl).mono ?_
        case hl => have h1_ := HM.out; have h2_ := HLs.out; simp only [List.length_append, List.length_cons, List.length_nil] at h2_ ⊢; omega
        rintro e w8 ⟨rfl, HP_, HB_⟩
        have HP8 := zq HP_
        have HB8 := zq HB_
        clear HP_ HB_ HP7 HB7
        clear u0_ v0_ r1_
        have e_ : (qC9 (l0.take k) ++ (y.f4.take j).flatMap (qCC y) ++ upto (fun i => qF9 y t i (t.f4.getD i z75)) (q + 1)) = (qC9 (l0.take k) ++ (y.f4.take j).flatMap (qCC y) ++ upto (fun i => qF9 y t i (t.f4.getD i z75)) q) ++ [(⟨y.f0, t.f0, 2, (q : Int)⟩, ⟨t.f1, s.f0⟩)] ++ [(⟨y.f0, t.f0, 3, (q : Int)⟩, ⟨6, s.f1⟩)] := by rw [qDP, hs_]; have hsl := HS.out; simp [qF9, hsl]
        have HP9 : qA0 (PR w w8 [b69 wt t (some as_) d4, b48 wo y A3 (some at_) A5 c3 c4 c5] (qC9 (l0.take k) ++ (y.f4.take j).flatMap (qCC y) ++ upto (fun i => qF9 y t i (t.f4.getD i z75)) (q + 1))) := ⟨by rw [e_]; exact PM.sub HP8.out (fun p hp => zz _ hp)⟩
        clear HP8
        go_wp2_with fail
        go_roundw
        case rel => exact ⟨q + 1, by omega, by first | rfl | (simp; done) | rw [Int.natCast_add]; rfl, HP9, HB8⟩
        case measure => show t.f4.length - ((q : Int) + 1).toNat < t.f4.length - (q : Int).toNat; omega
       replace hsl := Bool.eq_false_iff.2 hsl
       rw [hsl] at v3_
       have HS := zq hsl
       clear hsl
       go_wp2_with fail
       refine (putP.walk w.heap.size w.heap.size (w.heap.size + 1) _ _ ⟨y.f0, t.f0, 2, (q : Int)⟩ ⟨t.f1, s.f0⟩ w _ HPn.out HBn.out ?hl).mono ?_
       case hl => have h1_ := HM.out; have h2_ := HLs.out; simp only [List.length_append, List.length_cons, List.length_nil] at h2_ ⊢; omega
       rintro e w7 ⟨rfl, HP_, HB_⟩
       have HP7 := zq HP_
       have HB7 := zq HB_
       clear HP_ HB_ HPn HBn
       clear u0_ v0_ v1_ v2_ v3_ r0_ r1_
       have hk_ : w7.heap[wo.heap.size]? = some (.cells #[.string y.f0, .int .i64 y.f1, .int .i64 y.f2, .slice A3 y.f3.length c3, .slice (some at_) y.f4.length c4, .slice A5 y.f5.length c5] 49 (0, 0)) := PM.at_ HP7.out (by simp)
       have u0_ := (qA1 hk_ 0).trans rfl
       clear hk_
       have hk_ : w7.heap[wt.heap.size]? = some (.cells #[.string t.f0, .int .i64 t.f1, .int .i64 t.f2, .bool t.f3, .slice (some as_) t.f4.length d4] 73 (0, 0)) := PM.at_ HP7.out (by simp)
       have v0_ := (qA1 hk_ 0).trans rfl
       clear hk_
       have hk_ : w7.heap[wr.heap.size]? = some (.cells #[.int .i64 s.f0, .int .i64 s.f1] 75 (0, 0)) := PM.at_ HP7.out (by simp)
       have r1_ := (qA1 hk_ 1).trans rfl
       clear hk_
       go_wp2_with fail
       refine (putP.walk w.heap.size w.heap.size (w.heap.size + 1) _ _ ⟨y.f0, t.f0, 3, (q : Int)⟩ ⟨t.f2, s.f1⟩ w _ HP7.out HB7.out ?hl).mono ?_
       case hl => have h1_ := HM.out; have h2_ := HLs.out; simp only [List.length_append, List.length_cons, List.length_nil] at h2_ ⊢; omega
       rintro e w8 ⟨rfl, HP_, HB_⟩
       have HP8 := zq HP_
       have HB8 := zq HB_
       clear HP_ HB_ HP7 HB7
       clear u0_ v0_ r1_
       have e_ : (qC9 (l0.take k) ++ (y.f4.take j).flatMap (qCC y) ++ upto (fun i => qF9 y t i (t.f4.getD i z75)) (q + 1)) = (qC9 (l0.take k) ++ (y.f4.take j).flatMap (qCC y) ++ upto (fun i => qF9 y t i (t.f4.getD i z75)) q) ++ [(⟨y.f0, t.f0, 2, (q : Int)⟩, ⟨t.f1, s.f0⟩)] ++ [(⟨y.f0, t.f0, 3, (q : Int)⟩, ⟨t.f2, s.f1⟩)] := by rw [qDP, hs_]; have hsl := HS.out; simp [qF9, hsl]
       have HP9 : qA0 (PR w w8 [b69 wt t (some as_) d4, b48 wo y A3 (some at_) A5 c3 c4 c5] (qC9 (l0.take k) ++ (y.f4.take j).flatMap (qCC y) ++ upto (fun i => qF9 y t i (t.f4.getD i z75)) (q + 1))) := ⟨by rw [e_]; exact PM.sub HP8.out (fun p hp => zz _ hp)⟩
       clear HP8
       go_wp2_with fail
       go_roundw
       case rel => exact ⟨q + 1, by omega, by first | rfl | (simp; done) | rw [Int.natCast_add]; rfl, HP9, HB8⟩
       case measure => show t.f4.length - ((q : Int) + 1).toNat < t.f4.length - (q : Int).toNat; omega
      ·obtain rfl : q = t.f4.length := by omega
       have HP9 : qA0 (PR w wr [b48 wo y A3 (some at_) A5 c3 c4 c5] (qC9 (l0.take k) ++ (y.f4.take (j + 1)).flatMap (qCC y))) := ⟨by rw [qEI (qCC y) z73 hjlt, ht_, ← List.append_assoc]; exact PM.sub HP.out (fun p hp => zz _ hp)⟩
       clear HP
       go_wp2_with fail
       go_roundw
       case rel => exact ⟨j + 1, by omega, by first | rfl | (simp; done) | rw [Int.natCast_add]; rfl, HP9, HB⟩
       case measure => show y.f4.length - ((j : Int) + 1).toNat < y.f4.length - (j : Int).toNat; omega
    ·obtain rfl : j = y.f4.length := by omega
     rw [List.take_length] at HP
     have hk_ : wr.heap[wo.heap.size]? = some (.cells #[.string y.f0, .int .i64 y.f1, .int .i64 y.f2, .slice A3 y.f3.length c3, .slice A4 y.f4.length c4, .slice A5 y.f5.length c5] 49 (0, 0)) := PM.at_ HP.out (by simp)
     have z0_ := (qA1 hk_ 0).trans rfl
     have z5_ := (qA1 hk_ 5).trans rfl
     clear hk_
     go_wp2_with fail
     clear z0_ z5_
     obtain ⟨wa, hwa⟩ : ∃ v, v = wr := ⟨_, rfl⟩
     subst hwa
     go_loopw [74] (fun i wx => ∃ m : Nat, m ≤ y.f5.length ∧ i = .int .i64 m ∧ qA0 (PR w wx [b48 wo y A3 A4 A5 c3 c4 c5] (qC9 (l0.take k) ++ y.f4.flatMap (qCC y) ++ (y.f5.take m).flatMap (artP y))) ∧ qA0 (Below w.heap.size w wx)) (fun i _ => y.f5.length - (intOf i).toNat)
     case atStart => exact ⟨0, Nat.zero_le _, rfl, ⟨by simpa using HP.out⟩, HB⟩
     case round =>
      clear HP HB
      obtain ⟨m, hm_, rfl, HP, HB⟩ := hrel
      by_cases hmlt : m < y.f5.length
      ·obtain ⟨ax_, B2, d2, B3, d3, B4, d4, rfl, hx0, hx1, hx2, hx3, hx4, hx5, hlx2, hix2, hlx3, hix3, hlx4, hix4⟩ := at_T55 hi5 (m : Int) (by omega) (by omega)
       have e_ : qAY y.f5 (m : Int) = y.f5.getD m z55 := by simp [qAY]
       rw [e_] at hx0 hx1 hx2 hx3 hx4 hx5 hlx2 hix2 hlx3 hix3 hlx4 hix4
       simp only [Int.toNat_natCast] at hx0 hx1 hx2 hx3 hx4 hx5
       clear e_
       generalize hx_ : y.f5.getD m z55 = x at *
       replace hx0 := qA2 HB.out hx0
       replace hx1 := qA2 HB.out hx1
       replace hx2 := qA2 HB.out hx2
       replace hx3 := qA2 HB.out hx3
       replace hx4 := qA2 HB.out hx4
       replace hx5 := qA2 HB.out hx5
       have HLx := zq (show (y.f4.flatMap (qCC y)).length + ((y.f5.take m).flatMap (artP y)).length + (artP y x).length ≤ (actP y).length by rw [← hx_]; have := flat_lt (artP y) z55 hmlt; unfold actP; rw [List.length_append]; omega)
       have hmx2 := Kd.qE9 hix2
       have hmx3 := Kd.qE9 hix3
       go_wp2_with ((with_reducible refine qC8 (t := 55) (p := 15) rfl ?_); refine qD2 (t := 55) (p := 15) (g := wr.heap.size) (cur := #[.string ⟨#[]⟩, .string ⟨#[]⟩, .slice none 0 0, .slice none 0 0, .slice none 0 0, .int .i64 0]) (e := 55) rfl rfl rfl rfl rfl (heap_alloc_new _ _) [.string x.f0, .string x.f1, .slice B2 x.f2.length d2, .slice B3 x.f3.length d3, .slice B4 x.f4.length d4, .int .i64 x.f5] rfl rfl rfl ?h1 ?_; (case h1 => intro q hq_; simp only [List.mem_cons, List.not_mem_nil, or_false] at hq_; rcases hq_ with rfl | rfl | rfl | rfl | rfl | rfl <;> rfl); intro w9 hblk hsame hB_; have hb_ := hB_ _ _ (qAA (Below.refl wr.heap.size wr) _) (Nat.le_refl _); have HPn : qA0 (PR w w9 [b54 wr x B2 B3 B4 d2 d3 d4, b48 wo y A3 A4 (some ax_) c3 c4 c5] (qC9 (l0.take k) ++ y.f4.flatMap (qCC y) ++ (y.f5.take m).flatMap (artP y))) := ⟨PM.grow HP.out hb_ (Nat.le_refl _) hblk⟩; have HBn := zq (qA7 HB.out hb_); clear hB_ hsame hblk hb_; have u2_ := (qA1 (PM.at_ HPn.out (List.mem_cons_self ..)) 2).trans rfl; have u3_ := (qA1 (PM.at_ HPn.out (List.mem_cons_self ..)) 3).trans rfl; clear hx0 hx1 hx2 hx3 hx4 hx5)
       obtain ⟨wx, hwx⟩ : ∃ v, v = wr := ⟨_, rfl⟩
       subst hwx
       have HPm : qA0 (PR w (w9.alloc (.cells #[.slice B2 x.f2.length d2, .slice B3 x.f3.length d3] 53)) [bE w9 x B2 B3 d2 d3, b54 wx x B2 B3 B4 d2 d3 d4, b48 wo y A3 A4 (some ax_) c3 c4 c5] (qC9 (l0.take k) ++ y.f4.flatMap (qCC y) ++ (y.f5.take m).flatMap (artP y))) := ⟨PM.grow HPn.out (qAA (Below.refl w9.heap.size w9) _) (Nat.le_refl _) (heap_alloc_new _ _)⟩
       have HBm := zq (qA7 HBn.out (qAA (Below.refl w9.heap.size w9) (.cells #[.slice B2 x.f2.length d2, .slice B3 x.f3.length d3] 53)))
       go_loopw [84] (fun i wv => ∃ p : Nat, p ≤ 2 ∧ i = .int .i64 p ∧ qA0 (PR w wv [bE w9 x B2 B3 d2 d3, b54 wx x B2 B3 B4 d2 d3 d4, b48 wo y A3 A4 (some ax_) c3 c4 c5] (qC9 (l0.take k) ++ y.f4.flatMap (qCC y) ++ (y.f5.take m).flatMap (artP y) ++ upto (fun p => qES y x (p : Int) ([x.f2, x.f3].getD p [])) p)) ∧ qA0 (Below w.heap.size w wv)) (fun i _ => 2 - (intOf i).toNat)
       case atStart => exact ⟨0, Nat.zero_le _, rfl, ⟨by simpa [upto] using HPm.out⟩, HBm⟩
       case round =>
        clear HPn HBn HPm HBm HP HB u2_ u3_
        obtain ⟨p, hp_, rfl, HP, HB⟩ := hrel
        by_cases hplt : p < 2
        ·obtain ⟨AE, dE, E, hE, hEp, hlE, hcE⟩ : ∃ AE dE, ∃ E : List S79, wr.cell? ⟨w9.heap.size, p, none⟩ = some (.slice AE E.length dE) ∧ [x.f2, x.f3].getD p [] = E ∧ E.length ≤ dE ∧ Kd.C k79 w AE E.length E := by
          have hk_ := qA1 (PM.at_ HP.out (b := w9.heap.size) (o := Obj.cells #[.slice B2 x.f2.length d2, .slice B3 x.f3.length d3] 53 (0, 0)) (by simp)) p
          rcases (by omega : p = 0 ∨ p = 1) with rfl | rfl
          ·exact ⟨B2, d2, x.f2, hk_.trans rfl, rfl, hlx2, hix2⟩
          ·exact ⟨B3, d3, x.f3, hk_.trans rfl, rfl, hlx3, hix3⟩
         have hmE := Kd.qE9 hcE
         have hpm : (p : Int) < 2 := by omega
         go_wp2_with fail
         obtain ⟨wp, hwp⟩ : ∃ v, v = wr := ⟨_, rfl⟩
         subst hwp
         go_loopw [91] (fun i wv => ∃ r : Nat, r ≤ E.length ∧ i = .int .i64 r ∧ qA0 (PR w wv [bE w9 x B2 B3 d2 d3, b54 wx x B2 B3 B4 d2 d3 d4, b48 wo y A3 A4 (some ax_) c3 c4 c5] (qC9 (l0.take k) ++ y.f4.flatMap (qCC y) ++ (y.f5.take m).flatMap (artP y) ++ upto (fun p => qES y x (p : Int) ([x.f2, x.f3].getD p [])) p ++ upto (fun i => qEG y x (p : Int) i (E.getD i z79)) r)) ∧ qA0 (Below w.heap.size w wv)) (fun i _ => E.length - (intOf i).toNat)
         case atStart => exact ⟨0, Nat.zero_le _, rfl, ⟨by simpa [upto] using HP.out⟩, HB⟩
         case round =>
          clear HP HB hE
          obtain ⟨r, hr_, rfl, HP, HB⟩ := hrel
          by_cases hrlt : r < E.length
          ·obtain ⟨ae_, Ak, e1, rfl, hn0, hn1, hn2, hn3, hn4, hln1, hin1⟩ := at_T79 hcE (r : Int) (by omega) (by omega)
           have e_ : qA3 E (r : Int) = E.getD r z79 := by simp [qA3]
           rw [e_] at hn0 hn1 hn2 hn3 hn4 hln1 hin1
           simp only [Int.toNat_natCast] at hn0 hn1 hn2 hn3 hn4
           clear e_
           generalize hn_ : E.getD r z79 = n at *
           replace hn0 := qA2 HB.out hn0
           replace hn1 := qA2 HB.out hn1
           replace hn2 := qA2 HB.out hn2
           replace hn3 := qA2 HB.out hn3
           replace hn4 := qA2 HB.out hn4
           have HLn := zq (show (qC9 (l0.take k) ++ y.f4.flatMap (qCC y) ++ (y.f5.take m).flatMap (artP y) ++ upto (fun p => qES y x (p : Int) ([x.f2, x.f3].getD p [])) p ++ upto (fun i => qEG y x (p : Int) i (E.getD i z79)) r).length + (qEG y x (p : Int) r n).length ≤ (qC9 l0).length by have h1 := HLy.out; have h2 := HLx.out; have h3 : (upto (fun i => qEG y x (p : Int) i (E.getD i z79)) r).length + (qEG y x (p : Int) r n).length ≤ (qES y x (p : Int) E).length := (by rw [← hn_]; exact upto_lt (fun i => qEG y x (p : Int) i (E.getD i z79)) hrlt); have h4 : (upto (fun p => qES y x (p : Int) ([x.f2, x.f3].getD p [])) p).length + (qES y x (p : Int) E).length ≤ (artP y x).length := (by rw [← hEp]; have h5 := upto_lt (fun p => qES y x (p : Int) ([x.f2, x.f3].getD p [])) hplt; have h6 : (upto (fun p => qES y x (p : Int) ([x.f2, x.f3].getD p [])) 2).length = (artP y x).length := (by simp [upto, List.range_succ, artP]); rw [← h6]; exact h5); simp only [List.length_append] at h1 h2 h3 h4 ⊢; omega)
           by_cases h0 : n.f0 = 0
           ·have h0b : (n.f0 == 0) = true := beq_iff_eq.2 h0
            by_cases h2 : n.f2 = 1
            ·have h2b : (n.f2 != 1) = false := by rw [h2]; rfl
             have HS : qA0 (n.f0 ≠ 0 ∨ n.f2 = 1) := ⟨.inr h2⟩
             clear h0 h2
             go_wp2_with ((with_reducible refine qC8 (t := 79) (p := 19) rfl ?_); refine qD2 (t := 79) (p := 19) (g := wr.heap.size) (cur := #[.int .i64 0, .slice none 0 0, .int .i64 0, .int .i64 0, .string ⟨#[]⟩]) (e := 79) rfl rfl rfl rfl rfl (heap_alloc_new _ _) [.int .i64 n.f0, .slice Ak n.f1.length e1, .int .i64 n.f2, .int .i64 n.f3, .string n.f4] rfl rfl rfl ?h1 ?_; (case h1 => intro q hq_; simp only [List.mem_cons, List.not_mem_nil, or_false] at hq_; rcases hq_ with rfl | rfl | rfl | rfl | rfl <;> rfl); intro w11 hblk hsame hB_; have hb_ := hB_ _ _ (qAA (Below.refl wr.heap.size wr) _) (Nat.le_refl _); have HPn : qA0 (PR w w11 [b80 wr n Ak e1, bE w9 x B2 B3 d2 d3, b54 wx x B2 B3 B4 d2 d3 d4, b48 wo y A3 A4 (some ax_) c3 c4 c5] (qC9 (l0.take k) ++ y.f4.flatMap (qCC y) ++ (y.f5.take m).flatMap (artP y) ++ upto (fun p => qES y x (p : Int) ([x.f2, x.f3].getD p [])) p ++ upto (fun i => qEG y x (p : Int) i (E.getD i z79)) r)) := ⟨PM.grow HP.out hb_ (Nat.le_refl _) hblk⟩; have HBn := zq (qA7 HB.out hb_); clear hB_ hsame hblk hb_; have u0_ := (qA1 (PM.at_ HPn.out (List.mem_cons_self ..)) 0).trans rfl; have u2_ := (qA1 (PM.at_ HPn.out (List.mem_cons_self ..)) 2).trans rfl; clear hn0 hn1 hn2 hn3 hn4)
             have HP9 : qA0 (PR w w11 [bE w9 x B2 B3 d2 d3, b54 wx x B2 B3 B4 d2 d3 d4, b48 wo y A3 A4 (some ax_) c3 c4 c5] (qC9 (l0.take k) ++ y.f4.flatMap (qCC y) ++ (y.f5.take m).flatMap (artP y) ++ upto (fun p => qES y x (p : Int) ([x.f2, x.f3].getD p [])) p ++ upto (fun i => qEG y x (p : Int) i (E.getD i z79)) (r + 1))) := ⟨by rw [qDP, hn_, show qEG y x (p : Int) r n = [] from if_pos HS.out, List.append_nil]; exact PM.sub HPn.out (fun p hp => zz _ hp)⟩
             go_roundw
             case rel => exact ⟨r + 1, by omega, by first | rfl | (simp; done) | rw [Int.natCast_add]; rfl, HP9, HBn⟩
             case measure => show E.length - ((r : Int) + 1).toNat < E.length - (r : Int).toNat; omega
            ·have h2b : (n.f2 != 1) = true := bne_iff_ne.2 h2
             have HS : qA0 (¬(n.f0 ≠ 0 ∨ n.f2 = 1)) := ⟨fun e => e.elim (fun e => e h0) h2⟩
             clear h0 h2
             go_wp2_with ((with_reducible refine qC8 (t := 79) (p := 19) rfl ?_); refine qD2 (t := 79) (p := 19) (g := wr.heap.size) (cur := #[.int .i64 0, .slice none 0 0, .int .i64 0, .int .i64 0, .string ⟨#[]⟩]) (e := 79) rfl rfl rfl rfl rfl (heap_alloc_new _ _) [.int .i64 n.f0, .slice Ak n.f1.length e1, .int .i64 n.f2, .int .i64 n.f3, .string n.f4] rfl rfl rfl ?h1 ?_; (case h1 => intro q hq_; simp only [List.mem_cons, List.not_mem_nil, or_false] at hq_; rcases hq_ with rfl | rfl | rfl | rfl | rfl <;> rfl); intro w11 hblk hsame hB_; have hb_ := hB_ _ _ (qAA (Below.refl wr.heap.size wr) _) (Nat.le_refl _); have HPn : qA0 (PR w w11 [b80 wr n Ak e1, bE w9 x B2 B3 d2 d3, b54 wx x B2 B3 B4 d2 d3 d4, b48 wo y A3 A4 (some ax_) c3 c4 c5] (qC9 (l0.take k) ++ y.f4.flatMap (qCC y) ++ (y.f5.take m).flatMap (artP y) ++ upto (fun p => qES y x (p : Int) ([x.f2, x.f3].getD p [])) p ++ upto (fun i => qEG y x (p : Int) i (E.getD i z79)) r)) := ⟨PM.grow HP.out hb_ (Nat.le_refl _) hblk⟩; have HBn := zq (qA7 HB.out hb_); clear hB_ hsame hblk hb_; have u0_ := (qA1 (PM.at_ HPn.out (List.mem_cons_self ..)) 0).trans rfl; have u2_ := (qA1 (PM.at_ HPn.out (List.mem_cons_self ..)) 2).trans rfl; have y0_ := (qA1 (PM.at_ (b := wo.heap.size) (o := Obj.cells #[.string y.f0, .int .i64 y.f1, .int .i64 y.f2, .slice A3 y.f3.length c3, .slice A4 y.f4.length c4, .slice (some ax_) y.f5.length c5] 49 (0, 0)) HPn.out (by simp)) 0).trans rfl; have x0_ := (qA1 (PM.at_ (b := wx.heap.size) (o := Obj.cells #[.string x.f0, .string x.f1, .slice B2 x.f2.length d2, .slice B3 x.f3.length d3, .slice B4 x.f4.length d4, .int .i64 x.f5] 55 (0, 0)) HPn.out (by simp)) 0).trans rfl; have u3_ := (qA1 (PM.at_ HPn.out (List.mem_cons_self ..)) 3).trans rfl; clear hn0 hn1 hn2 hn3 hn4)
             refine (putP.walk w.heap.size w.heap.size (w.heap.size + 1) _ _ ⟨y.f0, x.f0, (p : Int), (r : Int)⟩ ⟨n.f2, n.f3⟩ w _ HPn.out HBn.out ?hl).mono ?_
             case hl => have h1_ := HM.out; have h2_ := HLn.out; have h3_ : (qEG y x (p : Int) r n).length = 1 := (by unfold qEG; rw [if_neg HS.out]; rfl); simp only [List.length_append, List.length_cons, List.length_nil] at h2_ ⊢; omega
             rintro e w12 ⟨rfl, HP_, HB_⟩
             have HP12 := zq HP_
             have HB12 := zq HB_
             clear HP_ HB_ HPn HBn
             clear u0_ u2_ u3_ y0_ x0_
             have HP9 : qA0 (PR w w12 [bE w9 x B2 B3 d2 d3, b54 wx x B2 B3 B4 d2 d3 d4, b48 wo y A3 A4 (some ax_) c3 c4 c5] (qC9 (l0.take k) ++ y.f4.flatMap (qCC y) ++ (y.f5.take m).flatMap (artP y) ++ upto (fun p => qES y x (p : Int) ([x.f2, x.f3].getD p [])) p ++ upto (fun i => qEG y x (p : Int) i (E.getD i z79)) (r + 1))) := ⟨by rw [qDP, hn_, ← List.append_assoc, show qEG y x (p : Int) r n = [(⟨y.f0, x.f0, (p : Int), (r : Int)⟩, ⟨n.f2, n.f3⟩)] from if_neg HS.out]; exact PM.sub HP12.out (fun p hp => zz _ hp)⟩
             clear HP12
             go_wp2_with fail
             go_roundw
             case rel => exact ⟨r + 1, by omega, by first | rfl | (simp; done) | rw [Int.natCast_add]; rfl, HP9, HB12⟩
             case measure => show E.length - ((r : Int) + 1).toNat < E.length - (r : Int).toNat; omega
           ·have h0b : (n.f0 == 0) = false := beq_eq_false_iff_ne.2 h0
            have HS : qA0 (n.f0 ≠ 0 ∨ n.f2 = 1) := ⟨.inl h0⟩
            clear h0
            go_wp2_with ((with_reducible refine qC8 (t := 79) (p := 19) rfl ?_); refine qD2 (t := 79) (p := 19) (g := wr.heap.size) (cur := #[.int .i64 0, .slice none 0 0, .int .i64 0, .int .i64 0, .string ⟨#[]⟩]) (e := 79) rfl rfl rfl rfl rfl (heap_alloc_new _ _) [.int .i64 n.f0, .slice Ak n.f1.length e1, .int .i64 n.f2, .int .i64 n.f3, .string n.f4] rfl rfl rfl ?h1 ?_; (case h1 => intro q hq_; simp only [List.mem_cons, List.not_mem_nil, or_false] at hq_; rcases hq_ with rfl | rfl | rfl | rfl | rfl <;> rfl); intro w11 hblk hsame hB_; have hb_ := hB_ _ _ (qAA (Below.refl wr.heap.size wr) _) (Nat.le_refl _); have HPn : qA0 (PR w w11 [b80 wr n Ak e1, bE w9 x B2 B3 d2 d3, b54 wx x B2 B3 B4 d2 d3 d4, b48 wo y A3 A4 (some ax_) c3 c4 c5] (qC9 (l0.take k) ++ y.f4.flatMap (qCC y) ++ (y.f5.take m).flatMap (artP y) ++ upto (fun p => qES y x (p : Int) ([x.f2, x.f3].getD p [])) p ++ upto (fun i => qEG y x (p : Int) i (E.getD i z79)) r)) := ⟨PM.grow HP.out hb_ (Nat.le_refl _) hblk⟩; have HBn := zq (qA7 HB.out hb_); clear hB_ hsame hblk hb_; have u0_ := (qA1 (PM.at_ HPn.out (List.mem_cons_self ..)) 0).trans rfl; have u2_ := (qA1 (PM.at_ HPn.out (List.mem_cons_self ..)) 2).trans rfl; clear hn0 hn1 hn2 hn3 hn4)
            have HP9 : qA0 (PR w w11 [bE w9 x B2 B3 d2 d3, b54 wx x B2 B3 B4 d2 d3 d4, b48 wo y A3 A4 (some ax_) c3 c4 c5] (qC9 (l0.take k) ++ y.f4.flatMap (qCC y) ++ (y.f5.take m).flatMap (artP y) ++ upto (fun p => qES y x (p : Int) ([x.f2, x.f3].getD p [])) p ++ upto (fun i => qEG y x (p : Int) i (E.getD i z79)) (r + 1))) := ⟨by rw [qDP, hn_, show qEG y x (p : Int) r n = [] from if_pos HS.out, List.append_nil]; exact PM.sub HPn.out (fun p hp => zz _ hp)⟩
            go_roundw
            case rel => exact ⟨r + 1, by omega, by first | rfl | (simp; done) | rw [Int.natCast_add]; rfl, HP9, HBn⟩
            case measure => show E.length - ((r : Int) + 1).toNat < E.length - (r : Int).toNat; omega
          ·obtain rfl : r = E.length := by omega
           have HP9 : qA0 (PR w wr [bE w9 x B2 B3 d2 d3, b54 wx x B2 B3 B4 d2 d3 d4, b48 wo y A3 A4 (some ax_) c3 c4 c5] (qC9 (l0.take k) ++ y.f4.flatMap (qCC y) ++ (y.f5.take m).flatMap (artP y) ++ upto (fun p => qES y x (p : Int) ([x.f2, x.f3].getD p [])) (p + 1))) := ⟨by rw [qDP, ← List.append_assoc]; rw [hEp]; exact HP.out⟩
           clear HP
           go_wp2_with fail
           go_roundw
           case rel => exact ⟨p + 1, by omega, by first | rfl | (simp; done) | rw [Int.natCast_add]; rfl, HP9, HB⟩
           case measure => show 2 - ((p : Int) + 1).toNat < 2 - (p : Int).toNat; omega
        ·obtain rfl : p = 2 := by omega
         have HP9 : qA0 (PR w wr [b48 wo y A3 A4 (some ax_) c3 c4 c5] (qC9 (l0.take k) ++ y.f4.flatMap (qCC y) ++ (y.f5.take (m + 1)).flatMap (artP y))) := ⟨by rw [qEI (artP y) z55 hmlt, hx_, ← List.append_assoc, show artP y x = upto (fun p => qES y x (p : Int) ([x.f2, x.f3].getD p [])) 2 from (by simp [upto, List.range_succ, artP])]; exact PM.sub HP.out (fun p hp => zz _ (zz _ hp))⟩
         clear HP
         go_wp2_with fail
         go_roundw
         case rel => exact ⟨m + 1, by omega, by first | rfl | (simp; done) | rw [Int.natCast_add]; rfl, HP9, HB⟩
         case measure => show y.f5.length - ((m : Int) + 1).toNat < y.f5.length - (m : Int).toNat; omega
      ·obtain rfl : m = y.f5.length := by omega
       have HP9 : qA0 (PR w wr [] (qC9 (l0.take (k + 1)))) := ⟨by unfold qC9; rw [qEI actP z49 hlt, hy_]; unfold actP; rw [← List.append_assoc]; rw [List.take_length] at HP; exact PM.sub HP.out (fun p hp => by cases hp)⟩
       clear HP
       go_wp2_with fail
       go_roundw
       case rel => exact ⟨k + 1, by omega, by first | rfl | (simp; done) | rw [Int.natCast_add]; rfl, HP9, HB⟩
       case measure => show l0.length - ((k : Int) + 1).toNat < l0.length - (k : Int).toNat; omega
  ·obtain rfl : k = l0.length := by omega
   rw [List.take_length] at HP
   obtain ⟨lo, lv, ne, vo, vv, hbo, hbv, ho, hv_, n1, n2, n3, n4, n5, n6⟩ := HP.out
   have q1 : wr.cell? ⟨w.heap.size, 0, none⟩ = some vo := (qA1 hbo 0).trans rfl
   have q2 : wr.cell? ⟨w.heap.size + 1, 0, none⟩ = some vv := (qA1 hbv 0).trans rfl
   have hr : r1 = (qC9 l0).map (·.1) ∧ r2 = (qC9 l0).map (·.2) := by
    unfold qC5.f at h
    split at h
    ·injection h with h
     injection h with h1 h2
     exact ⟨h1.symm, h2.symm⟩
    ·cases h
   have HZ := zq (And.intro ho (And.intro hv_ (And.intro n5 hr)))
   clear HP hbo hbv ho hv_ n1 n2 n3 n4 n5 n6 hr lo lv ne h
   go_wp2_with fail
   repeat (go_quiet (fail); try go_wp2_with fail)
   go_ret2
   obtain ⟨z1, z2, z3, rfl, rfl⟩ := HZ.out
   exact ⟨vo, vv, rfl, z1, z2, z3, by repeat (first | exact HB.out | apply qA8)⟩
theorem reps_flat {α : Type} {R : α → List Value → Prop} {enc : α → List Value} {size : Nat} (hs : ∀ x, (enc x).length = size) (hR : ∀ x, R x (enc x)) : ∀ xs : List α, Reps R size xs (xs.flatMap enc)
 | [] => Reps.none _ _
 | x :: xs => by
  obtain ⟨h1, h2⟩ := reps_flat hs hR xs
  refine ⟨by rw [List.flatMap_cons, List.length_append, hs, h1, List.length_cons, Nat.add_mul, Nat.one_mul, Nat.add_comm], fun j p hj => ?_⟩
  cases j with
  | zero =>
   simp only [List.getElem?_cons_zero, Option.some.injEq] at hj
   subst hj
   rw [List.flatMap_cons, Nat.zero_mul, List.drop_zero, List.take_append_of_le_length (by rw [hs]; exact Nat.le_refl _), List.take_of_length_le (by rw [hs]; exact Nat.le_refl _)]
   exact hR x
  | succ j =>
   rw [List.getElem?_cons_succ] at hj
   have h3 := h2 j p hj
   rw [List.flatMap_cons, Nat.succ_mul, Nat.add_comm, ← List.drop_drop]
   rw [show List.drop size (enc x ++ xs.flatMap enc) = xs.flatMap enc from by rw [List.drop_append_of_le_length (by rw [hs]; exact Nat.le_refl _), List.drop_of_length_le (by rw [hs]; exact Nat.le_refl _), List.nil_append]]
   exact h3
theorem qC5.calls (A0 : Option Addr) (c0 : Nat) (l0 : List (S49)) (r1 : List S25) (r2 : List S69) (w : World) (hr0 : Kd.C k49 w A0 l0.length l0) (hc0 : l0.length ≤ c0) (h : qC5.f l0 = some (r1, r2)) :
  Calls Tryz.prog 6 #[.slice A0 l0.length c0] w fun e w' => ∃ v0_ v1_ : Value, e = .returned (.tuple #[v0_, v1_]) ∧ Kd.R k25 25 w' w.heap.size (fun k_ => some k_ ≠ (v1_ : Value).ownBlock) v0_ r1 ∧ Kd.R k69 69 w' w.heap.size (fun k_ => some k_ ≠ (v0_ : Value).ownBlock) v1_ r2 ∧ Below w.heap.size w w' := by
 refine (qC5.walk A0 c0 l0 r1 r2 w hr0 hc0 h).mono ?_
 rintro e w' ⟨vo, vv, rfl, h1, h2, h3, h4⟩
 exact ⟨vo, vv, rfl, ⟨fun k hk e => h3 k hk e.symm, _, h1, reps_flat (enc := enc25) (size := 4) (fun _ => rfl) (fun x => k25_mkM _ _ _ x) _⟩, ⟨fun k hk e => h3 k e.symm hk, _, h2, reps_flat (enc := enc32) (size := 2) (fun _ => rfl) (fun x => k69_mkM _ _ _ x) _⟩, h4⟩
end
end Go.Proofs.YtfnejdbjekkadaaGreat.PRatePuts
end
