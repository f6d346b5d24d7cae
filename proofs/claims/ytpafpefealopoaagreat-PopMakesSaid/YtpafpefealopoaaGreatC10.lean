/- A part of the proof of PopMakes: texts that were printed, words, walks. No condition. -/
import Derived.Test.YtpafpefealopoaaGreatC1
import Derived.LoopN
set_option linter.unusedVariables false
set_option linter.unusedSimpArgs false
section
namespace Go.Proofs.YtpafpefealopoaaGreat.PPopMakes
noncomputable section
open Go.RowKit Go.Proofs.YtpafpefealopoaaGreatW.PrintWords Go.Proofs.YtpafpefealopoaaGreatW.PrintLast Go.Proofs.YtpafpefealopoaaGreatW.PrintMore
set_option maxHeartbeats 8000000
set_option maxRecDepth 100000
def qE4.f (a0 : Int) : Option ((List (S76))) := some (([(⟨(⟨#[108, 97, 119]⟩ : ByteArray), 0, 0, (([(⟨(⟨#[105, 110]⟩ : ByteArray), 5, true, 0, 9, (⟨0, 0⟩ : S58)⟩ : S60), (⟨(⟨#[111, 117, 116]⟩ : ByteArray), 5, false, 0, 0, (⟨0, 0⟩ : S58)⟩ : S60)] : List (S60))), ([] : List (S95)), (([(⟨(⟨#[97]⟩ : ByteArray), (⟨#[111, 117, 116]⟩ : ByteArray), ([] : List (S66)), (([(⟨1, ([] : List Int), 0, 0, (⟨#[105, 110]⟩ : ByteArray)⟩ : S66), (⟨0, ([] : List Int), 5, a0, (⟨#[]⟩ : ByteArray)⟩ : S66), (⟨10, (([0, 1] : List Int)), 0, 0, (⟨#[]⟩ : ByteArray)⟩ : S66)] : List (S66))), ([] : List (S114)), 0⟩ : S72)] : List (S72)))⟩ : S76)] : List (S76)))
theorem qE4.calls (a0 : Int) (r : List (S76)) (w : World) (h : qE4.f a0 = some r) :
  Calls Tryz.prog 7 #[.int .i64 a0] w fun e w' => ∃ v0_ : Value, e = .returned (v0_) ∧ Kd.N k76 76 w' w.heap.size (fun k_ => (w.heap.size ≤ k_)) v0_ r ∧ Below w.heap.size w w' := by
 have hu66 := Tryz.underlying66
 have hu60 := Tryz.underlying60
 have hu72 := Tryz.underlying72
 have hu76 := Tryz.underlying76
 have HB := qA0.mk (Below.refl w.heap.size w)
 have H := h
 unfold qE4.f at H
 clear h
 obtain ⟨y412, hy_⟩ : ∃ y_ : List Int, y_ = (([0, 1] : List Int)) := ⟨_, rfl⟩
 replace H : (some (([(⟨(⟨#[108, 97, 119]⟩ : ByteArray), 0, 0, (([(⟨(⟨#[105, 110]⟩ : ByteArray), 5, true, 0, 9, (⟨0, 0⟩ : S58)⟩ : S60), (⟨(⟨#[111, 117, 116]⟩ : ByteArray), 5, false, 0, 0, (⟨0, 0⟩ : S58)⟩ : S60)] : List (S60))), ([] : List (S95)), (([(⟨(⟨#[97]⟩ : ByteArray), (⟨#[111, 117, 116]⟩ : ByteArray), ([] : List (S66)), (([(⟨1, ([] : List Int), 0, 0, (⟨#[105, 110]⟩ : ByteArray)⟩ : S66), (⟨0, ([] : List Int), 5, a0, (⟨#[]⟩ : ByteArray)⟩ : S66), (⟨10, y412, 0, 0, (⟨#[]⟩ : ByteArray)⟩ : S66)] : List (S66))), ([] : List (S114)), 0⟩ : S72)] : List (S72)))⟩ : S76)] : List (S76)))) = some r := zr
 have Ny412 := qA0.mk hy_
 clear hy_
 obtain ⟨y415, hy_⟩ : ∃ y_ : List (S66), y_ = (([(⟨1, ([] : List Int), 0, 0, (⟨#[105, 110]⟩ : ByteArray)⟩ : S66), (⟨0, ([] : List Int), 5, a0, (⟨#[]⟩ : ByteArray)⟩ : S66), (⟨10, y412, 0, 0, (⟨#[]⟩ : ByteArray)⟩ : S66)] : List (S66))) := ⟨_, rfl⟩
 replace H : (some (([(⟨(⟨#[108, 97, 119]⟩ : ByteArray), 0, 0, (([(⟨(⟨#[105, 110]⟩ : ByteArray), 5, true, 0, 9, (⟨0, 0⟩ : S58)⟩ : S60), (⟨(⟨#[111, 117, 116]⟩ : ByteArray), 5, false, 0, 0, (⟨0, 0⟩ : S58)⟩ : S60)] : List (S60))), ([] : List (S95)), (([(⟨(⟨#[97]⟩ : ByteArray), (⟨#[111, 117, 116]⟩ : ByteArray), ([] : List (S66)), y415, ([] : List (S114)), 0⟩ : S72)] : List (S72)))⟩ : S76)] : List (S76)))) = some r := zr
 have Ny415 := qA0.mk hy_
 clear hy_
 obtain ⟨y418, hy_⟩ : ∃ y_ : List (S60), y_ = (([(⟨(⟨#[105, 110]⟩ : ByteArray), 5, true, 0, 9, (⟨0, 0⟩ : S58)⟩ : S60), (⟨(⟨#[111, 117, 116]⟩ : ByteArray), 5, false, 0, 0, (⟨0, 0⟩ : S58)⟩ : S60)] : List (S60))) := ⟨_, rfl⟩
 replace H : (some (([(⟨(⟨#[108, 97, 119]⟩ : ByteArray), 0, 0, y418, ([] : List (S95)), (([(⟨(⟨#[97]⟩ : ByteArray), (⟨#[111, 117, 116]⟩ : ByteArray), ([] : List (S66)), y415, ([] : List (S114)), 0⟩ : S72)] : List (S72)))⟩ : S76)] : List (S76)))) = some r := zr
 have Ny418 := qA0.mk hy_
 clear hy_
 obtain ⟨y421, hy_⟩ : ∃ y_ : List (S72), y_ = (([(⟨(⟨#[97]⟩ : ByteArray), (⟨#[111, 117, 116]⟩ : ByteArray), ([] : List (S66)), y415, ([] : List (S114)), 0⟩ : S72)] : List (S72))) := ⟨_, rfl⟩
 replace H : (some (([(⟨(⟨#[108, 97, 119]⟩ : ByteArray), 0, 0, y418, ([] : List (S95)), y421⟩ : S76)] : List (S76)))) = some r := zr
 have Ny421 := qA0.mk hy_
 clear hy_
 obtain ⟨y424, hy_⟩ : ∃ y_ : List (S76), y_ = (([(⟨(⟨#[108, 97, 119]⟩ : ByteArray), 0, 0, y418, ([] : List (S95)), y421⟩ : S76)] : List (S76))) := ⟨_, rfl⟩
 replace H : (some y424) = some r := zr
 have Ny424 := qA0.mk hy_
 clear hy_
 obtain rfl := Option.some.inj H
 go_enter Tryz.func7, Tryz.ntmps7
 go_wp2_with (first | ((with_reducible refine qA9 (N := 7) rfl ?_); refine Kd.R_lit (Kd.int .i64) _ 3 ?hg (N := 7) ?hd (xs := ([0, 1] : List Int)) (inner := [.int .i64 0, .int .i64 1]) (ok := fun _ => True) (okp := fun _ => True) ?hr ?hp (fun _ hk => hk) trivial (Below.refl _ _) (Nat.le_refl _) (by simp) ?_; (case hd => rfl); (case hg => rfl); (case hr => first | (go_simp; done) | (go_simp; rfl)); (case hp => exact (Reps.one (show Kd.M (Kd.int .i64) _ _ _ 0 [.int .i64 0] from rfl) (Reps.one (show Kd.M (Kd.int .i64) _ _ _ 1 [.int .i64 1] from rfl) (Reps.none _ _)))); intro v413 w2 ho3 hb hg_ hnew_; clear hg_ hnew_; (first | rw [← Ny412.out] at ho3 | (simp only [Int.reduceToNat] at ho3; rw [← Ny412.out] at ho3)); have HO414 := qA0.mk (Kd.qCI (Kd.R_newM (M := fun k_ => (w.heap.size ≤ k_)) ho3 (qAI zb) (fun k_ h_ => h_)) (qAI zb)); replace HB := zB hb; clear hb ho3; obtain ⟨Ao4, co4, eo4⟩ := Kd.qBV HO414.out; subst eo4) | ((with_reducible refine qA9 (N := 9) rfl ?_); refine Kd.N_lit k66 _ 66 ?hg (N' := 9) ?hd (xs := ([(⟨1, ([] : List Int), 0, 0, (⟨#[105, 110]⟩ : ByteArray)⟩ : S66), (⟨0, ([] : List Int), 5, a0, (⟨#[]⟩ : ByteArray)⟩ : S66), (⟨10, y412, 0, 0, (⟨#[]⟩ : ByteArray)⟩ : S66)] : List (S66))) (inner := [.int .i64 1, .slice none 0 0, .int .i64 0, .int .i64 0, .string (⟨#[105, 110]⟩ : ByteArray), .int .i64 0, .slice none 0 0, .int .i64 5, .int .i64 a0, .string (⟨#[]⟩ : ByteArray), .int .i64 10, .slice Ao4 y412.length co4, .int .i64 0, .int .i64 0, .string (⟨#[]⟩ : ByteArray)]) (ok := (fun k_ => (w.heap.size ≤ k_))) (okp := (fun k_ => (w.heap.size ≤ k_))) ?hr ?hp (fun _ hk => hk) ((show ∀ k_, w2.heap.size ≤ k_ → (fun k_ => (w.heap.size ≤ k_)) k_ from fun k_ hk => (Nat.le_trans (qAI zb) hk)) _ (Nat.le_refl _)) (Below.refl _ _) (Nat.le_refl _) (by simp) ?_; (case hd => rfl); (case hg => rfl); (case hr => first | (go_simp; done) | (go_simp; rfl)); (case hp => exact (Reps.c5 (show Kd.FK k66 _ _ (⟨1, ([] : List Int), 0, 0, (⟨#[105, 110]⟩ : ByteArray)⟩ : S66) [.int .i64 1, .slice none 0 0, .int .i64 0, .int .i64 0, .string (⟨#[105, 110]⟩ : ByteArray)] from (k66_mkF _ _ (⟨1, ([] : List Int), 0, 0, (⟨#[105, 110]⟩ : ByteArray)⟩ : S66) (Nat.le_refl _) (Kd.F_nil _ _ _))) (Reps.c5 (show Kd.FK k66 _ _ (⟨0, ([] : List Int), 5, a0, (⟨#[]⟩ : ByteArray)⟩ : S66) [.int .i64 0, .slice none 0 0, .int .i64 5, .int .i64 a0, .string (⟨#[]⟩ : ByteArray)] from (k66_mkF _ _ (⟨0, ([] : List Int), 5, a0, (⟨#[]⟩ : ByteArray)⟩ : S66) (Nat.le_refl _) (Kd.F_nil _ _ _))) (Reps.c5 (show Kd.FK k66 _ _ (⟨10, y412, 0, 0, (⟨#[]⟩ : ByteArray)⟩ : S66) [.int .i64 10, .slice Ao4 y412.length co4, .int .i64 0, .int .i64 0, .string (⟨#[]⟩ : ByteArray)] from (k66_mkF _ _ (⟨10, y412, 0, 0, (⟨#[]⟩ : ByteArray)⟩ : S66) (Kd.qB3 (Kd.qB7 (ok' := (fun k_ => (w.heap.size ≤ k_))) (HO414.out) (fun k_ hk => hk.1))).2.1 (Kd.R_F (Kd.qB7 (ok' := (fun k_ => (w.heap.size ≤ k_))) (HO414.out) (fun k_ hk => hk.1))))) (Reps.none _ _))))); intro v416 w5 ho6 hb hg_ hnew_; clear hg_ hnew_; (first | rw [← Ny415.out] at ho6 | (simp only [Int.reduceToNat] at ho6; rw [← Ny415.out] at ho6)); have HO417 := qA0.mk (Kd.N_lower ho6 (qAI zb)); replace HB := zB hb; clear HO414; clear hb ho6) | ((with_reducible refine qA9 (N := 12) rfl ?_); refine Kd.R_lit k60 _ 60 ?hg (N := 12) ?hd (xs := ([(⟨(⟨#[105, 110]⟩ : ByteArray), 5, true, 0, 9, (⟨0, 0⟩ : S58)⟩ : S60), (⟨(⟨#[111, 117, 116]⟩ : ByteArray), 5, false, 0, 0, (⟨0, 0⟩ : S58)⟩ : S60)] : List (S60))) (inner := [.string (⟨#[105, 110]⟩ : ByteArray), .int .i64 5, .bool true, .int .i64 0, .int .i64 9, .int .i64 0, .int .i64 0, .string (⟨#[111, 117, 116]⟩ : ByteArray), .int .i64 5, .bool false, .int .i64 0, .int .i64 0, .int .i64 0, .int .i64 0]) (ok := fun _ => True) (okp := fun _ => True) ?hr ?hp (fun _ hk => hk) trivial (Below.refl _ _) (Nat.le_refl _) (by simp) ?_; (case hd => rfl); (case hg => rfl); (case hr => first | (go_simp; done) | (go_simp; rfl)); (case hp => exact (Reps.c7 (show Kd.M k60 _ _ _ (⟨(⟨#[105, 110]⟩ : ByteArray), 5, true, 0, 9, (⟨0, 0⟩ : S58)⟩ : S60) [.string (⟨#[105, 110]⟩ : ByteArray), .int .i64 5, .bool true, .int .i64 0, .int .i64 9, .int .i64 0, .int .i64 0] from (k60_mkM _ _ _ (⟨(⟨#[105, 110]⟩ : ByteArray), 5, true, 0, 9, (⟨0, 0⟩ : S58)⟩ : S60) )) (Reps.c7 (show Kd.M k60 _ _ _ (⟨(⟨#[111, 117, 116]⟩ : ByteArray), 5, false, 0, 0, (⟨0, 0⟩ : S58)⟩ : S60) [.string (⟨#[111, 117, 116]⟩ : ByteArray), .int .i64 5, .bool false, .int .i64 0, .int .i64 0, .int .i64 0, .int .i64 0] from (k60_mkM _ _ _ (⟨(⟨#[111, 117, 116]⟩ : ByteArray), 5, false, 0, 0, (⟨0, 0⟩ : S58)⟩ : S60) )) (Reps.none _ _)))); intro v419 w7 ho8 hb hg_ hnew_; clear hg_ hnew_; (first | rw [← Ny418.out] at ho8 | (simp only [Int.reduceToNat] at ho8; rw [← Ny418.out] at ho8)); have HO420 := qA0.mk (Kd.qCI (Kd.R_newM (M := fun k_ => (w.heap.size ≤ k_)) ho8 (qAI zb) (fun k_ h_ => h_)) (qAI zb)); replace HO417 := qA0.mk (Kd.N_elder' (by (with_reducible repeat (first | apply Kd.N_alloc | apply Kd.N_drewN | apply Kd.N_drew)); exact HO417.out) (Kd.R_base ho8) hb); replace HB := zB hb; clear hb ho8; obtain ⟨Ao9, co9, eo9⟩ := Kd.N_slice HO417.out; subst eo9) | ((with_reducible refine qA9 (N := 15) rfl ?_); refine Kd.N_lit k72 _ 72 ?hg (N' := 15) ?hd (xs := ([(⟨(⟨#[97]⟩ : ByteArray), (⟨#[111, 117, 116]⟩ : ByteArray), ([] : List (S66)), y415, ([] : List (S114)), 0⟩ : S72)] : List (S72))) (inner := [.string (⟨#[97]⟩ : ByteArray), .string (⟨#[111, 117, 116]⟩ : ByteArray), .slice none 0 0, .slice Ao9 y415.length co9, .slice none 0 0, .int .i64 0]) (ok := (fun k_ => (w.heap.size ≤ k_) ∧ some k_ ≠ (v419 : Value).ownBlock)) (okp := (fun k_ => (w.heap.size ≤ k_) ∧ some k_ ≠ (v419 : Value).ownBlock)) ?hr ?hp (fun _ hk => hk) ((show ∀ k_, w7.heap.size ≤ k_ → (fun k_ => (w.heap.size ≤ k_) ∧ some k_ ≠ (v419 : Value).ownBlock) k_ from fun k_ hk => ⟨(Nat.le_trans (qAI zb) hk), Kd.fresh' (Kd.R_lt (by (with_reducible repeat refine sR ?_); exact HO420.out)) k_ hk⟩) _ (Nat.le_refl _)) (Below.refl _ _) (Nat.le_refl _) (by simp) ?_; (case hd => rfl); (case hg => rfl); (case hr => first | (go_simp; done) | (go_simp; rfl)); (case hp => exact (Reps.c6 (show Kd.FK k72 _ _ (⟨(⟨#[97]⟩ : ByteArray), (⟨#[111, 117, 116]⟩ : ByteArray), ([] : List (S66)), y415, ([] : List (S114)), 0⟩ : S72) [.string (⟨#[97]⟩ : ByteArray), .string (⟨#[111, 117, 116]⟩ : ByteArray), .slice none 0 0, .slice Ao9 y415.length co9, .slice none 0 0, .int .i64 0] from (k72_mkF _ _ (⟨(⟨#[97]⟩ : ByteArray), (⟨#[111, 117, 116]⟩ : ByteArray), ([] : List (S66)), y415, ([] : List (S114)), 0⟩ : S72) (Nat.le_refl _) (Kd.F_nil _ _ _) (Kd.qFI (Kd.N_mono (ok' := (fun k_ => (w.heap.size ≤ k_) ∧ some k_ ≠ (v419 : Value).ownBlock)) (HO417.out) (fun k_ hk => ⟨hk.1, hk.2⟩))).2.1 (Kd.N_F (Kd.N_mono (ok' := (fun k_ => (w.heap.size ≤ k_) ∧ some k_ ≠ (v419 : Value).ownBlock)) (HO417.out) (fun k_ hk => ⟨hk.1, hk.2⟩))) (Nat.le_refl _) (Kd.F_nil _ _ _))) (Reps.none _ _))); intro v422 w10 ho11 hb hg_ hnew_; clear hg_ hnew_; (first | rw [← Ny421.out] at ho11 | (simp only [Int.reduceToNat] at ho11; rw [← Ny421.out] at ho11)); have HO423 := qA0.mk (Kd.N_lower ho11 (qAI zb)); replace HO420 := qA0.mk (Kd.qBN (by (with_reducible repeat refine sR ?_); exact HO420.out) hb); replace HB := zB hb; clear HO417; clear hb ho11; obtain ⟨Ao12, co12, eo12⟩ := Kd.N_slice HO423.out; subst eo12; obtain ⟨Ao13, co13, eo13⟩ := Kd.qBV HO420.out; subst eo13) | ((with_reducible refine qA9 (N := 17) rfl ?_); refine Kd.N_lit k76 _ 76 ?hg (N' := 17) ?hd (xs := ([(⟨(⟨#[108, 97, 119]⟩ : ByteArray), 0, 0, y418, ([] : List (S95)), y421⟩ : S76)] : List (S76))) (inner := [.string (⟨#[108, 97, 119]⟩ : ByteArray), .int .i64 0, .int .i64 0, .slice Ao13 y418.length co13, .slice none 0 0, .slice Ao12 y421.length co12]) (ok := (fun k_ => (w.heap.size ≤ k_))) (okp := (fun k_ => (w.heap.size ≤ k_))) ?hr ?hp (fun _ hk => hk) ((show ∀ k_, w10.heap.size ≤ k_ → (fun k_ => (w.heap.size ≤ k_)) k_ from fun k_ hk => (Nat.le_trans (qAI zb) hk)) _ (Nat.le_refl _)) (Below.refl _ _) (Nat.le_refl _) (by simp) ?_; (case hd => rfl); (case hg => rfl); (case hr => first | (go_simp; done) | (go_simp; rfl)); (case hp => exact (Reps.c6 (show Kd.FK k76 _ _ (⟨(⟨#[108, 97, 119]⟩ : ByteArray), 0, 0, y418, ([] : List (S95)), y421⟩ : S76) [.string (⟨#[108, 97, 119]⟩ : ByteArray), .int .i64 0, .int .i64 0, .slice Ao13 y418.length co13, .slice none 0 0, .slice Ao12 y421.length co12] from (k76_mkF _ _ (⟨(⟨#[108, 97, 119]⟩ : ByteArray), 0, 0, y418, ([] : List (S95)), y421⟩ : S76) (Kd.qB3 (Kd.qB7 (ok' := (fun k_ => (w.heap.size ≤ k_))) (HO420.out) (fun k_ hk => hk.1))).2.1 (Kd.R_F (Kd.qB7 (ok' := (fun k_ => (w.heap.size ≤ k_))) (HO420.out) (fun k_ hk => hk.1))) (Nat.le_refl _) (Kd.F_nil _ _ _) (Kd.qFI (Kd.N_mono (ok' := (fun k_ => (w.heap.size ≤ k_))) (HO423.out) (fun k_ hk => hk.1))).2.1 (Kd.N_F (Kd.N_mono (ok' := (fun k_ => (w.heap.size ≤ k_))) (HO423.out) (fun k_ hk => hk.1))))) (Reps.none _ _))); intro v425 w14 ho15 hb hg_ hnew_; clear hg_ hnew_; (first | rw [← Ny424.out] at ho15 | (simp only [Int.reduceToNat] at ho15; rw [← Ny424.out] at ho15)); have HO426 := qA0.mk (Kd.N_lower ho15 (qAI zb)); replace HB := zB hb; clear HO420; clear HO423; clear hb ho15))
 go_ret
 exact ⟨_, zf, by (with_reducible repeat (first | apply Kd.N_alloc | apply Kd.N_drewN | apply Kd.N_drew)); exact HO426.out, zb⟩
def qAN.l0 : Nat → List Int → Int → List Int → Int → Int → Option (Int)
 | 0, _, _, _, _, _ => none
 | k + 1, x0, x3, x6, x7, x8 => if x8 < x7 then (if 0 ≤ x8 then (if x8 < (x6.length : Int) then (if (x0.length : Int) > 40 then (some 2) else (if (rd x6 x8) < 0 then (some 1) else (if (rd x6 x8) > 1048576 then (some 1) else (if x8 < (x0.length : Int) then (qAN.l0 k x0 (wrap64 (x3 + (rd x0 x8))) x6 x7 (wrap64 (x8 + 1))) else (none))))) else (none)) else (none)) else (if x3 = 0 then (some 11) else (some 0))
def qAN.f (k : Nat) (l0 : List Int) : Option (Int) := qAN.l0 k l0 0 l0 (l0.length : Int) 0
theorem qAN.calls (k : Nat) (A0 : Option Addr) (c0 : Nat) (l0 : List Int) (r : Int) (w : World) (hr0 : Kd.C (Kd.int .i64) w A0 l0.length l0) (hc0 : l0.length ≤ c0) (h : qAN.f k l0 = some r) :
  Calls Tryz.prog 26 #[.slice A0 l0.length c0] w fun e w' => e = .returned (.int .i64 r) ∧ qAX w w' := by
 have HR0 := qA0.mk hr0
 have HC0 := qA0.mk hc0
 clear hr0 hc0
 have H := h
 unfold qAN.f at H
 clear h
 have H' := qA0.mk H
 clear H
 go_enter Tryz.func26, Tryz.ntmps26
 go_wp2
 go_loopg [3, 8] k (fun kq v3 v8 w' => ∃ (x3_1 : Int) (x8_1 : Int), v3 = .int .i64 x3_1 ∧ v8 = .int .i64 x8_1 ∧ qA0 (qAN.l0 kq l0 x3_1 l0 (l0.length : Int) x8_1 = some r) ∧ qA0 (kq ≤ k) ∧ qAX w w')
 case atStart => exact ⟨(0), (0), zs, zs, H', ⟨Nat.le_refl _⟩, by repeat (first | exact qAX.refl _ | apply qAX.step)⟩
 clear H'
 obtain ⟨x3_1, x8_1, rfl, rfl, HA, HK1, ⟨m1, rfl⟩⟩ := hrel
 obtain _ | k1 := gk
 ·exact absurd HA.out (by simp [qAN.l0])
 have H := HA.out
 clear HA
 simp only [qAN.l0] at H
 by_cases c2 : x8_1 < (l0.length : Int)
 rotate_left
 ·rw [if_neg c2] at H
  have c2b0 := decide_eq_false c2
  clear c2
  by_cases c9 : x3_1 = 0
  rotate_left
  ·rw [if_neg c9] at H
   have ⟨c9b0, c9b1⟩ := zn c9
   obtain rfl := Option.some.inj H
   go_wp2
   go_ret
   exact ⟨zs, zD⟩
  rw [if_pos c9] at H
  have ⟨c9b0, c9b1⟩ := ze c9
  clear c9
  obtain rfl := Option.some.inj H
  go_wp2
  go_ret
  exact ⟨zs, zD⟩
 rw [if_pos c2] at H
 have c2b0 := decide_eq_true c2
 clear c2
 by_cases c3 : 0 ≤ x8_1
 rotate_left
 ·rw [if_neg c3] at H
  cases H
 rw [if_pos c3] at H
 have c3b0 := decide_eq_true c3
 clear c3
 by_cases c4 : x8_1 < (l0.length : Int)
 rotate_left
 ·rw [if_neg c4] at H
  cases H
 rw [if_pos c4] at H
 have c4b0 := decide_eq_true c4
 clear c4
 by_cases c5 : (l0.length : Int) > 40
 ·rw [if_pos c5] at H
  have c5b0 := decide_eq_true c5
  have c5b1 : decide (40 < l0.length) = true := decide_eq_true (by omega)
  clear c5
  obtain rfl := Option.some.inj H
  have p427 : 0 ≤ (x8_1 : Int) := zd
  have q427 : x8_1 < (l0.length : Int) := zd
  obtain ⟨ad427, e427, hx427_0⟩ := Kd.qC2 HR0.out x8_1 p427 q427
  cases e427
  replace p427 := eq_true p427
  replace q427 := eq_true q427
  go_wp2
  go_ret
  exact ⟨zs, zD⟩
 rw [if_neg c5] at H
 have c5b0 := decide_eq_false c5
 have c5b1 : decide (40 < l0.length) = false := decide_eq_false (by omega)
 clear c5
 by_cases c6 : (rd l0 x8_1) < 0
 ·rw [if_pos c6] at H
  have c6b0 := decide_eq_true c6
  clear c6
  obtain rfl := Option.some.inj H
  have p427 : 0 ≤ (x8_1 : Int) := zd
  have q427 : x8_1 < (l0.length : Int) := zd
  obtain ⟨ad427, e427, hx427_0⟩ := Kd.qC2 HR0.out x8_1 p427 q427
  cases e427
  replace p427 := eq_true p427
  replace q427 := eq_true q427
  go_wp2
  go_ret
  exact ⟨zs, zD⟩
 rw [if_neg c6] at H
 have c6b0 := decide_eq_false c6
 clear c6
 by_cases c7 : (rd l0 x8_1) > 1048576
 ·rw [if_pos c7] at H
  have c7b0 := decide_eq_true c7
  clear c7
  obtain rfl := Option.some.inj H
  have p427 : 0 ≤ (x8_1 : Int) := zd
  have q427 : x8_1 < (l0.length : Int) := zd
  obtain ⟨ad427, e427, hx427_0⟩ := Kd.qC2 HR0.out x8_1 p427 q427
  cases e427
  replace p427 := eq_true p427
  replace q427 := eq_true q427
  go_wp2
  go_ret
  exact ⟨zs, zD⟩
 rw [if_neg c7] at H
 have c7b0 := decide_eq_false c7
 clear c7
 by_cases c8 : x8_1 < (l0.length : Int)
 rotate_left
 ·rw [if_neg c8] at H
  cases H
 rw [if_pos c8] at H
 have c8b0 := decide_eq_true c8
 clear c8
 have H' := qA0.mk H
 clear H
 have p427 : 0 ≤ (x8_1 : Int) := zd
 have q427 : x8_1 < (l0.length : Int) := zd
 obtain ⟨ad427, e427, hx427_0⟩ := Kd.qC2 HR0.out x8_1 p427 q427
 cases e427
 replace p427 := eq_true p427
 replace q427 := eq_true q427
 have p428 : 0 ≤ (x8_1 : Int) := zd
 have q428 : x8_1 < (l0.length : Int) := zd
 obtain ⟨ad428, e428, hx428_0⟩ := Kd.qC2 HR0.out x8_1 p428 q428
 obtain rfl : ad427 = ad428 := (by injection e428)
 replace p428 := eq_true p428
 replace q428 := eq_true q428
 go_wp2
 go_roundg k1
 case measure => have := HK1.out; omega
 case rel => exact ⟨(wrap64 (x3_1 + (rd l0 x8_1))), (wrap64 (x8_1 + 1)), zs, zs, H', ⟨by have := HK1.out; omega⟩, by repeat (first | exact qAX.refl _ | apply qAX.step)⟩
mutual
def qBA.l0 : Nat → ByteArray → List (S76) → Int → Int → Option (ByteArray × Int × Bool × Int × Int × Int × Int × Bool)
 | 0, _, _, _, _ => none
 | k + 1, x1, x10, x11, x12 => if x12 < x11 then (if 0 ≤ x12 then (if x12 < (x10.length : Int) then (qBA.l1 k x1 x10 x11 x12 ((qAB x10 x12).f3) (((qAB x10 x12).f3).length : Int) 0) else (none)) else (none)) else (some ((⟨#[]⟩ : ByteArray), 0, false, 0, 0, 0, 0, false))
def qBA.l1 : Nat → ByteArray → List (S76) → Int → Int → List (S60) → Int → Int → Option (ByteArray × Int × Bool × Int × Int × Int × Int × Bool)
 | 0, _, _, _, _, _, _, _ => none
 | k + 1, x1, x10, x11, x12, x17, x18, x19 => if x19 < x18 then (if 0 ≤ x19 then (if x19 < (x17.length : Int) then (if ((qBH x17 x19).f0).toList = x1.toList then (some ((qBH x17 x19).f0, (qBH x17 x19).f1, (qBH x17 x19).f2, (qBH x17 x19).f3, (qBH x17 x19).f4, (qBH x17 x19).f5.f0, (qBH x17 x19).f5.f1, true)) else (qBA.l1 k x1 x10 x11 x12 x17 x18 (wrap64 (x19 + 1)))) else (none)) else (none)) else (qBA.l0 k x1 x10 x11 (wrap64 (x12 + 1)))
end
def qBA.f (k : Nat) (l0 : List (S76)) (a1 : ByteArray) : Option (ByteArray × Int × Bool × Int × Int × Int × Int × Bool) := qBA.l0 k a1 l0 (l0.length : Int) 0
theorem qBA.calls (k : Nat) (A0 : Option Addr) (c0 : Nat) (l0 : List (S76)) (a1 : ByteArray) (r1 : ByteArray) (r2 : Int) (r3 : Bool) (r4 : Int) (r5 : Int) (r6 : Int) (r7 : Int) (r8 : Bool) (w : World) (hr0 : Kd.C k76 w A0 l0.length l0) (hc0 : l0.length ≤ c0) (h : qBA.f k l0 a1 = some (r1, r2, r3, r4, r5, r6, r7, r8)) :
  Calls Tryz.prog 27 #[.slice A0 l0.length c0, .string a1] w fun e w' => e = .returned (.tuple #[.agg #[.string r1, .int .i64 r2, .bool r3, .int .i64 r4, .int .i64 r5, .int .i64 r6, .int .i64 r7], .bool r8]) ∧ Below w.heap.size w w' := by
 have hu60 := Tryz.underlying60
 have hu76 := Tryz.underlying76
 have HR0 := qA0.mk hr0
 have HC0 := qA0.mk hc0
 clear hr0 hc0
 have HB := qA0.mk (Below.refl w.heap.size w)
 have H := h
 unfold qBA.f at H
 clear h
 have H' := qA0.mk H
 clear H
 go_enter Tryz.func27, Tryz.ntmps27
 go_wp2_with (((with_reducible refine qA9 (N := 4) rfl ?_); refine boxZ 4 #[.string (⟨#[]⟩ : ByteArray), .int .i64 0, .bool false, .int .i64 0, .int .i64 0, .int .i64 0, .int .i64 0] 60 ?_; intro gb429 hg w3 hbox hb; have BK429 := qA0.mk (hbox); have GW429 := zg w gb429; have GE429 := zg w gb429; replace HB := zB hb; clear hb hbox hg))
 go_loopg [12] k (fun kq v12 w' => ∃ (x12_1 : Int) (x430000_1 : ByteArray) (x430001_1 : Int) (x430002_1 : Bool) (x430003_1 : Int) (x430004_1 : Int) (x430005_1 : Int) (x430006_1 : Int), v12 = .int .i64 x12_1 ∧ qA0 (qBA.l0 kq a1 l0 (l0.length : Int) x12_1 = some (r1, r2, r3, r4, r5, r6, r7, r8)) ∧ qA0 (kq ≤ k) ∧ qA0 (w'.heap[gb429]? = some (.cells #[.string x430000_1, .int .i64 x430001_1, .bool x430002_1, .int .i64 x430003_1, .int .i64 x430004_1, .int .i64 x430005_1, .int .i64 x430006_1] 60 (0, 0))) ∧ qA0 (Below w.heap.size w w'))
 case atStart => exact ⟨(0), ((⟨#[]⟩ : ByteArray)), (0), (false), (0), (0), (0), (0), zs, H', ⟨Nat.le_refl _⟩, ⟨zk BK429⟩, ⟨zb⟩⟩
 clear H'
 obtain ⟨x12_1, x430000_1, x430001_1, x430002_1, x430003_1, x430004_1, x430005_1, x430006_1, rfl, HA, HK1, BK429, HB⟩ := hrel
 obtain _ | k1 := gk
 ·exact absurd HA.out (by simp [qBA.l0])
 have H := HA.out
 clear HA
 simp only [qBA.l0] at H
 by_cases c4 : x12_1 < (l0.length : Int)
 rotate_left
 ·rw [if_neg c4] at H
  have c4b0 := decide_eq_false c4
  clear c4
  simp only [Option.some.injEq, Prod.mk.injEq] at H
  obtain ⟨rfl, rfl, rfl, rfl, rfl, rfl, rfl, rfl⟩ := H
  obtain ⟨hcz24_0, hcz24_1, hcz24_2, hcz24_3, hcz24_4, hcz24_5, hcz24_6, hfz24_0, hfz24_1, hfz24_2, hfz24_3, hfz24_4, hfz24_5, hfz24_6⟩ := bc7 BK429.out
  go_wp2
  refine bodyPost_ret (qDN rfl _ _ gb429 60 #[.string (⟨#[]⟩ : ByteArray), .int .i64 0, .bool false, .int .i64 0, .int .i64 0, .int .i64 0, .int .i64 0] (0, 0) _ rfl (zp7 BK429) Tryz.underlying60 rfl (by kernel_rfl)) rfl ?_
  exact ⟨zf, zb⟩
 rw [if_pos c4] at H
 have c4b0 := decide_eq_true c4
 clear c4
 by_cases c5 : 0 ≤ x12_1
 rotate_left
 ·rw [if_neg c5] at H
  cases H
 rw [if_pos c5] at H
 have c5b0 := decide_eq_true c5
 clear c5
 by_cases c6 : x12_1 < (l0.length : Int)
 rotate_left
 ·rw [if_neg c6] at H
  cases H
 rw [if_pos c6] at H
 have c6b0 := decide_eq_true c6
 clear c6
 have H' := qA0.mk H
 clear H
 have p430 : 0 ≤ (x12_1 : Int) := zd
 have q430 : x12_1 < (l0.length : Int) := zd
 obtain ⟨ad430, A430_3, c430_3, A430_4, c430_4, A430_5, c430_5, e430, hx430_0, hx430_1, hx430_2, hx430_3, hx430_4, hx430_5, hl430_3, hi430_3, hl430_4, hi430_4, hl430_5, hi430_5⟩ := at_T76 HR0.out x12_1 p430 q430
 cases e430
 (try replace hx430_0 := zh hx430_0)
 replace hx430_1 := zh hx430_1
 replace hx430_2 := zh hx430_2
 replace hx430_3 := zh hx430_3
 replace hx430_4 := zh hx430_4
 replace hx430_5 := zh hx430_5
 have HR430_3 := qA0.mk hi430_3
 have HC430_3 := qA0.mk hl430_3
 clear hi430_3 hl430_3
 have HR430_4 := qA0.mk hi430_4
 have HC430_4 := qA0.mk hl430_4
 clear hi430_4 hl430_4
 have HR430_5 := qA0.mk hi430_5
 have HC430_5 := qA0.mk hl430_5
 clear hi430_5 hl430_5
 replace p430 := eq_true p430
 replace q430 := eq_true q430
 go_wp2_with (((with_reducible refine qA9 (N := 7) rfl ?_); refine boxZ 7 #[.string (⟨#[]⟩ : ByteArray), .int .i64 0, .int .i64 0, .slice none 0 0, .slice none 0 0, .slice none 0 0] 76 ?_; intro gb431 hg w7 hbox hb; have BK431 := qA0.mk (hbox); have GW431 := zg w gb431; have GE431 := zg w gb431; have NB429_431 := zl BK429 gb431; have NB431_429 := zu BK429 gb431; replace BK429 := zK BK429 hb; replace HB := zB hb; clear hb hbox hg; have hnb8 := NB431_429.out; have hnc8 := NB429_431.out; obtain ⟨hcz9_0, hcz9_1, hcz9_2, hcz9_3, hcz9_4, hcz9_5, hfz9_0, hfz9_1, hfz9_2, hfz9_3, hfz9_4, hfz9_5⟩ := bc6 BK431.out))
 go_loopg [19] k1 (fun kq v19 w' => ∃ (x19_2 : Int) (x430000_2 : ByteArray) (x430001_2 : Int) (x430002_2 : Bool) (x430003_2 : Int) (x430004_2 : Int) (x430005_2 : Int) (x430006_2 : Int), v19 = .int .i64 x19_2 ∧ qA0 (qBA.l1 kq a1 l0 (l0.length : Int) x12_1 ((qAB l0 x12_1).f3) (((qAB l0 x12_1).f3).length : Int) x19_2 = some (r1, r2, r3, r4, r5, r6, r7, r8)) ∧ qA0 (kq ≤ k1) ∧ qA0 (w'.heap[gb429]? = some (.cells #[.string x430000_2, .int .i64 x430001_2, .bool x430002_2, .int .i64 x430003_2, .int .i64 x430004_2, .int .i64 x430005_2, .int .i64 x430006_2] 60 (0, 0))) ∧ qA0 (w'.heap[gb431]? = some (.cells #[.string ((qAB l0 x12_1).f0), .int .i64 ((qAB l0 x12_1).f1), .int .i64 ((qAB l0 x12_1).f2), (.slice A430_3 ((qAB l0 x12_1).f3).length c430_3), (.slice A430_4 ((qAB l0 x12_1).f4).length c430_4), (.slice A430_5 ((qAB l0 x12_1).f5).length c430_5)] 76 (0, 0))) ∧ qA0 (Below w.heap.size w w'))
 case atStart => exact ⟨(0), (x430000_1), (x430001_1), (x430002_1), (x430003_1), (x430004_1), (x430005_1), (x430006_1), zs, H', ⟨Nat.le_refl _⟩, ⟨by refine zf6 ?_ NB429_431; (with_reducible repeat refine st ?_); exact BK429.out⟩, ⟨zp6 BK431⟩, ⟨zb⟩⟩
 clear H' c4b0 c5b0 c6b0 hcz9_0 hcz9_1 hcz9_2 hcz9_3 hcz9_4 hcz9_5 hfz9_0 hfz9_1 hfz9_2 hfz9_3 hfz9_4 hfz9_5 hx430_0 hx430_1 hx430_2 hx430_3 hx430_4 hx430_5 p430 q430
 obtain ⟨x19_2, x430000_2, x430001_2, x430002_2, x430003_2, x430004_2, x430005_2, x430006_2, rfl, HA, HK2, BK429, BK431, HB⟩ := hrel
 obtain _ | k2 := gk
 ·exact absurd HA.out (by simp [qBA.l1])
 have H := HA.out
 clear HA
 simp only [qBA.l1] at H
 by_cases c10 : x19_2 < (((qAB l0 x12_1).f3).length : Int)
 rotate_left
 ·rw [if_neg c10] at H
  have c10b0 := decide_eq_false c10
  clear c10
  have H' := qA0.mk H
  clear H
  go_wp2
  go_roundg k2
  case measure => have := HK1.out; have := HK2.out; omega
  case rel => exact ⟨(wrap64 (x12_1 + 1)), (x430000_2), (x430001_2), (x430002_2), (x430003_2), (x430004_2), (x430005_2), (x430006_2), zs, H', ⟨by have := HK1.out; have := HK2.out; omega⟩, ⟨zk BK429⟩, ⟨zb⟩⟩
 rw [if_pos c10] at H
 have c10b0 := decide_eq_true c10
 clear c10
 by_cases c11 : 0 ≤ x19_2
 rotate_left
 ·rw [if_neg c11] at H
  cases H
 rw [if_pos c11] at H
 have c11b0 := decide_eq_true c11
 clear c11
 by_cases c12 : x19_2 < (((qAB l0 x12_1).f3).length : Int)
 rotate_left
 ·rw [if_neg c12] at H
  cases H
 rw [if_pos c12] at H
 have c12b0 := decide_eq_true c12
 clear c12
 by_cases c13 : ((qBH ((qAB l0 x12_1).f3) x19_2).f0).toList = a1.toList
 rotate_left
 ·rw [if_neg c13] at H
  have ⟨c13b0, c13b1⟩ := zn c13
  have H' := qA0.mk H
  clear H
  have p432 : 0 ≤ (x19_2 : Int) := zd
  have q432 : x19_2 < (((qAB l0 x12_1).f3).length : Int) := zd
  obtain ⟨ad432, e432, hx432_0, hx432_1, hx432_2, hx432_3, hx432_4, hx432_5, hx432_6⟩ := at_T60 HR430_3.out x19_2 p432 q432
  cases e432
  (try replace hx432_0 := zh hx432_0)
  replace hx432_1 := zh hx432_1
  replace hx432_2 := zh hx432_2
  replace hx432_3 := zh hx432_3
  replace hx432_4 := zh hx432_4
  replace hx432_5 := zh hx432_5
  replace hx432_6 := zh hx432_6
  replace p432 := eq_true p432
  replace q432 := eq_true q432
  go_wp2_with (((with_reducible refine qA9 (N := 9) rfl ?_); refine boxZ 9 #[.string (⟨#[]⟩ : ByteArray), .int .i64 0, .bool false, .int .i64 0, .int .i64 0, .int .i64 0, .int .i64 0] 60 ?_; intro gb433 hg w20 hbox hb; have BK433 := qA0.mk (hbox); have GW433 := zg w gb433; have GE433 := zg w gb433; have NB429_433 := zl BK429 gb433; have NB433_429 := zu BK429 gb433; have NB431_433 := zl BK431 gb433; have NB433_431 := zu BK431 gb433; replace BK429 := zK BK429 hb; replace BK431 := zK BK431 hb; replace HB := zB hb; clear hb hbox hg; have hnb21 := NB433_429.out; have hnc21 := NB429_433.out; have hnb22 := NB433_431.out; have hnc22 := NB431_433.out; obtain ⟨hcz23_0, hcz23_1, hcz23_2, hcz23_3, hcz23_4, hcz23_5, hcz23_6, hfz23_0, hfz23_1, hfz23_2, hfz23_3, hfz23_4, hfz23_5, hfz23_6⟩ := bc7 BK433.out))
  go_roundg k2
  case measure => have := HK1.out; have := HK2.out; omega
  case rel => exact ⟨(wrap64 (x19_2 + 1)), (x430000_2), (x430001_2), (x430002_2), (x430003_2), (x430004_2), (x430005_2), (x430006_2), zs, H', ⟨by have := HK1.out; have := HK2.out; omega⟩, ⟨by refine zf7 ?_ NB429_433; (with_reducible repeat refine st ?_); exact BK429.out⟩, ⟨by refine zf7 ?_ NB431_433; (with_reducible repeat refine st ?_); exact BK431.out⟩, ⟨zb⟩⟩
 rw [if_pos c13] at H
 have ⟨c13b0, c13b1⟩ := ze c13
 clear c13
 simp only [Option.some.injEq, Prod.mk.injEq] at H
 obtain ⟨rfl, rfl, rfl, rfl, rfl, rfl, rfl, rfl⟩ := H
 have p432 : 0 ≤ (x19_2 : Int) := zd
 have q432 : x19_2 < (((qAB l0 x12_1).f3).length : Int) := zd
 obtain ⟨ad432, e432, hx432_0, hx432_1, hx432_2, hx432_3, hx432_4, hx432_5, hx432_6⟩ := at_T60 HR430_3.out x19_2 p432 q432
 cases e432
 (try replace hx432_0 := zh hx432_0)
 replace hx432_1 := zh hx432_1
 replace hx432_2 := zh hx432_2
 replace hx432_3 := zh hx432_3
 replace hx432_4 := zh hx432_4
 replace hx432_5 := zh hx432_5
 replace hx432_6 := zh hx432_6
 replace p432 := eq_true p432
 replace q432 := eq_true q432
 go_wp2_with (((with_reducible refine qA9 (N := 9) rfl ?_); refine boxZ 9 #[.string (⟨#[]⟩ : ByteArray), .int .i64 0, .bool false, .int .i64 0, .int .i64 0, .int .i64 0, .int .i64 0] 60 ?_; intro gb433 hg w14 hbox hb; have BK433 := qA0.mk (hbox); have GW433 := zg w gb433; have GE433 := zg w gb433; have NB429_433 := zl BK429 gb433; have NB433_429 := zu BK429 gb433; have NB431_433 := zl BK431 gb433; have NB433_431 := zu BK431 gb433; replace BK429 := zK BK429 hb; replace BK431 := zK BK431 hb; replace HB := zB hb; clear hb hbox hg; have hnb15 := NB433_429.out; have hnc15 := NB429_433.out; have hnb16 := NB433_431.out; have hnc16 := NB431_433.out; obtain ⟨hcz17_0, hcz17_1, hcz17_2, hcz17_3, hcz17_4, hcz17_5, hcz17_6, hfz17_0, hfz17_1, hfz17_2, hfz17_3, hfz17_4, hfz17_5, hfz17_6⟩ := bc7 BK433.out; have hnb18 := NB429_431.out; have hnc18 := NB431_429.out; obtain ⟨hcz19_0, hcz19_1, hcz19_2, hcz19_3, hcz19_4, hcz19_5, hcz19_6, hfz19_0, hfz19_1, hfz19_2, hfz19_3, hfz19_4, hfz19_5, hfz19_6⟩ := bc7 BK429.out))
 refine bodyPost_ret (qDN rfl _ _ gb429 60 #[.string ((qBH ((qAB l0 x12_1).f3) x19_2).f0), .int .i64 ((qBH ((qAB l0 x12_1).f3) x19_2).f1), .bool ((qBH ((qAB l0 x12_1).f3) x19_2).f2), .int .i64 ((qBH ((qAB l0 x12_1).f3) x19_2).f3), .int .i64 ((qBH ((qAB l0 x12_1).f3) x19_2).f4), .int .i64 ((qBH ((qAB l0 x12_1).f3) x19_2).f5.f0), .int .i64 ((qBH ((qAB l0 x12_1).f3) x19_2).f5.f1)] (0, 0) _ rfl (by refine zp_ (cs := #[.string ((qBH ((qAB l0 x12_1).f3) x19_2).f0), .int .i64 ((qBH ((qAB l0 x12_1).f3) x19_2).f1), .bool ((qBH ((qAB l0 x12_1).f3) x19_2).f2), .int .i64 ((qBH ((qAB l0 x12_1).f3) x19_2).f3), .int .i64 ((qBH ((qAB l0 x12_1).f3) x19_2).f4), .int .i64 ((qBH ((qAB l0 x12_1).f3) x19_2).f5.f0), .int .i64 x430006_2]) ?_ 6; refine zp_ (cs := #[.string ((qBH ((qAB l0 x12_1).f3) x19_2).f0), .int .i64 ((qBH ((qAB l0 x12_1).f3) x19_2).f1), .bool ((qBH ((qAB l0 x12_1).f3) x19_2).f2), .int .i64 ((qBH ((qAB l0 x12_1).f3) x19_2).f3), .int .i64 ((qBH ((qAB l0 x12_1).f3) x19_2).f4), .int .i64 x430005_2, .int .i64 x430006_2]) ?_ 5; refine zp_ (cs := #[.string ((qBH ((qAB l0 x12_1).f3) x19_2).f0), .int .i64 ((qBH ((qAB l0 x12_1).f3) x19_2).f1), .bool ((qBH ((qAB l0 x12_1).f3) x19_2).f2), .int .i64 ((qBH ((qAB l0 x12_1).f3) x19_2).f3), .int .i64 x430004_2, .int .i64 x430005_2, .int .i64 x430006_2]) ?_ 4; refine zp_ (cs := #[.string ((qBH ((qAB l0 x12_1).f3) x19_2).f0), .int .i64 ((qBH ((qAB l0 x12_1).f3) x19_2).f1), .bool ((qBH ((qAB l0 x12_1).f3) x19_2).f2), .int .i64 x430003_2, .int .i64 x430004_2, .int .i64 x430005_2, .int .i64 x430006_2]) ?_ 3; refine zp_ (cs := #[.string ((qBH ((qAB l0 x12_1).f3) x19_2).f0), .int .i64 ((qBH ((qAB l0 x12_1).f3) x19_2).f1), .bool x430002_2, .int .i64 x430003_2, .int .i64 x430004_2, .int .i64 x430005_2, .int .i64 x430006_2]) ?_ 2; refine zp_ (cs := #[.string ((qBH ((qAB l0 x12_1).f3) x19_2).f0), .int .i64 x430001_2, .bool x430002_2, .int .i64 x430003_2, .int .i64 x430004_2, .int .i64 x430005_2, .int .i64 x430006_2]) ?_ 1; refine zp_ (cs := #[.string x430000_2, .int .i64 x430001_2, .bool x430002_2, .int .i64 x430003_2, .int .i64 x430004_2, .int .i64 x430005_2, .int .i64 x430006_2]) ?_ 0; refine zf7 ?_ NB429_433; (with_reducible repeat refine st ?_); exact BK429.out) Tryz.underlying60 rfl (by kernel_rfl)) rfl ?_
 exact ⟨zf, zb⟩
def qBO.r (s m z : Int) : Int := IntKind.u64.wrap (Go.bits .xor .u64 z (IntKind.u64.wrap (z.tdiv s)) * m)
def qBO.e (z : Int) : Int := IntKind.u64.wrap (Go.bits .xor .u64 z (IntKind.u64.wrap (z.tdiv 2147483648)))
def qBO.f (a0 : Int) : Option (Int) := some (qBO.e (qBO.r 134217728 10723151780598845931 (qBO.r 1073741824 13787848793156543929 a0)))
theorem qBO.calls (a0 : Int) (r : Int) (w : World) (h : qBO.f a0 = some r) :
  Calls Tryz.prog 61 #[.int .u64 a0] w fun e w' => e = .returned (.int .u64 r) ∧ Below w.heap.size w w' := by
 obtain rfl := Option.some.inj h
 clear h
 unfold qBO.e qBO.r
 go_enter Tryz.func61, Tryz.ntmps61
 go_wp2
 refine wp_loop_rounds 4 ?_
 repeat any_goals (rw [rounds_succ]; go_wp2)
 go_ret
 exact ⟨rfl, by repeat (first | exact Below.refl _ _ | apply qAC)⟩
def qA2 (w0 W : World) (g : Nat) (f0 : Int) : Prop := W.heap[g]? = some (.cells #[.int .u64 f0] 130 (0, 0)) ∧ w0.heap.size ≤ g
theorem qA2.grown {w0 W : World} {g : Nat} {f0 : Int} {W1 : World} {row : Option Nat} (h : qA2 w0 W g f0) (hw : W.grownBy W1 row) (hne : some g ≠ row) : qA2 w0 W1 g f0 := by
 obtain ⟨hb, hg⟩ := h
 exact ⟨qAO hb hw hne, hg⟩
theorem qA2.below {w0 W : World} {g : Nat} {f0 : Int} {W1 : World} (h : qA2 w0 W g f0) (hw : Below W.heap.size W W1) : qA2 w0 W1 g f0 := h.grown (qB9 hw none) (by simp)
theorem qA2.drewN {w0 W : World} {g : Nat} {f0 : Int} (h : qA2 w0 W g f0) (m : Nat) : qA2 w0 (W.drewN m) g f0 := h
theorem qA2.drew {w0 W : World} {g : Nat} {f0 : Int} (h : qA2 w0 W g f0) : qA2 w0 W.drew g f0 := h
theorem qA2.apart {w0 W : World} {g : Nat} {f0 : Int} {α : Type} {d : Kd α} {e : Nat} {base : Nat} {ok : Nat → Prop} {v : Value} {xs : List α} (h : qA2 w0 W g f0) (ho : d.R e W base ok v xs) (ht : ∀ q, q ∈ e :: d.E → q ≠ 130) : d.R e W base (fun k => ok k ∧ k ≠ g) v xs := by
 obtain ⟨hb, hg⟩ := h
 exact Kd.qBG ho hb ht
theorem qA2.own_ne {w0 W : World} {g : Nat} {f0 : Int} {α : Type} {d : Kd α} {e : Nat} {base : Nat} {ok : Nat → Prop} {v : Value} {xs : List α} (h : qA2 w0 W g f0) (ho : d.R e W base ok v xs) (ht : e ≠ 130) : some g ≠ v.ownBlock := by
 obtain ⟨hb, hg⟩ := h
 exact Kd.R_ne ho hb ht
theorem qA2.lt {w0 W : World} {g : Nat} {f0 : Int} (h : qA2 w0 W g f0) : g < W.heap.size := by
 obtain ⟨hb, hg⟩ := h
 exact blk_lt hb
theorem qA2.ge {w0 W : World} {g : Nat} {f0 : Int} (h : qA2 w0 W g f0) : w0.heap.size ≤ g := by
 obtain ⟨hb, hg⟩ := h
 exact hg
theorem qA2.ne_blk {w0 W : World} {g : Nat} {f0 : Int} {a : Nat} {cs : Array Value} {t : TypeId} {fr : Nat × Nat} (h : qA2 w0 W g f0) (hb2 : W.heap[a]? = some (.cells cs t fr)) (ht : t ≠ 130) : g ≠ a := by
 obtain ⟨hb, hg⟩ := h
 rintro rfl
 rw [hb] at hb2
 injection hb2 with hb2
 injection hb2 with _ ht2
 exact ht ht2.symm
theorem qA2.far {w0 W : World} {g : Nat} {f0 : Int} {p : Addr} (h : qA2 w0 W g f0) (hne : g ≠ p.block) (u : Value) : qA2 w0 (W.setCell p u) g f0 := by
 obtain ⟨hb, hg⟩ := h
 exact ⟨qD5 hb hne u, hg⟩
theorem cellS130_0 {W : World} {g : Nat} {f0 : Int} (h : W.heap[g]? = some (.cells #[.int .u64 f0] 130 (0, 0))) : W.cell? ⟨g, 0, none⟩ = some (.int .u64 f0) := (qA1 h 0).trans rfl
theorem qA2.qCY {w0 W : World} {g : Nat} {f0 : Int} (h : qA2 w0 W g f0) (x : Int) : qA2 w0 (W.setCell ⟨g, 0, none⟩ (.int .u64 x)) g x := by
 obtain ⟨hb, hg⟩ := h
 exact ⟨by simpa using blk_set hb 0 (.int .u64 x), hg⟩
def qDC.f (a0 : Int) (a1 : Int) : Option (Int) := (qBO.f (IntKind.u64.wrap ((IntKind.u64.wrap (a1)) + 11400714819323198485))).bind fun t515 => ((qBO.f (Go.bits .xor .u64 a0 t515)).bind fun t516 => (some t516))
theorem qDC.calls (a0 : Int) (a1 : Int) (r : Int) (w0 w : World) (hB : Below w0.heap.size w0 w) (h : qDC.f a0 a1 = some r) :
  Calls Tryz.prog 30 #[.int .u64 a0, .int .i64 a1] w fun e w' => ∃ g_ : Nat, e = .returned (.pointer (some ⟨g_, 0, none⟩)) ∧ qA2 w0 w' g_ r ∧ Below w0.heap.size w0 w' ∧ Below w.heap.size w w' := by
 have hu130 := Tryz.underlying130
 have HBW := qA0.mk (Below.refl w.heap.size w)
 have HW0 := qA0.mk hB.size
 have HB := qA0.mk hB
 clear hB
 have H := h
 unfold qDC.f at H
 clear h
 replace H := zi H
 obtain ⟨t515, A30, H⟩ := H
 have A3 := qA0.mk A30
 clear A30
 replace H := zi H
 obtain ⟨t516, A40, H⟩ := H
 have A4 := qA0.mk A40
 clear A40
 obtain rfl := Option.some.inj H
 go_enter Tryz.func30, Tryz.ntmps30
 go_wp2_with (first | ((with_reducible refine qA6 (f := 61) rfl ?_); refine qBP (some 9) Tryz.func61 #[.int .u64 (IntKind.u64.wrap ((IntKind.u64.wrap (a1)) + 11400714819323198485))] ?_; (with_reducible refine (qBO.calls (IntKind.u64.wrap ((IntKind.u64.wrap (a1)) + 11400714819323198485)) t515 _ A3.out).mono ?_); rintro e w5 ⟨rfl, hb⟩; refine ⟨_, rfl, ?_⟩; replace HB := zB hb; have m0_ := qA0.mk (qBZ HBW.out hb); clear HBW; have HBW := m0_; clear m0_; (try clear hb hk); (try clear hb)) | ((with_reducible refine qA6 (f := 61) rfl ?_); refine qBP (some 11) Tryz.func61 #[.int .u64 (Go.bits .xor .u64 a0 t515)] ?_; (with_reducible refine (qBO.calls (Go.bits .xor .u64 a0 t515) t516 _ A4.out).mono ?_); rintro e w6 ⟨rfl, hb⟩; refine ⟨_, rfl, ?_⟩; replace HB := zB hb; have m0_ := qA0.mk (qBZ HBW.out hb); clear HBW; have HBW := m0_; clear m0_; (try clear hb hk); (try clear hb)) | ((with_reducible refine qA9 (N := 13) rfl ?_); refine boxZ 13 #[.int .u64 t516] 130 ?_; intro gb517 hg w7 hbox hb; have BK517 := qA0.mk (hbox); have GW517 := qA0.mk ((by rw [hg]; exact (qAI (by repeat (first | (with_reducible first | exact HBW.out | apply qAC | apply qA8 | apply qAF) | exact HBW.out))) : w.heap.size ≤ gb517)); have GE517 := qA0.mk ((Nat.le_trans HW0.out (by rw [hg]; exact (qAI (by repeat (first | (with_reducible first | exact HBW.out | apply qAC | apply qA8 | apply qAF) | exact HBW.out))) : w.heap.size ≤ gb517) : w0.heap.size ≤ gb517)); replace HBW := qA0.mk (qBZ HBW.out hb); replace HB := zB hb; clear hb hbox hg))
 go_ret
 exact ⟨_, rfl, (show qA2 w0 _ gb517 t516 from ⟨by (with_reducible repeat refine st ?_); exact BK517.out, GE517.out⟩), by repeat (first | (with_reducible first | exact HB.out | apply qAC | apply qA8 | apply qAF | refine qA7 ?_ GE517.out) | exact HB.out), by repeat (first | (with_reducible first | exact HBW.out | apply qAC | apply qA8 | apply qAF | refine qA7 ?_ GW517.out) | exact HBW.out)⟩
def qCV.f (s0_0 : Int) : Option (Int × Int) := (qBO.f (IntKind.u64.wrap (s0_0 + 11400714819323198485))).bind fun t518 => (some (t518, IntKind.u64.wrap (s0_0 + 11400714819323198485)))
theorem qCV.calls (g : Nat) (s0_0 : Int) (r1 : Int) (r2 : Int) (w0 w : World) (hI : qA2 w0 w g s0_0) (hB : Below w0.heap.size w0 w) (h : qCV.f s0_0 = some (r1, r2)) :
  Calls Tryz.prog 62 #[.pointer (some ⟨g, 0, none⟩)] w fun e w' => e = .returned (.int .u64 r1) ∧ qA2 w0 w' g r2 ∧ Below w0.heap.size w0 w' ∧ qBC w w' g none := by
 have HI0 := qA0.mk hI
 have HK := qA0.mk (qBC.refl w g none)
 have HL := qA0.mk hB.size
 clear hI
 have HW0 := qA0.mk hB.size
 have HB := qA0.mk hB
 clear hB
 have H := h
 unfold qCV.f at H
 clear h
 replace H := zi H
 obtain ⟨t518, A20, H⟩ := H
 have A2 := qA0.mk A20
 clear A20
 simp only [Option.some.injEq, Prod.mk.injEq] at H
 obtain ⟨rfl, rfl⟩ := H
 obtain ⟨HGz3, hgz3⟩ := HI0.out
 have hcz3_0 := cellS130_0 HGz3
 have hfz3_0 := qB1 HGz3 0
 clear HGz3 hgz3
 go_enter Tryz.func62, Tryz.ntmps62
 go_wp2_with (((with_reducible refine qA6 (f := 61) rfl ?_); refine qBP (some 14) Tryz.func61 #[.int .u64 (IntKind.u64.wrap (s0_0 + 11400714819323198485))] ?_; (with_reducible refine (qBO.calls (IntKind.u64.wrap (s0_0 + 11400714819323198485)) t518 _ A2.out).mono ?_); rintro e w4 ⟨rfl, hb⟩; refine ⟨_, rfl, ?_⟩; have n0_ := qA0.mk (qA2.below (show qA2 w0 (w.setCell ⟨g, 0, none⟩ (.int .u64 (IntKind.u64.wrap (s0_0 + 11400714819323198485)))) g (IntKind.u64.wrap (s0_0 + 11400714819323198485)) from by repeat (first | (with_reducible first | exact HI0.out | apply qA2.alloc | apply qA2.drewN | apply qA2.drew | apply qA2.qCY) | exact HI0.out)) hb); have n1_ := qA0.mk (qBC.trans (by repeat (first | (with_reducible first | exact HK.out | apply qBC.set_ | apply keep_drewN | apply keep_drew | apply keep_alloc) | exact HK.out)) (qBC.of_below hb g none) (.inl rfl)); have n2_ := qA0.mk (qBZ (by repeat (first | (with_reducible first | exact HB.out | apply qAC | apply qA8 | apply qAF | refine qA7 ?_ (qA2.ge HI0.out)) | exact HB.out)) hb); clear HI0; clear HK; clear HB; have HI0 := n0_; have HK := n1_; have HB := n2_; clear n0_ n1_ n2_; (try clear hb hk); (try clear hb)))
 go_ret
 exact ⟨zf, by repeat (first | (with_reducible first | exact HI0.out | apply qA2.alloc | apply qA2.drewN | apply qA2.drew | apply qA2.qCY) | exact HI0.out), by repeat (first | (with_reducible first | exact HB.out | apply qAC | apply qA8 | apply qAF | refine qA7 ?_ (qA2.ge HI0.out)) | exact HB.out), by repeat (first | (with_reducible first | exact HK.out | apply qBC.set_ | apply keep_drewN | apply keep_drew | apply keep_alloc) | exact HK.out)⟩
def qC7.f (s0_0 : Int) (a1 : Int) : Option (Int × Int) := if a1 < 1 then (some (0, s0_0)) else ((qCV.f s0_0).bind fun bt519 => (some (wrap64 (IntKind.u64.wrap ((IntKind.u64.wrap ((IntKind.u64.wrap ((IntKind.u64.wrap ((bt519.1 / 4294967296) * ((IntKind.u64.wrap (a1)) / 4294967296))) + ((IntKind.u64.wrap ((bt519.1 / 4294967296) * (Go.bits .and .u64 (IntKind.u64.wrap (a1)) 4294967295))) / 4294967296))) + ((IntKind.u64.wrap ((Go.bits .and .u64 bt519.1 4294967295) * ((IntKind.u64.wrap (a1)) / 4294967296))) / 4294967296))) + ((IntKind.u64.wrap ((IntKind.u64.wrap (((IntKind.u64.wrap ((Go.bits .and .u64 bt519.1 4294967295) * (Go.bits .and .u64 (IntKind.u64.wrap (a1)) 4294967295))) / 4294967296) + (Go.bits .and .u64 (IntKind.u64.wrap ((bt519.1 / 4294967296) * (Go.bits .and .u64 (IntKind.u64.wrap (a1)) 4294967295))) 4294967295))) + (Go.bits .and .u64 (IntKind.u64.wrap ((Go.bits .and .u64 bt519.1 4294967295) * ((IntKind.u64.wrap (a1)) / 4294967296))) 4294967295))) / 4294967296))), bt519.2)))
theorem qC7.calls (g : Nat) (s0_0 : Int) (a1 : Int) (r1 : Int) (r2 : Int) (w0 w : World) (hI : qA2 w0 w g s0_0) (hB : Below w0.heap.size w0 w) (h : qC7.f s0_0 a1 = some (r1, r2)) :
  Calls Tryz.prog 32 #[.pointer (some ⟨g, 0, none⟩), .int .i64 a1] w fun e w' => e = .returned (.int .i64 r1) ∧ qA2 w0 w' g r2 ∧ Below w0.heap.size w0 w' ∧ qBC w w' g none := by
 have HI0 := qA0.mk hI
 have HK := qA0.mk (qBC.refl w g none)
 have HL := qA0.mk hB.size
 clear hI
 have HW0 := qA0.mk hB.size
 have HB := qA0.mk hB
 clear hB
 have H := h
 unfold qC7.f at H
 clear h
 by_cases c3 : a1 < 1
 ·rw [if_pos c3] at H
  have c3b0 := decide_eq_true c3
  clear c3
  simp only [Option.some.injEq, Prod.mk.injEq] at H
  obtain ⟨rfl, rfl⟩ := H
  go_enter Tryz.func32, Tryz.ntmps32
  go_wp2
  go_ret
  exact ⟨zf, by repeat (first | (with_reducible first | exact HI0.out | apply qA2.alloc | apply qA2.drewN | apply qA2.drew | apply qA2.qCY) | exact HI0.out), by repeat (first | (with_reducible first | exact HB.out | apply qAC | apply qA8 | apply qAF | refine qA7 ?_ (qA2.ge HI0.out)) | exact HB.out), by repeat (first | (with_reducible first | exact HK.out | apply qBC.set_ | apply keep_drewN | apply keep_drew | apply keep_alloc) | exact HK.out)⟩
 rw [if_neg c3] at H
 have c3b0 := decide_eq_false c3
 clear c3
 replace H := zi H
 obtain ⟨⟨t519, t520⟩, A40, H⟩ := H
 dsimp only at H
 have A4 := qA0.mk A40
 clear A40
 simp only [Option.some.injEq, Prod.mk.injEq] at H
 obtain ⟨rfl, rfl⟩ := H
 go_enter Tryz.func32, Tryz.ntmps32
 go_wp2_with (((with_reducible refine qA6 (f := 62) rfl ?_); refine qBP (some 15) Tryz.func62 #[.pointer (some ⟨g, 0, none⟩)] ?_; (with_reducible refine (qCV.calls g s0_0 t519 t520 w0 _ ?side1 ?side2 A4.out).mono ?_); (case side1 => repeat (first | (with_reducible first | exact HI0.out | apply qA2.alloc | apply qA2.drewN | apply qA2.drew | apply qA2.qCY) | exact HI0.out)); (case side2 => repeat (first | (with_reducible first | exact HB.out | apply qAC | apply qA8 | apply qAF | refine qA7 ?_ (qA2.ge HI0.out)) | exact HB.out)); rintro e w5 ⟨rfl, hi, hb, hk⟩; refine ⟨_, rfl, ?_⟩; replace HK := qA0.mk (qBC.trans (by repeat (first | (with_reducible first | exact HK.out | apply qBC.set_ | apply keep_drewN | apply keep_drew | apply keep_alloc) | exact HK.out)) hk (.inl rfl)); replace HI0 := qA0.mk (hi); replace HB := qA0.mk (hb); (try clear hb hk); (try clear hb)))
 go_ret
 exact ⟨zf, by repeat (first | (with_reducible first | exact HI0.out | apply qA2.alloc | apply qA2.drewN | apply qA2.drew | apply qA2.qCY) | exact HI0.out), by repeat (first | (with_reducible first | exact HB.out | apply qAC | apply qA8 | apply qAF | refine qA7 ?_ (qA2.ge HI0.out)) | exact HB.out), by repeat (first | (with_reducible first | exact HK.out | apply qBC.set_ | apply keep_drewN | apply keep_drew | apply keep_alloc) | exact HK.out)⟩
attribute [local go_sem] min_two min2_int
mutual
def qAA.l0 : Nat → List Int → List Int → List Int → Int → Int → Int → Option (Int × Int)
 | 0, _, _, _, _, _, _ => none
 | k + 1, x1, x5, x15, x16, x17, x1000 => if x17 < x16 then (if 0 ≤ x17 then (if x17 < (x15.length : Int) then (qAA.l1 k x1 x5 x17 x15 x16 x17 (mn (rd x15 x17) 1) 0 x1000) else (none)) else (none)) else (qAA.l2 k x1 x5 0 x5 (x5.length : Int) 0 x1000)
def qAA.l1 : Nat → List Int → List Int → Int → List Int → Int → Int → Int → Int → Int → Option (Int × Int)
 | 0, _, _, _, _, _, _, _, _, _ => none
 | k + 1, x1, x5, x6, x15, x16, x17, x23, x24, x1000 => if x24 < x23 then (if x5.length < 17592186044416 then (qAA.l1 k x1 (x5 ++ [x6]) x6 x15 x16 x17 x23 (wrap64 (x24 + 1)) x1000) else (none)) else (qAA.l0 k x1 x5 x15 x16 (wrap64 (x17 + 1)) x1000)
def qAA.l2 : Nat → List Int → List Int → Int → List Int → Int → Int → Int → Option (Int × Int)
 | 0, _, _, _, _, _, _, _ => none
 | k + 1, x1, x5, x8, x32, x33, x34, x1000 => if x34 < x33 then (if 0 ≤ x34 then (if x34 < (x32.length : Int) then (if 0 ≤ (rd x32 x34) then (if (rd x32 x34) < (x1.length : Int) then (qAA.l2 k x1 x5 (wrap64 (x8 + (rd x1 (rd x32 x34)))) x32 x33 (wrap64 (x34 + 1)) x1000) else (none)) else (none)) else (none)) else (none)) else ((qC7.f x1000 x8).bind fun bt527 => (qAA.l3 k x1 bt527.1 0 x5 (x5.length : Int) 0 bt527.2))
def qAA.l3 : Nat → List Int → Int → Int → List Int → Int → Int → Int → Option (Int × Int)
 | 0, _, _, _, _, _, _, _ => none
 | k + 1, x1, x11, x12, x48, x49, x50, x1000 => if x50 < x49 then (if 0 ≤ x50 then (if x50 < (x48.length : Int) then (if 0 ≤ (rd x48 x50) then (if (rd x48 x50) < (x1.length : Int) then (if x11 < (wrap64 (x12 + (rd x1 (rd x48 x50)))) then (some (rd x48 x50, x1000)) else (qAA.l3 k x1 x11 (wrap64 (x12 + (rd x1 (rd x48 x50)))) x48 x49 (wrap64 (x50 + 1)) x1000)) else (none)) else (none)) else (none)) else (none)) else (some (0, x1000))
end
def qAA.f (k : Nat) (s0_0 : Int) (l1 : List Int) : Option (Int × Int) := qAA.l0 k l1 ([] : List Int) l1 (l1.length : Int) 0 s0_0
theorem qAA.calls (k : Nat) (g : Nat) (s0_0 : Int) (A1 : Option Addr) (c1 : Nat) (l1 : List Int) (r1 : Int) (r2 : Int) (w0 w : World) (hI : qA2 w0 w g s0_0) (hB : Below w0.heap.size w0 w) (hr1 : Kd.C (Kd.int .i64) w A1 l1.length l1) (hc1 : l1.length ≤ c1) (hf1 : ∀ ad, A1 = some ad → 0 < l1.length → ad.block ≠ g) (h : qAA.f k s0_0 l1 = some (r1, r2)) :
  Calls Tryz.prog 31 #[.pointer (some ⟨g, 0, none⟩), .slice A1 l1.length c1] w fun e w' => e = .returned (.int .i64 r1) ∧ qA2 w0 w' g r2 ∧ Below w0.heap.size w0 w' ∧ qBC w w' g none := by
 have HR1 := qA0.mk hr1
 have HC1 := qA0.mk hc1
 clear hr1 hc1
 have HI0 := qA0.mk hI
 have HK := qA0.mk (qBC.refl w g none)
 have HL := qA0.mk hB.size
 clear hI
 have HW0 := qA0.mk hB.size
 have HB := qA0.mk hB
 clear hB
 have H := h
 unfold qAA.f at H
 clear h
 have H' := qA0.mk H
 clear H
 go_enter Tryz.func31, Tryz.ntmps31
 go_wp2
 go_loopg [5, 17] k (fun kq v5 v17 w' => ∃ (x5_1 : List Int) (x17_1 : Int), v17 = .int .i64 x17_1 ∧ qA0 (qAA.l0 kq l1 x5_1 l1 (l1.length : Int) x17_1 s0_0 = some (r1, r2)) ∧ qA0 (kq ≤ k) ∧ qA0 (Kd.R (Kd.int .i64) 3 w' w.heap.size (fun _ => True) v5 x5_1) ∧ qA0 (qA2 w0 w' g s0_0) ∧ qA0 (qBC w w' g none) ∧ qA0 (Below w0.heap.size w0 w'))
 case atStart => exact ⟨(([] : List Int)), (0), zs, H', ⟨Nat.le_refl _⟩, ⟨by first | exact Kd.qEM _ _ _ _ _ | exact Kd.N_nil _ _ _ _ _ | exact Kd.qF4 _ _ _ _ _ | exact Kd.Q_nil _ _ _ _ _ | exact Kd.qFB _ _ _ _ _⟩, ⟨by repeat (first | (with_reducible first | exact HI0.out | apply qA2.alloc | apply qA2.drewN | apply qA2.drew | apply qA2.qCY) | exact HI0.out)⟩, ⟨by repeat (first | (with_reducible first | exact HK.out | apply qBC.set_ | apply keep_drewN | apply keep_drew | apply keep_alloc) | exact HK.out)⟩, ⟨by repeat (first | (with_reducible first | exact HB.out | apply qAC | apply qA8 | apply qAF | refine qA7 ?_ (qA2.ge HI0.out)) | exact HB.out)⟩⟩
 clear H'
 obtain ⟨x5_1, x17_1, rfl, HA, HK1, HO_5, HI0, HK, HB⟩ := hrel
 obtain _ | k1 := gk
 ·exact absurd HA.out (by simp [qAA.l0])
 have H := HA.out
 clear HA
 simp only [qAA.l0] at H
 by_cases c3 : x17_1 < (l1.length : Int)
 ·rw [if_pos c3] at H
  have c3b0 := decide_eq_true c3
  clear c3
  by_cases c4 : 0 ≤ x17_1
  rotate_left
  ·rw [if_neg c4] at H
   cases H
  rw [if_pos c4] at H
  have c4b0 := decide_eq_true c4
  clear c4
  by_cases c5 : x17_1 < (l1.length : Int)
  rotate_left
  ·rw [if_neg c5] at H
   cases H
  rw [if_pos c5] at H
  have c5b0 := decide_eq_true c5
  clear c5
  obtain ⟨ji6, hji6⟩ : ∃ j_ : Int, (mn (rd l1 x17_1) 1) = j_ := ⟨_, rfl⟩
  replace H : (qAA.l1 k1 l1 x5_1 x17_1 l1 (l1.length : Int) x17_1 ji6 0 s0_0) = some (r1, r2) := by first | (rw [hji6] at H; exact H) | (simp only [hji6] at H ⊢; exact H)
  have hji6_ : (if 1 < (rd l1 x17_1) then 1 else (rd l1 x17_1)) = ji6 := hji6
  have H' := qA0.mk H
  clear H
  have p521 : 0 ≤ (x17_1 : Int) := zd
  have q521 : x17_1 < (l1.length : Int) := zd
  obtain ⟨ad521, e521, hx521_0⟩ := Kd.qC2 HR1.out x17_1 p521 q521
  cases e521
  replace hx521_0 := keep_cell HK.out hx521_0 (by first | (rw [add_block]; exact hf1 _ rfl (by omega)) | exact hf1 _ rfl (by omega) | exact hf1 ad521 rfl (by omega))
  replace p521 := eq_true p521
  replace q521 := eq_true q521
  go_wp2
  go_loopg [5, 24] k1 (fun kq v5 v24 w' => ∃ (x5_2 : List Int) (x24_2 : Int), v24 = .int .i64 x24_2 ∧ qA0 (qAA.l1 kq l1 x5_2 x17_1 l1 (l1.length : Int) x17_1 ji6 x24_2 s0_0 = some (r1, r2)) ∧ qA0 (kq ≤ k1) ∧ qA0 (Kd.R (Kd.int .i64) 3 w' w.heap.size (fun _ => True) v5 x5_2) ∧ qA0 (qA2 w0 w' g s0_0) ∧ qA0 (qBC w w' g none) ∧ qA0 (Below w0.heap.size w0 w'))
  case atStart => exact ⟨(x5_1), (0), zs, H', ⟨Nat.le_refl _⟩, zR HO_5, ⟨by repeat (first | (with_reducible first | exact HI0.out | apply qA2.alloc | apply qA2.drewN | apply qA2.drew | apply qA2.qCY) | exact HI0.out)⟩, ⟨by repeat (first | (with_reducible first | exact HK.out | apply qBC.set_ | apply keep_drewN | apply keep_drew | apply keep_alloc) | exact HK.out)⟩, ⟨by repeat (first | (with_reducible first | exact HB.out | apply qAC | apply qA8 | apply qAF | refine qA7 ?_ (qA2.ge HI0.out)) | exact HB.out)⟩⟩
  clear H' c3b0 c4b0 c5b0 hx521_0 p521 q521
  obtain ⟨x5_2, x24_2, rfl, HA, HK2, HO_5, HI0, HK, HB⟩ := hrel
  obtain _ | k2 := gk
  ·exact absurd HA.out (by simp [qAA.l1])
  have H := HA.out
  clear HA
  simp only [qAA.l1] at H
  by_cases c7 : x24_2 < ji6
  rotate_left
  ·rw [if_neg c7] at H
   have c7b0 := decide_eq_false c7
   clear c7
   have H' := qA0.mk H
   clear H
   go_wp2
   go_roundg k2
   case measure => have := HK1.out; have := HK2.out; omega
   case rel => exact ⟨(x5_2), (wrap64 (x17_1 + 1)), zs, H', ⟨by have := HK1.out; have := HK2.out; omega⟩, zR HO_5, ⟨by repeat (first | (with_reducible first | exact HI0.out | apply qA2.alloc | apply qA2.drewN | apply qA2.drew | apply qA2.qCY) | exact HI0.out)⟩, ⟨by repeat (first | (with_reducible first | exact HK.out | apply qBC.set_ | apply keep_drewN | apply keep_drew | apply keep_alloc) | exact HK.out)⟩, ⟨by repeat (first | (with_reducible first | exact HB.out | apply qAC | apply qA8 | apply qAF | refine qA7 ?_ (qA2.ge HI0.out)) | exact HB.out)⟩⟩
  rw [if_pos c7] at H
  have c7b0 := decide_eq_true c7
  clear c7
  by_cases c8 : x5_2.length < 17592186044416
  rotate_left
  ·rw [if_neg c8] at H
   cases H
  rw [if_pos c8] at H
  have LMc8 := qA0.mk c8
  clear c8
  obtain ⟨y522, hy_⟩ : ∃ y_ : List Int, y_ = (x5_2 ++ [x17_1]) := ⟨_, rfl⟩
  replace H : (qAA.l1 k2 l1 y522 x17_1 l1 (l1.length : Int) x17_1 ji6 (wrap64 (x24_2 + 1)) s0_0) = some (r1, r2) := zr
  have Ny522 := qA0.mk hy_
  clear hy_
  have H' := qA0.mk H
  clear H
  go_wp2_with (((with_reducible refine qDS (b := .append) (xs := #[.tmp 26, .tmp 28]) rfl ?_); at_builtin; refine Kd.qFF (Kd.int .i64) w.heap.size rfl (.tmp 26) (.tmp 28) 24 3 (.int .i64 0) 8 rfl Tryz.underlying24 info3 rfl (by decide) (by omega) u5 x5_2 x17_1 [.int .i64 x17_1] (fun _ => True) (fun _ => False) rfl rfl ?aP (fun _ hk => hk.elim) ?aF ?aO (Below.refl _ _) ?aS ?aL ?_; (case aP => exact rfl); (case aF => exact (fun _ _ => trivial)); (case aO => exact (by (with_reducible repeat refine sR ?_); exact HO_5.out)); (case aS => exact (keep_size (w := w) (g := g) (row := none) (by repeat (first | (with_reducible first | exact HK.out | apply qBC.set_ | apply keep_drewN | apply keep_drew | apply keep_alloc) | exact HK.out)))); (case aL => have := LMc8.out; omega); intro v523 w9 ho hb hg hat; rw [← Ny522.out] at ho; have n0_ := qA0.mk (qA2.grown (by repeat (first | (with_reducible first | exact HI0.out | apply qA2.alloc | apply qA2.drewN | apply qA2.drew | apply qA2.qCY) | exact HI0.out)) hg (qA2.own_ne HI0.out HO_5.out (by decide))); have n1_ := qA0.mk (below_weaken (by repeat (first | (with_reducible first | exact HB.out | apply qAC | apply qA8 | apply qAF | refine qA7 ?_ (qA2.ge HI0.out)) | exact HB.out)) HL.out hb); have n2_ := qA0.mk (qBC.trans (by repeat (first | (with_reducible first | exact HK.out | apply qBC.set_ | apply keep_drewN | apply keep_drew | apply keep_alloc) | exact HK.out)) (qBC.of_grown hg g) (Kd.R_base2 HO_5.out)); have n3_ := qA0.mk (ho); clear HI0; clear HB; clear HK; clear HO_5; have HI0 := n0_; have HB := n1_; have HK := n2_; have HO524 := n3_; clear n0_ n1_ n2_ n3_; clear ho hb hg hat))
  go_roundg k2
  case measure => have := HK1.out; have := HK2.out; omega
  case rel => exact ⟨(y522), (wrap64 (x24_2 + 1)), zs, H', ⟨by have := HK1.out; have := HK2.out; omega⟩, zR HO524, ⟨by repeat (first | (with_reducible first | exact HI0.out | apply qA2.alloc | apply qA2.drewN | apply qA2.drew | apply qA2.qCY) | exact HI0.out)⟩, ⟨by repeat (first | (with_reducible first | exact HK.out | apply qBC.set_ | apply keep_drewN | apply keep_drew | apply keep_alloc) | exact HK.out)⟩, ⟨by repeat (first | (with_reducible first | exact HB.out | apply qAC | apply qA8 | apply qAF | refine qA7 ?_ (qA2.ge HI0.out)) | exact HB.out)⟩⟩
 rw [if_neg c3] at H
 have c3b0 := decide_eq_false c3
 clear c3
 have H' := qA0.mk H
 clear H
 obtain ⟨Ao10, co10, eo10⟩ := Kd.qBV HO_5.out
 subst eo10
 go_wp2
 go_loopg [8, 34] k1 (fun kq v8 v34 w' => ∃ (x8_2 : Int) (x34_2 : Int), v8 = .int .i64 x8_2 ∧ v34 = .int .i64 x34_2 ∧ qA0 (qAA.l2 kq l1 x5_1 x8_2 x5_1 (x5_1.length : Int) x34_2 s0_0 = some (r1, r2)) ∧ qA0 (kq ≤ k1) ∧ qA0 (Kd.R (Kd.int .i64) 3 w' w.heap.size (fun _ => True) (.slice Ao10 x5_1.length co10) x5_1) ∧ qA0 (Kd.R (Kd.int .i64) 3 w' w.heap.size (fun _ => True) (.slice Ao10 x5_1.length co10) x5_1) ∧ qA0 (qA2 w0 w' g s0_0) ∧ qA0 (qBC w w' g none) ∧ qA0 (Below w0.heap.size w0 w'))
 case atStart => exact ⟨(0), (0), zs, zs, H', ⟨Nat.le_refl _⟩, zR HO_5, zR HO_5, ⟨by repeat (first | (with_reducible first | exact HI0.out | apply qA2.alloc | apply qA2.drewN | apply qA2.drew | apply qA2.qCY) | exact HI0.out)⟩, ⟨by repeat (first | (with_reducible first | exact HK.out | apply qBC.set_ | apply keep_drewN | apply keep_drew | apply keep_alloc) | exact HK.out)⟩, ⟨by repeat (first | (with_reducible first | exact HB.out | apply qAC | apply qA8 | apply qAF | refine qA7 ?_ (qA2.ge HI0.out)) | exact HB.out)⟩⟩
 clear H' c3b0
 obtain ⟨x8_2, x34_2, rfl, rfl, HA, HK2, HO_5, HO_32, HI0, HK, HB⟩ := hrel
 obtain _ | k2 := gk
 ·exact absurd HA.out (by simp [qAA.l2])
 have H := HA.out
 clear HA
 simp only [qAA.l2] at H
 by_cases c11 : x34_2 < (x5_1.length : Int)
 ·rw [if_pos c11] at H
  have c11b0 := decide_eq_true c11
  clear c11
  by_cases c12 : 0 ≤ x34_2
  rotate_left
  ·rw [if_neg c12] at H
   cases H
  rw [if_pos c12] at H
  have c12b0 := decide_eq_true c12
  clear c12
  by_cases c13 : x34_2 < (x5_1.length : Int)
  rotate_left
  ·rw [if_neg c13] at H
   cases H
  rw [if_pos c13] at H
  have c13b0 := decide_eq_true c13
  clear c13
  by_cases c14 : 0 ≤ (rd x5_1 x34_2)
  rotate_left
  ·rw [if_neg c14] at H
   cases H
  rw [if_pos c14] at H
  have c14b0 := decide_eq_true c14
  clear c14
  by_cases c15 : (rd x5_1 x34_2) < (l1.length : Int)
  rotate_left
  ·rw [if_neg c15] at H
   cases H
  rw [if_pos c15] at H
  have c15b0 := decide_eq_true c15
  clear c15
  have H' := qA0.mk H
  clear H
  have p525 : 0 ≤ (x34_2 : Int) := zd
  have q525 : x34_2 < (x5_1.length : Int) := zd
  obtain ⟨ad525, e525, hx525_0⟩ := Kd.qC2 (Kd.qB3 HO_32.out).2.2 x34_2 p525 q525
  cases e525
  replace p525 := eq_true p525
  replace q525 := eq_true q525
  have p526 : 0 ≤ ((rd x5_1 x34_2) : Int) := zd
  have q526 : (rd x5_1 x34_2) < (l1.length : Int) := zd
  obtain ⟨ad526, e526, hx526_0⟩ := Kd.qC2 HR1.out (rd x5_1 x34_2) p526 q526
  cases e526
  replace hx526_0 := keep_cell HK.out hx526_0 (by first | (rw [add_block]; exact hf1 _ rfl (by omega)) | exact hf1 _ rfl (by omega) | exact hf1 ad526 rfl (by omega))
  replace p526 := eq_true p526
  replace q526 := eq_true q526
  go_wp2
  go_roundg k2
  case measure => have := HK1.out; have := HK2.out; omega
  case rel => exact ⟨(wrap64 (x8_2 + (rd l1 (rd x5_1 x34_2)))), (wrap64 (x34_2 + 1)), zs, zs, H', ⟨by have := HK1.out; have := HK2.out; omega⟩, zR HO_5, zR HO_32, ⟨by repeat (first | (with_reducible first | exact HI0.out | apply qA2.alloc | apply qA2.drewN | apply qA2.drew | apply qA2.qCY) | exact HI0.out)⟩, ⟨by repeat (first | (with_reducible first | exact HK.out | apply qBC.set_ | apply keep_drewN | apply keep_drew | apply keep_alloc) | exact HK.out)⟩, ⟨by repeat (first | (with_reducible first | exact HB.out | apply qAC | apply qA8 | apply qAF | refine qA7 ?_ (qA2.ge HI0.out)) | exact HB.out)⟩⟩
 rw [if_neg c11] at H
 have c11b0 := decide_eq_false c11
 clear c11
 replace H := zi H
 obtain ⟨⟨t527, t528⟩, A160, H⟩ := H
 dsimp only at H
 have A16 := qA0.mk A160
 clear A160
 have H' := qA0.mk H
 clear H
 go_wp2_with (((with_reducible refine qA6 (f := 32) rfl ?_); refine qBP (some 47) Tryz.func32 #[.pointer (some ⟨g, 0, none⟩), .int .i64 x8_2] ?_; (with_reducible refine (qC7.calls g s0_0 x8_2 t527 t528 w0 _ ?side1 ?side2 A16.out).mono ?_); (case side1 => repeat (first | (with_reducible first | exact HI0.out | apply qA2.alloc | apply qA2.drewN | apply qA2.drew | apply qA2.qCY) | exact HI0.out)); (case side2 => repeat (first | (with_reducible first | exact HB.out | apply qAC | apply qA8 | apply qAF | refine qA7 ?_ (qA2.ge HI0.out)) | exact HB.out)); rintro e w17 ⟨rfl, hi, hb, hk⟩; refine ⟨_, rfl, ?_⟩; replace HO_5 := qA0.mk (Kd.qB7 (Kd.R_keep (qA2.apart (show qA2 w0 _ g s0_0 from by repeat (first | (with_reducible first | exact HI0.out | apply qA2.alloc | apply qA2.drewN | apply qA2.drew | apply qA2.qCY) | exact HI0.out)) (by (with_reducible repeat refine sR ?_); exact HO_5.out) (by decide)) hk (fun _ h => h.2)) (fun _ h => h.1)); replace HO_32 := qA0.mk (Kd.qB7 (Kd.R_keep (qA2.apart (show qA2 w0 _ g s0_0 from by repeat (first | (with_reducible first | exact HI0.out | apply qA2.alloc | apply qA2.drewN | apply qA2.drew | apply qA2.qCY) | exact HI0.out)) (by (with_reducible repeat refine sR ?_); exact HO_32.out) (by decide)) hk (fun _ h => h.2)) (fun _ h => h.1)); replace HK := qA0.mk (qBC.trans (by repeat (first | (with_reducible first | exact HK.out | apply qBC.set_ | apply keep_drewN | apply keep_drew | apply keep_alloc) | exact HK.out)) hk (.inl rfl)); replace HI0 := qA0.mk (hi); replace HB := qA0.mk (hb); (try clear hb hk); (try clear hb)))
 go_loopg [12, 50] k2 (fun kq v12 v50 w' => ∃ (x12_3 : Int) (x50_3 : Int), v12 = .int .i64 x12_3 ∧ v50 = .int .i64 x50_3 ∧ qA0 (qAA.l3 kq l1 t527 x12_3 x5_1 (x5_1.length : Int) x50_3 t528 = some (r1, r2)) ∧ qA0 (kq ≤ k2) ∧ qA0 (Kd.R (Kd.int .i64) 3 w' w.heap.size (fun _ => True) (.slice Ao10 x5_1.length co10) x5_1) ∧ qA0 (qA2 w0 w' g t528) ∧ qA0 (qBC w w' g none) ∧ qA0 (Below w0.heap.size w0 w'))
 case atStart => exact ⟨(0), (0), zs, zs, H', ⟨Nat.le_refl _⟩, zR HO_5, ⟨by repeat (first | (with_reducible first | exact HI0.out | apply qA2.alloc | apply qA2.drewN | apply qA2.drew | apply qA2.qCY) | exact HI0.out)⟩, ⟨by repeat (first | (with_reducible first | exact HK.out | apply qBC.set_ | apply keep_drewN | apply keep_drew | apply keep_alloc) | exact HK.out)⟩, ⟨by repeat (first | (with_reducible first | exact HB.out | apply qAC | apply qA8 | apply qAF | refine qA7 ?_ (qA2.ge HI0.out)) | exact HB.out)⟩⟩
 clear H' c11b0
 obtain ⟨x12_3, x50_3, rfl, rfl, HA, HK3, HO_48, HI0, HK, HB⟩ := hrel
 obtain _ | k3 := gk
 ·exact absurd HA.out (by simp [qAA.l3])
 have H := HA.out
 clear HA
 simp only [qAA.l3] at H
 by_cases c18 : x50_3 < (x5_1.length : Int)
 rotate_left
 ·rw [if_neg c18] at H
  have c18b0 := decide_eq_false c18
  clear c18
  simp only [Option.some.injEq, Prod.mk.injEq] at H
  obtain ⟨rfl, rfl⟩ := H
  go_wp2
  go_ret
  exact ⟨zf, by repeat (first | (with_reducible first | exact HI0.out | apply qA2.alloc | apply qA2.drewN | apply qA2.drew | apply qA2.qCY) | exact HI0.out), by repeat (first | (with_reducible first | exact HB.out | apply qAC | apply qA8 | apply qAF | refine qA7 ?_ (qA2.ge HI0.out)) | exact HB.out), by repeat (first | (with_reducible first | exact HK.out | apply qBC.set_ | apply keep_drewN | apply keep_drew | apply keep_alloc) | exact HK.out)⟩
 rw [if_pos c18] at H
 have c18b0 := decide_eq_true c18
 clear c18
 by_cases c19 : 0 ≤ x50_3
 rotate_left
 ·rw [if_neg c19] at H
  cases H
 rw [if_pos c19] at H
 have c19b0 := decide_eq_true c19
 clear c19
 by_cases c20 : x50_3 < (x5_1.length : Int)
 rotate_left
 ·rw [if_neg c20] at H
  cases H
 rw [if_pos c20] at H
 have c20b0 := decide_eq_true c20
 clear c20
 by_cases c21 : 0 ≤ (rd x5_1 x50_3)
 rotate_left
 ·rw [if_neg c21] at H
  cases H
 rw [if_pos c21] at H
 have c21b0 := decide_eq_true c21
 clear c21
 by_cases c22 : (rd x5_1 x50_3) < (l1.length : Int)
 rotate_left
 ·rw [if_neg c22] at H
  cases H
 rw [if_pos c22] at H
 have c22b0 := decide_eq_true c22
 clear c22
 by_cases c23 : t527 < (wrap64 (x12_3 + (rd l1 (rd x5_1 x50_3))))
 ·rw [if_pos c23] at H
  have c23b0 := decide_eq_true c23
  clear c23
  simp only [Option.some.injEq, Prod.mk.injEq] at H
  obtain ⟨rfl, rfl⟩ := H
  have p529 : 0 ≤ (x50_3 : Int) := zd
  have q529 : x50_3 < (x5_1.length : Int) := zd
  obtain ⟨ad529, e529, hx529_0⟩ := Kd.qC2 (Kd.qB3 HO_48.out).2.2 x50_3 p529 q529
  cases e529
  replace p529 := eq_true p529
  replace q529 := eq_true q529
  have p530 : 0 ≤ ((rd x5_1 x50_3) : Int) := zd
  have q530 : (rd x5_1 x50_3) < (l1.length : Int) := zd
  obtain ⟨ad530, e530, hx530_0⟩ := Kd.qC2 HR1.out (rd x5_1 x50_3) p530 q530
  cases e530
  replace hx530_0 := keep_cell HK.out hx530_0 (by first | (rw [add_block]; exact hf1 _ rfl (by omega)) | exact hf1 _ rfl (by omega) | exact hf1 ad530 rfl (by omega))
  replace p530 := eq_true p530
  replace q530 := eq_true q530
  go_wp2
  go_ret
  exact ⟨zf, by repeat (first | (with_reducible first | exact HI0.out | apply qA2.alloc | apply qA2.drewN | apply qA2.drew | apply qA2.qCY) | exact HI0.out), by repeat (first | (with_reducible first | exact HB.out | apply qAC | apply qA8 | apply qAF | refine qA7 ?_ (qA2.ge HI0.out)) | exact HB.out), by repeat (first | (with_reducible first | exact HK.out | apply qBC.set_ | apply keep_drewN | apply keep_drew | apply keep_alloc) | exact HK.out)⟩
 rw [if_neg c23] at H
 have c23b0 := decide_eq_false c23
 clear c23
 have H' := qA0.mk H
 clear H
 have p529 : 0 ≤ (x50_3 : Int) := zd
 have q529 : x50_3 < (x5_1.length : Int) := zd
 obtain ⟨ad529, e529, hx529_0⟩ := Kd.qC2 (Kd.qB3 HO_48.out).2.2 x50_3 p529 q529
 cases e529
 replace p529 := eq_true p529
 replace q529 := eq_true q529
 have p530 : 0 ≤ ((rd x5_1 x50_3) : Int) := zd
 have q530 : (rd x5_1 x50_3) < (l1.length : Int) := zd
 obtain ⟨ad530, e530, hx530_0⟩ := Kd.qC2 HR1.out (rd x5_1 x50_3) p530 q530
 cases e530
 replace hx530_0 := keep_cell HK.out hx530_0 (by first | (rw [add_block]; exact hf1 _ rfl (by omega)) | exact hf1 _ rfl (by omega) | exact hf1 ad530 rfl (by omega))
 replace p530 := eq_true p530
 replace q530 := eq_true q530
 go_wp2
 go_roundg k3
 case measure => have := HK1.out; have := HK2.out; have := HK3.out; omega
 case rel => exact ⟨(wrap64 (x12_3 + (rd l1 (rd x5_1 x50_3)))), (wrap64 (x50_3 + 1)), zs, zs, H', ⟨by have := HK1.out; have := HK2.out; have := HK3.out; omega⟩, zR HO_48, ⟨by repeat (first | (with_reducible first | exact HI0.out | apply qA2.alloc | apply qA2.drewN | apply qA2.drew | apply qA2.qCY) | exact HI0.out)⟩, ⟨by repeat (first | (with_reducible first | exact HK.out | apply qBC.set_ | apply keep_drewN | apply keep_drew | apply keep_alloc) | exact HK.out)⟩, ⟨by repeat (first | (with_reducible first | exact HB.out | apply qAC | apply qA8 | apply qAF | refine qA7 ?_ (qA2.ge HI0.out)) | exact HB.out)⟩⟩
attribute [local go_sem high] eqA83
mutual
def qAP.l0 : Nat → List (S76) → Int → Int → Int → List Int → List (S56) → Int → Int → Int → List (S83) → List (S86) → Option (Int × (List (S83)) × (List (S86)))
 | 0, _, _, _, _, _, _, _, _, _, _, _ => none
 | k + 1, x0, x11, x12, x532000, x532001, x532002, x532003, x535000, x536000, x536001, x536002 => if x12 < x11 then (if x536001.length < 8796093022208 then (qAP.l1 k x0 x11 x12 x532002 (x532002.length : Int) 0 x532000 x532001 x532002 x532003 x535000 x536000 (x536001 ++ [(⟨x12, 0⟩ : S83)]) x536002) else (none)) else (some (x536000, x536001, x536002))
def qAP.l1 : Nat → List (S76) → Int → Int → List (S56) → Int → Int → Int → List Int → List (S56) → Int → Int → Int → List (S83) → List (S86) → Option (Int × (List (S83)) × (List (S86)))
 | 0, _, _, _, _, _, _, _, _, _, _, _, _, _, _ => none
 | k + 1, x0, x11, x12, x43, x44, x45, x532000, x532001, x532002, x532003, x535000, x536000, x536001, x536002 => if x45 < x44 then (if 0 ≤ x45 then (if x45 < (x43.length : Int) then ((qC7.f x535000 1000000).bind fun bt543 => ((qAA.f k bt543.2 ((qAH x43 x45).f2)).bind fun bt545 => (if bt543.1 ≥ x532003 then ((qBA.f k x0 ((qAH x43 x45).f0)).bind fun bt547 => (if 0 ≤ bt545.1 then (if bt545.1 < (((qAH x43 x45).f1).length : Int) then (if x536002.length < 3518437208883 then (qAP.l1 k x0 x11 x12 x43 x44 (wrap64 (x45 + 1)) x532000 x532001 x532002 x532003 bt545.2 x536000 x536001 (x536002 ++ [(⟨x12, (qAH x43 x45).f0, (⟨bt547.2.1, rd ((qAH x43 x45).f1) bt545.1⟩ : S58)⟩ : S86)])) else (none)) else (none)) else (none))) else (qAP.l1 k x0 x11 x12 x43 x44 (wrap64 (x45 + 1)) x532000 x532001 x532002 x532003 bt545.2 x536000 x536001 x536002)))) else (none)) else (none)) else (qAP.l0 k x0 x11 (wrap64 (x12 + 1)) x532000 x532001 x532002 x532003 x535000 x536000 x536001 x536002)
end
def qAP.f (k : Nat) (l0 : List (S76)) (a1_0 : Int) (l1_1 : List Int) (l1_2 : List (S56)) (a1_3 : Int) (a2 : Int) (a3 : Int) : Option (Int × (List (S83)) × (List (S86))) := (qDC.f a2 a3).bind fun t533 => ((qAA.f k t533 l1_1).bind fun bt536 => (qAP.l0 k l0 (wrap64 (bt536.1 + 1)) 0 a1_0 l1_1 l1_2 a1_3 bt536.2 a1_0 ([] : List (S83)) ([] : List (S86))))
def qAP.T15 : Bool × List (List Nat × List Nat) := (true, [([], []), ([0], [0]), ([], []), ([], []), ([3], [3]), ([], []), ([5], [5]), ([], []), ([7], [7]), ([], []), ([8, 9], [8, 9]), ([10], [10]), ([6, 11], [6, 11]), ([2, 4, 12], [2, 4, 12]), ([13], [13]), ([1, 14], [1, 14]), ([0, 1, 2, 3, 4, 5, 6, 7, 8, 9, 10, 11, 12, 13, 14, 15], []), ([16, 15, 15, 0, 1, 2, 3, 4, 5, 6, 7, 8, 9, 10, 11, 12, 13, 14, 15], [15, 16])])
def qAP.B15 : List Nat := [0, 1, 0, 0, 8, 0, 32, 0, 128, 0, 896, 1920, 4064, 8188, 16380, 32767, 65535, 131071]
theorem qAP.tab15 : rtab .any (opsOf Tryz.f11 15) = qAP.T15 := by kernel_rfl
theorem qAP.bits15 : qDW qAP.T15.2 qAP.B15 = true := by kernel_rfl
theorem qAP.calls (k : Nat) (A0 : Option Addr) (c0 : Nat) (l0 : List (S76)) (a1_0 : Int) (A1_1 : Option Addr) (c1_1 : Nat) (l1_1 : List Int) (A1_2 : Option Addr) (c1_2 : Nat) (l1_2 : List (S56)) (a1_3 : Int) (a2 : Int) (a3 : Int) (r1 : Int) (r2 : List (S83)) (r3 : List (S86)) (w : World) (hr0 : Kd.C k76 w A0 l0.length l0) (hc0 : l0.length ≤ c0) (hr1_1 : Kd.C (Kd.int .i64) w A1_1 l1_1.length l1_1) (hc1_1 : l1_1.length ≤ c1_1) (hr1_2 : Kd.C k56 w A1_2 l1_2.length l1_2) (hc1_2 : l1_2.length ≤ c1_2) (h : qAP.f k l0 a1_0 l1_1 l1_2 a1_3 a2 a3 = some (r1, r2, r3)) :
  Calls Tryz.prog 11 #[.slice A0 l0.length c0, .agg #[.int .i64 a1_0, .slice A1_1 l1_1.length c1_1, .slice A1_2 l1_2.length c1_2, .int .i64 a1_3], .int .u64 a2, .int .i64 a3] w fun e w' => ∃ v1_ v2_ : Value, e = .returned (.agg #[.int .i64 r1, v1_, v2_]) ∧ Kd.R k83 83 w' w.heap.size (fun _ => True) v1_ r2 ∧ Kd.R k86 86 w' w.heap.size (fun _ => True) v2_ r3 ∧ Below w.heap.size w w' := by
 have hu27 := Tryz.underlying27
 have hu35 := Tryz.underlying35
 have hu83 := Tryz.underlying83
 have hu56 := Tryz.underlying56
 have hu60 := Tryz.underlying60
 have hu58 := Tryz.underlying58
 have hu86 := Tryz.underlying86
 have HR0 := qA0.mk hr0
 have HC0 := qA0.mk hc0
 clear hr0 hc0
 have HR1_1 := qA0.mk hr1_1
 have HC1_1 := qA0.mk hc1_1
 clear hr1_1 hc1_1
 have HR1_2 := qA0.mk hr1_2
 have HC1_2 := qA0.mk hc1_2
 clear hr1_2 hc1_2
 have HB := qA0.mk (Below.refl w.heap.size w)
 have H := h
 unfold qAP.f at H
 clear h
 replace H := zi H
 obtain ⟨t533, A50, H⟩ := H
 have A5 := qA0.mk A50
 clear A50
 replace H := zi H
 obtain ⟨⟨t536, t537⟩, A60, H⟩ := H
 dsimp only at H
 have A6 := qA0.mk A60
 clear A60
 have H' := qA0.mk H
 clear H
 go_enter Tryz.func11, Tryz.ntmps11
 go_wp2_with (first | ((with_reducible refine qA9 (N := 5) rfl ?_); refine boxZ 5 #[.int .i64 a1_0, .slice A1_1 l1_1.length c1_1, .slice A1_2 l1_2.length c1_2, .int .i64 a1_3] 27 ?_; intro gb531 hg w7 hbox hb; have BK531 := qA0.mk (hbox); have GW531 := zg w gb531; have GE531 := zg w gb531; replace HB := zB hb; clear hb hbox hg) | ((with_reducible refine qA9 (N := 8) rfl ?_); refine boxZ 8 #[.int .i64 0, .slice none 0 0, .slice none 0 0] 35 ?_; intro gb532 hg w8 hbox hb; have BK532 := qA0.mk (hbox); have GW532 := zg w gb532; have GE532 := zg w gb532; have NB531_532 := zl BK531 gb532; have NB532_531 := zu BK531 gb532; replace BK531 := zK BK531 hb; replace HB := zB hb; clear hb hbox hg) | ((with_reducible refine qA6 (f := 30) rfl ?_); refine qBP (some 21) Tryz.func30 #[.int .u64 a2, .int .i64 a3] ?_; (with_reducible refine (qDC.calls a2 a3 t533 w _ ?side1 A5.out).mono ?_); (case side1 => repeat (first | (with_reducible first | exact HB.out | apply qAC | apply qA8 | apply qAF | refine qA7 ?_ GE531.out | refine qA7 ?_ GE532.out) | exact HB.out)); rintro e w9 ⟨g534, rfl, hi, hb, hb2⟩; refine ⟨_, rfl, ?_⟩; have HI534 := qA0.mk (hi); have NB534_531 := qA0.mk (qA2.ne_blk hi (qAL (zk BK531) hb2) (by decide)); have NB531_534 := qA0.mk (Ne.symm (qA2.ne_blk hi (qAL (zk BK531) hb2) (by decide))); have NB534_532 := qA0.mk (qA2.ne_blk hi (qAL (zk BK532) hb2) (by decide)); have NB532_534 := qA0.mk (Ne.symm (qA2.ne_blk hi (qAL (zk BK532) hb2) (by decide))); replace BK531 := qA0.mk (qAL (zk BK531) hb2); replace BK532 := qA0.mk (qAL (zk BK532) hb2); replace HB := qA0.mk (hb); (try clear hb hk); (try clear hb); have hnb10 := NB531_532.out; have hnc10 := NB532_531.out; have hnb11 := NB531_534.out; have hnc11 := NB534_531.out; obtain ⟨hcz12_0, hcz12_1, hcz12_2, hcz12_3, hfz12_0, hfz12_1, hfz12_2, hfz12_3⟩ := bc4 BK531.out) | ((with_reducible refine qA9 (N := 10) rfl ?_); refine boxZ 10 #[.int .i64 0, .slice none 0 0, .slice none 0 0] 35 ?_; intro gb535 hg w13 hbox hb; have n0_ := qA0.mk (qAL (zk BK531) hb); have n1_ := qA0.mk (qAL (zk BK532) hb); have n2_ := qA0.mk (qA2.below (by repeat (first | (with_reducible first | exact HI534.out | apply qA2.alloc | apply qA2.drewN | apply qA2.drew | apply qA2.qCY | refine qA2.far ?_ NB534_531.out _ | refine qA2.far ?_ NB534_532.out _) | exact HI534.out)) hb); have n3_ := qA0.mk (qBZ (by repeat (first | (with_reducible first | exact HB.out | apply qAC | apply qA8 | apply qAF | refine qA7 ?_ (qA2.ge HI534.out) | refine qA7 ?_ GE531.out | refine qA7 ?_ GE532.out) | exact HB.out)) hb); have n4_ := qA0.mk (hbox); have n5_ := qA0.mk ((by rw [hg]; exact (qAI (by repeat (first | (with_reducible first | exact HB.out | apply qAC | apply qA8 | apply qAF | refine qA7 ?_ (qA2.ge HI534.out) | refine qA7 ?_ GE531.out | refine qA7 ?_ GE532.out) | exact HB.out))) : w.heap.size ≤ gb535)); have n6_ := qA0.mk ((by rw [hg]; exact (qAI (by repeat (first | (with_reducible first | exact HB.out | apply qAC | apply qA8 | apply qAF | refine qA7 ?_ (qA2.ge HI534.out) | refine qA7 ?_ GE531.out | refine qA7 ?_ GE532.out) | exact HB.out))) : w.heap.size ≤ gb535)); have n7_ := zl BK531 gb535; have n8_ := zu BK531 gb535; have n9_ := zl BK532 gb535; have n10_ := zu BK532 gb535; have n11_ := qA0.mk ((by rw [hg]; exact Nat.ne_of_lt (qA2.lt (show qA2 w _ g534 t533 from by repeat (first | (with_reducible first | exact HI534.out | apply qA2.alloc | apply qA2.drewN | apply qA2.drew | apply qA2.qCY | refine qA2.far ?_ NB534_531.out _ | refine qA2.far ?_ NB534_532.out _) | exact HI534.out))) : g534 ≠ gb535)); have n12_ := qA0.mk ((by rw [hg]; exact Nat.ne_of_gt (qA2.lt (show qA2 w _ g534 t533 from by repeat (first | (with_reducible first | exact HI534.out | apply qA2.alloc | apply qA2.drewN | apply qA2.drew | apply qA2.qCY | refine qA2.far ?_ NB534_531.out _ | refine qA2.far ?_ NB534_532.out _) | exact HI534.out))) : gb535 ≠ g534)); clear BK531; clear BK532; clear HI534; clear HB; have BK531 := n0_; have BK532 := n1_; have HI534 := n2_; have HB := n3_; have BK535 := n4_; have GW535 := n5_; have GE535 := n6_; have NB531_535 := n7_; have NB535_531 := n8_; have NB532_535 := n9_; have NB535_532 := n10_; have NB534_535 := n11_; have NB535_534 := n12_; clear n0_ n1_ n2_ n3_ n4_ n5_ n6_ n7_ n8_ n9_ n10_ n11_ n12_; clear hb hbox hg; have hnb14 := NB535_531.out; have hnc14 := NB531_535.out; have hnb15 := NB535_532.out; have hnc15 := NB532_535.out; have hnb16 := NB535_534.out; have hnc16 := NB534_535.out; obtain ⟨hcz17_0, hcz17_1, hcz17_2, hfz17_0, hfz17_1, hfz17_2⟩ := bc3 BK535.out; obtain ⟨hcz18_0, hcz18_1, hcz18_2, hcz18_3, hfz18_0, hfz18_1, hfz18_2, hfz18_3⟩ := bc4 BK531.out) | ((with_reducible refine qA6 (f := 31) rfl ?_); refine qBP (some 28) Tryz.func31 #[.pointer (some ⟨g534, 0, none⟩), .slice A1_1 l1_1.length c1_1] ?_; (with_reducible refine (qAA.calls k g534 t533 _ _ l1_1 t536 t537 w _ ?side1 ?side2 ?side3 ?side4 ?side5 A6.out).mono ?_); (case side1 => repeat (first | (with_reducible first | exact HI534.out | apply qA2.alloc | apply qA2.drewN | apply qA2.drew | apply qA2.qCY | refine qA2.far ?_ NB534_531.out _ | refine qA2.far ?_ NB534_532.out _ | refine qA2.far ?_ NB534_535.out _) | exact HI534.out)); (case side2 => repeat (first | (with_reducible first | exact HB.out | apply qAC | apply qA8 | apply qAF | refine qA7 ?_ (qA2.ge HI534.out) | refine qA7 ?_ GE531.out | refine qA7 ?_ GE532.out | refine qA7 ?_ GE535.out) | exact HB.out)); (case side3 => exact Kd.qAE HR1_1.out (by repeat (first | (with_reducible first | exact HB.out | apply qAC | apply qA8 | apply qAF | refine qA7 ?_ (qA2.ge HI534.out) | refine qA7 ?_ GE531.out | refine qA7 ?_ GE532.out | refine qA7 ?_ GE535.out) | exact HB.out))); (case side4 => exact HC1_1.out); (case side5 => exact Kd.far_C 0 HR1_1.out (qA2.ge HI534.out)); rintro e w19 ⟨rfl, hi, hb, hk⟩; refine ⟨_, rfl, ?_⟩; replace BK531 := qA0.mk (qBC.blk hk (g' := gb531) (o := .cells #[.int .i64 a1_0, .slice A1_1 l1_1.length c1_1, .slice A1_2 l1_2.length c1_2, .int .i64 a1_3] 27 (0, 0)) (by refine zf3 ?_ NB531_535; (with_reducible repeat refine st ?_); exact BK531.out) NB531_534.out (by simp)); replace BK532 := qA0.mk (qBC.blk hk (g' := gb532) (o := .cells #[.int .i64 0, .slice none 0 0, .slice none 0 0] 35 (0, 0)) (by refine zf3 ?_ NB532_535; (with_reducible repeat refine st ?_); exact BK532.out) NB532_534.out (by simp)); replace BK535 := qA0.mk (qBC.blk hk (g' := gb535) (o := .cells #[.int .i64 a1_0, .slice none 0 0, .slice none 0 0] 35 (0, 0)) (zp3 BK535) NB535_534.out (by simp)); replace HI534 := qA0.mk (hi); replace HB := qA0.mk (hb); (try clear hb hk); (try clear hb)))
 go_loopg [12] k (fun kq v12 w' => ∃ (x12_1 : Int) (x535000_1 : Int) (x536001_1 : List (S83)) (x536002_1 : List (S86)) (u536001 : Value) (u536002 : Value), v12 = .int .i64 x12_1 ∧ qA0 (qAP.l0 kq l0 (wrap64 (t536 + 1)) x12_1 a1_0 l1_1 l1_2 a1_3 x535000_1 a1_0 x536001_1 x536002_1 = some (r1, r2, r3)) ∧ qA0 (kq ≤ k) ∧ qA0 (Kd.R k83 83 w' w.heap.size (fun _ => True) u536001 x536001_1) ∧ qA0 (Kd.R k86 86 w' w.heap.size (fun _ => True) u536002 x536002_1) ∧ qA0 (w'.heap[gb531]? = some (.cells #[.int .i64 a1_0, (.slice A1_1 l1_1.length c1_1), (.slice A1_2 l1_2.length c1_2), .int .i64 a1_3] 27 (0, 0))) ∧ qA0 (w'.heap[gb532]? = some (.cells #[.int .i64 0, (.slice none 0 0), (.slice none 0 0)] 35 (0, 0))) ∧ qA0 (w'.heap[gb535]? = some (.cells #[.int .i64 a1_0, u536001, u536002] 35 (0, 0))) ∧ qA0 (qA2 w w' g534 x535000_1) ∧ qA0 (Below w.heap.size w w'))
 case atStart => exact ⟨(0), (t537), (([] : List (S83))), (([] : List (S86))), (.slice none 0 0), (.slice none 0 0), zs, H', ⟨Nat.le_refl _⟩, ⟨by first | exact Kd.qEM _ _ _ _ _ | exact Kd.N_nil _ _ _ _ _ | exact Kd.qF4 _ _ _ _ _ | exact Kd.Q_nil _ _ _ _ _ | exact Kd.qFB _ _ _ _ _⟩, ⟨by first | exact Kd.qEM _ _ _ _ _ | exact Kd.N_nil _ _ _ _ _ | exact Kd.qF4 _ _ _ _ _ | exact Kd.Q_nil _ _ _ _ _ | exact Kd.qFB _ _ _ _ _⟩, ⟨zk BK531⟩, ⟨zk BK532⟩, ⟨zk BK535⟩, ⟨by repeat (first | (with_reducible first | exact HI534.out | apply qA2.alloc | apply qA2.drewN | apply qA2.drew | apply qA2.qCY | refine qA2.far ?_ NB534_531.out _ | refine qA2.far ?_ NB534_532.out _ | refine qA2.far ?_ NB534_535.out _) | exact HI534.out)⟩, ⟨by repeat (first | (with_reducible first | exact HB.out | apply qAC | apply qA8 | apply qAF | refine qA7 ?_ (qA2.ge HI534.out) | refine qA7 ?_ GE531.out | refine qA7 ?_ GE532.out | refine qA7 ?_ GE535.out) | exact HB.out)⟩⟩
 clear H' hcz12_0 hcz12_1 hcz12_2 hcz12_3 hcz17_0 hcz17_1 hcz17_2 hcz18_0 hcz18_1 hcz18_2 hcz18_3 hfz12_0 hfz12_1 hfz12_2 hfz12_3 hfz17_0 hfz17_1 hfz17_2 hfz18_0 hfz18_1 hfz18_2 hfz18_3
 obtain ⟨x12_1, x535000_1, x536001_1, x536002_1, u536001, u536002, rfl, HA, HK1, HO_536001, HO_536002, BK531, BK532, BK535, HI534, HB⟩ := hrel
 obtain _ | k1 := gk
 ·exact absurd HA.out (by simp [qAP.l0])
 have H := HA.out
 clear HA
 simp only [qAP.l0] at H
 by_cases c20 : x12_1 < (wrap64 (t536 + 1))
 rotate_left
 ·rw [if_neg c20] at H
  have c20b0 := decide_eq_false c20
  clear c20
  simp only [Option.some.injEq, Prod.mk.injEq] at H
  obtain ⟨rfl, rfl, rfl⟩ := H
  have hnb82 := NB535_531.out
  have hnc82 := NB531_535.out
  have hnb83 := NB535_532.out
  have hnc83 := NB532_535.out
  have hnb84 := NB535_534.out
  have hnc84 := NB534_535.out
  obtain ⟨hcz85_0, hcz85_1, hcz85_2, hfz85_0, hfz85_1, hfz85_2⟩ := bc3 BK535.out
  have hnb86 := NB532_531.out
  have hnc86 := NB531_532.out
  have hnb87 := NB532_534.out
  have hnc87 := NB534_532.out
  obtain ⟨hcz88_0, hcz88_1, hcz88_2, hfz88_0, hfz88_1, hfz88_2⟩ := bc3 BK532.out
  obtain ⟨Ao89, co89, eo89⟩ := Kd.qBV HO_536001.out
  subst eo89
  obtain ⟨Ao90, co90, eo90⟩ := Kd.qBV HO_536002.out
  subst eo90
  go_wp2
  refine bodyPost_ret (results_cell_row rfl _ _ gb532 35 #[.int .i64 a1_0, .slice Ao89 x536001_1.length co89, .slice Ao90 x536002_1.length co90] (0, 0) _ rfl (zp3 BK532) Tryz.underlying35 rfl (by kernel_rfl)) rfl ?_
  exact ⟨_, _, zf, by (with_reducible repeat refine sR ?_); exact Kd.qB7 (Kd.qAW (Kd.qAW (Kd.qAW (Kd.qBG HO_536001.out BK532.out (by decide)) (fun _ hk => hk.2) _) (fun _ hk => hk.2) _) (fun _ hk => hk.2) _) (fun _ hk => trivial), by (with_reducible repeat refine sR ?_); exact Kd.qB7 (Kd.qAW (Kd.qAW (Kd.qAW (Kd.qBG HO_536002.out BK532.out (by decide)) (fun _ hk => hk.2) _) (fun _ hk => hk.2) _) (fun _ hk => hk.2) _) (fun _ hk => trivial), by repeat (first | (with_reducible first | exact HB.out | apply qAC | apply qA8 | apply qAF | refine qA7 ?_ (qA2.ge HI534.out) | refine qA7 ?_ GE531.out | refine qA7 ?_ GE532.out | refine qA7 ?_ GE535.out) | exact HB.out)⟩
 rw [if_pos c20] at H
 have c20b0 := decide_eq_true c20
 clear c20
 by_cases c21 : x536001_1.length < 8796093022208
 rotate_left
 ·rw [if_neg c21] at H
  cases H
 rw [if_pos c21] at H
 have LMc21 := qA0.mk c21
 clear c21
 obtain ⟨y538, hy_⟩ : ∃ y_ : List (S83), y_ = (x536001_1 ++ [(⟨x12_1, 0⟩ : S83)]) := ⟨_, rfl⟩
 replace H : (qAP.l1 k1 l0 (wrap64 (t536 + 1)) x12_1 l1_2 (l1_2.length : Int) 0 a1_0 l1_1 l1_2 a1_3 x535000_1 a1_0 y538 x536002_1) = some (r1, r2, r3) := zr
 have Ny538 := qA0.mk hy_
 clear hy_
 have H' := qA0.mk H
 clear H
 have hnb22 := NB535_531.out
 have hnc22 := NB531_535.out
 have hnb23 := NB535_532.out
 have hnc23 := NB532_535.out
 have hnb24 := NB535_534.out
 have hnc24 := NB534_535.out
 obtain ⟨hcz25_0, hcz25_1, hcz25_2, hfz25_0, hfz25_1, hfz25_2⟩ := bc3 BK535.out
 go_wp2_with (((with_reducible refine qDS (b := .append) (xs := #[.tmp 36, .tmp 39]) rfl ?_); at_builtin; refine Kd.qFF k83 (w0 := w) w.heap.size rfl (.tmp 36) (.tmp 39) 32 83 (.agg #[(.int .i64 0), (.int .i64 0)]) 16 rfl Tryz.underlying32 info83 rfl (by decide) (by omega) u536001 x536001_1 (⟨x12_1, 0⟩ : S83) [.int .i64 x12_1, .int .i64 0] (fun _ => True) (fun _ => False) rfl rfl ?aP (fun _ hk => hk.elim) ?aF ?aO ?aB ?aS ?aL ?_; (case aP => exact k83_mkM _ _ _ (⟨x12_1, 0⟩ : S83)); (case aB => exact (by repeat (first | (with_reducible first | exact HB.out | apply qAC | apply qA8 | apply qAF | refine qA7 ?_ (qA2.ge HI534.out) | refine qA7 ?_ GE531.out | refine qA7 ?_ GE532.out | refine qA7 ?_ GE535.out) | exact HB.out))); (case aF => exact (fun _ _ => trivial)); (case aO => exact (by (with_reducible repeat refine sR ?_); exact HO_536001.out)); (case aS => exact (qAI (by repeat (first | (with_reducible first | exact HB.out | apply qAC | apply qA8 | apply qAF | refine qA7 ?_ (qA2.ge HI534.out) | refine qA7 ?_ GE531.out | refine qA7 ?_ GE532.out | refine qA7 ?_ GE535.out) | exact HB.out)))); (case aL => have := LMc21.out; omega); intro v539 w26 ho hb hg hat; rw [← Ny538.out] at ho; have HO540 := qA0.mk (ho); replace HO_536002 := qA0.mk (Kd.R_over' (by (with_reducible repeat refine sR ?_); exact HO_536002.out) (Kd.qFE (by (with_reducible repeat refine sR ?_); exact HO_536001.out)) (by decide) hg); replace BK531 := qA0.mk (qAO (g := gb531) (o := .cells #[.int .i64 a1_0, .slice A1_1 l1_1.length c1_1, .slice A1_2 l1_2.length c1_2, .int .i64 a1_3] 27 (0, 0)) (zk BK531) hg (Kd.R_ne HO_536001.out BK531.out (by decide))); replace BK532 := qA0.mk (qAO (g := gb532) (o := .cells #[.int .i64 0, .slice none 0 0, .slice none 0 0] 35 (0, 0)) (zk BK532) hg (Kd.R_ne HO_536001.out BK532.out (by decide))); replace BK535 := qA0.mk (qAO (g := gb535) (o := .cells #[.int .i64 a1_0, u536001, u536002] 35 (0, 0)) (zk BK535) hg (Kd.R_ne HO_536001.out BK535.out (by decide))); replace HI534 := qA0.mk (qA2.grown (by repeat (first | (with_reducible first | exact HI534.out | apply qA2.alloc | apply qA2.drewN | apply qA2.drew | apply qA2.qCY | refine qA2.far ?_ NB534_531.out _ | refine qA2.far ?_ NB534_532.out _ | refine qA2.far ?_ NB534_535.out _) | exact HI534.out)) hg (qA2.own_ne HI534.out HO_536001.out (by decide))); replace HB := qA0.mk (hb); clear HO_536001; clear ho hb hg hat; obtain ⟨Ao27, co27, eo27⟩ := Kd.qBV HO540.out; subst eo27; obtain ⟨hcz28_0, hcz28_1, hcz28_2, hfz28_0, hfz28_1, hfz28_2⟩ := bc3 BK535.out; have hnb29 := NB531_532.out; have hnc29 := NB532_531.out; have hnb30 := NB531_534.out; have hnc30 := NB534_531.out; obtain ⟨hcz31_0, hcz31_1, hcz31_2, hcz31_3, hfz31_0, hfz31_1, hfz31_2, hfz31_3⟩ := bc4 BK531.out))
 go_loopg [45] k1 (fun kq v45 w' => ∃ (x45_2 : Int) (x535000_2 : Int) (x536002_2 : List (S86)) (u536002 : Value), v45 = .int .i64 x45_2 ∧ qA0 (qAP.l1 kq l0 (wrap64 (t536 + 1)) x12_1 l1_2 (l1_2.length : Int) x45_2 a1_0 l1_1 l1_2 a1_3 x535000_2 a1_0 y538 x536002_2 = some (r1, r2, r3)) ∧ qA0 (kq ≤ k1) ∧ qA0 (Kd.R k83 83 w' w.heap.size (fun _ => True) (.slice Ao27 y538.length co27) y538) ∧ qA0 (Kd.R k86 86 w' w.heap.size (fun _ => True) u536002 x536002_2) ∧ qA0 (w'.heap[gb531]? = some (.cells #[.int .i64 a1_0, (.slice A1_1 l1_1.length c1_1), (.slice A1_2 l1_2.length c1_2), .int .i64 a1_3] 27 (0, 0))) ∧ qA0 (w'.heap[gb532]? = some (.cells #[.int .i64 0, (.slice none 0 0), (.slice none 0 0)] 35 (0, 0))) ∧ qA0 (w'.heap[gb535]? = some (.cells #[.int .i64 a1_0, (.slice Ao27 y538.length co27), u536002] 35 (0, 0))) ∧ qA0 (qA2 w w' g534 x535000_2) ∧ qA0 (Below w.heap.size w w'))
 case atStart => exact ⟨(0), (x535000_1), (x536002_1), (u536002), zs, H', ⟨Nat.le_refl _⟩, ⟨by (with_reducible repeat refine sR ?_); exact Kd.qB7 (Kd.qAW (Kd.qBG HO540.out BK535.out (by decide)) (fun _ hk => hk.2) _) (fun _ hk => trivial)⟩, ⟨by (with_reducible repeat refine sR ?_); exact Kd.qB7 (Kd.qAW (Kd.qBG HO_536002.out BK535.out (by decide)) (fun _ hk => hk.2) _) (fun _ hk => trivial)⟩, ⟨by refine zf_ ?_ NB531_535; (with_reducible repeat refine st ?_); exact BK531.out⟩, ⟨by refine zf_ ?_ NB532_535; (with_reducible repeat refine st ?_); exact BK532.out⟩, ⟨by refine zp_ (cs := #[.int .i64 a1_0, u536001, u536002]) ?_ 1; (with_reducible repeat refine st ?_); exact BK535.out⟩, ⟨by repeat (first | (with_reducible first | exact HI534.out | apply qA2.alloc | apply qA2.drewN | apply qA2.drew | apply qA2.qCY | refine qA2.far ?_ NB534_531.out _ | refine qA2.far ?_ NB534_532.out _ | refine qA2.far ?_ NB534_535.out _) | exact HI534.out)⟩, ⟨by repeat (first | (with_reducible first | exact HB.out | apply qAC | apply qA8 | apply qAF | refine qA7 ?_ (qA2.ge HI534.out) | refine qA7 ?_ GE531.out | refine qA7 ?_ GE532.out | refine qA7 ?_ GE535.out) | exact HB.out)⟩⟩
 clear H' c20b0 hcz25_0 hcz25_1 hcz25_2 hcz28_0 hcz28_1 hcz28_2 hcz31_0 hcz31_1 hcz31_2 hcz31_3 hfz25_0 hfz25_1 hfz25_2 hfz28_0 hfz28_1 hfz28_2 hfz31_0 hfz31_1 hfz31_2 hfz31_3
 obtain ⟨x45_2, x535000_2, x536002_2, u536002, rfl, HA, HK2, HO_536001, HO_536002, BK531, BK532, BK535, HI534, HB⟩ := hrel
 obtain _ | k2 := gk
 ·exact absurd HA.out (by simp [qAP.l1])
 have H := HA.out
 clear HA
 simp only [qAP.l1] at H
 by_cases c32 : x45_2 < (l1_2.length : Int)
 rotate_left
 ·rw [if_neg c32] at H
  have c32b0 := decide_eq_false c32
  clear c32
  have H' := qA0.mk H
  clear H
  go_wp2
  go_roundg k2
  case measure => have := HK1.out; have := HK2.out; omega
  case rel => exact ⟨(wrap64 (x12_1 + 1)), (x535000_2), (y538), (x536002_2), (.slice Ao27 y538.length co27), (u536002), zs, H', ⟨by have := HK1.out; have := HK2.out; omega⟩, zR HO_536001, zR HO_536002, ⟨zk BK531⟩, ⟨zk BK532⟩, ⟨zk BK535⟩, ⟨by repeat (first | (with_reducible first | exact HI534.out | apply qA2.alloc | apply qA2.drewN | apply qA2.drew | apply qA2.qCY | refine qA2.far ?_ NB534_531.out _ | refine qA2.far ?_ NB534_532.out _ | refine qA2.far ?_ NB534_535.out _) | exact HI534.out)⟩, ⟨by repeat (first | (with_reducible first | exact HB.out | apply qAC | apply qA8 | apply qAF | refine qA7 ?_ (qA2.ge HI534.out) | refine qA7 ?_ GE531.out | refine qA7 ?_ GE532.out | refine qA7 ?_ GE535.out) | exact HB.out)⟩⟩
 rw [if_pos c32] at H
 have c32b0 := decide_eq_true c32
 clear c32
 by_cases c33 : 0 ≤ x45_2
 rotate_left
 ·rw [if_neg c33] at H
  cases H
 rw [if_pos c33] at H
 have c33b0 := decide_eq_true c33
 clear c33
 by_cases c34 : x45_2 < (l1_2.length : Int)
 rotate_left
 ·rw [if_neg c34] at H
  cases H
 rw [if_pos c34] at H
 have c34b0 := decide_eq_true c34
 clear c34
 replace H := zi H
 obtain ⟨⟨t543, t544⟩, A350, H⟩ := H
 dsimp only at H
 have A35 := qA0.mk A350
 clear A350
 replace H := zi H
 obtain ⟨⟨t545, t546⟩, A360, H⟩ := H
 dsimp only at H
 have A36 := qA0.mk A360
 clear A360
 by_cases c37 : t543 ≥ a1_3
 rotate_left
 ·rw [if_neg c37] at H
  have c37b0 := decide_eq_false c37
  clear c37
  have H' := qA0.mk H
  clear H
  have p541 : 0 ≤ (x45_2 : Int) := zd
  have q541 : x45_2 < (l1_2.length : Int) := zd
  obtain ⟨ad541, A541_1, c541_1, A541_2, c541_2, e541, hx541_0, hx541_1, hx541_2, hl541_1, hi541_1, hl541_2, hi541_2⟩ := at_T56 HR1_2.out x45_2 p541 q541
  cases e541
  (try replace hx541_0 := zh hx541_0)
  replace hx541_1 := zh hx541_1
  replace hx541_2 := zh hx541_2
  have HR541_1 := qA0.mk hi541_1
  have HC541_1 := qA0.mk hl541_1
  clear hi541_1 hl541_1
  have HR541_2 := qA0.mk hi541_2
  have HC541_2 := qA0.mk hl541_2
  clear hi541_2 hl541_2
  replace p541 := eq_true p541
  replace q541 := eq_true q541
  go_wp2_with (first | ((with_reducible refine qA9 (N := 14) rfl ?_); refine boxZ 14 #[.string (⟨#[]⟩ : ByteArray), .slice none 0 0, .slice none 0 0] 56 ?_; intro gb542 hg w69 hbox hb; have n0_ := qA0.mk (Kd.qBN (by (with_reducible repeat refine sR ?_); exact HO_536001.out) hb); have n1_ := qA0.mk (Kd.qBN (by (with_reducible repeat refine sR ?_); exact HO_536002.out) hb); have n2_ := qA0.mk (qAL (zk BK531) hb); have n3_ := qA0.mk (qAL (zk BK532) hb); have n4_ := qA0.mk (qAL (zk BK535) hb); have n5_ := qA0.mk (qA2.below (by repeat (first | (with_reducible first | exact HI534.out | apply qA2.alloc | apply qA2.drewN | apply qA2.drew | apply qA2.qCY | refine qA2.far ?_ NB534_531.out _ | refine qA2.far ?_ NB534_532.out _ | refine qA2.far ?_ NB534_535.out _) | exact HI534.out)) hb); have n6_ := qA0.mk (qBZ (by repeat (first | (with_reducible first | exact HB.out | apply qAC | apply qA8 | apply qAF | refine qA7 ?_ (qA2.ge HI534.out) | refine qA7 ?_ GE531.out | refine qA7 ?_ GE532.out | refine qA7 ?_ GE535.out) | exact HB.out)) hb); have n7_ := qA0.mk (hbox); have n8_ := qA0.mk ((by rw [hg]; exact (qAI (by repeat (first | (with_reducible first | exact HB.out | apply qAC | apply qA8 | apply qAF | refine qA7 ?_ (qA2.ge HI534.out) | refine qA7 ?_ GE531.out | refine qA7 ?_ GE532.out | refine qA7 ?_ GE535.out) | exact HB.out))) : w.heap.size ≤ gb542)); have n9_ := qA0.mk ((by rw [hg]; exact (qAI (by repeat (first | (with_reducible first | exact HB.out | apply qAC | apply qA8 | apply qAF | refine qA7 ?_ (qA2.ge HI534.out) | refine qA7 ?_ GE531.out | refine qA7 ?_ GE532.out | refine qA7 ?_ GE535.out) | exact HB.out))) : w.heap.size ≤ gb542)); have n10_ := zl BK531 gb542; have n11_ := zu BK531 gb542; have n12_ := zl BK532 gb542; have n13_ := zu BK532 gb542; have n14_ := zl BK535 gb542; have n15_ := zu BK535 gb542; have n16_ := qA0.mk ((by rw [hg]; exact Nat.ne_of_lt (qA2.lt (show qA2 w _ g534 x535000_2 from by repeat (first | (with_reducible first | exact HI534.out | apply qA2.alloc | apply qA2.drewN | apply qA2.drew | apply qA2.qCY | refine qA2.far ?_ NB534_531.out _ | refine qA2.far ?_ NB534_532.out _ | refine qA2.far ?_ NB534_535.out _) | exact HI534.out))) : g534 ≠ gb542)); have n17_ := qA0.mk ((by rw [hg]; exact Nat.ne_of_gt (qA2.lt (show qA2 w _ g534 x535000_2 from by repeat (first | (with_reducible first | exact HI534.out | apply qA2.alloc | apply qA2.drewN | apply qA2.drew | apply qA2.qCY | refine qA2.far ?_ NB534_531.out _ | refine qA2.far ?_ NB534_532.out _ | refine qA2.far ?_ NB534_535.out _) | exact HI534.out))) : gb542 ≠ g534)); clear HO_536001; clear HO_536002; clear BK531; clear BK532; clear BK535; clear HI534; clear HB; have HO_536001 := n0_; have HO_536002 := n1_; have BK531 := n2_; have BK532 := n3_; have BK535 := n4_; have HI534 := n5_; have HB := n6_; have BK542 := n7_; have GW542 := n8_; have GE542 := n9_; have NB531_542 := n10_; have NB542_531 := n11_; have NB532_542 := n12_; have NB542_532 := n13_; have NB535_542 := n14_; have NB542_535 := n15_; have NB534_542 := n16_; have NB542_534 := n17_; clear n0_ n1_ n2_ n3_ n4_ n5_ n6_ n7_ n8_ n9_ n10_ n11_ n12_ n13_ n14_ n15_ n16_ n17_; clear hb hbox hg; have hnb70 := NB542_531.out; have hnc70 := NB531_542.out; have hnb71 := NB542_532.out; have hnc71 := NB532_542.out; have hnb72 := NB542_535.out; have hnc72 := NB535_542.out; have hnb73 := NB542_534.out; have hnc73 := NB534_542.out; obtain ⟨hcz74_0, hcz74_1, hcz74_2, hfz74_0, hfz74_1, hfz74_2⟩ := bc3 BK542.out) | ((with_reducible refine qA6 (f := 32) rfl ?_); refine qBP (some 50) Tryz.func32 #[.pointer (some ⟨g534, 0, none⟩), .int .i64 1000000] ?_; (with_reducible refine (qC7.calls g534 x535000_2 1000000 t543 t544 w _ ?side1 ?side2 A35.out).mono ?_); (case side1 => repeat (first | (with_reducible first | exact HI534.out | apply qA2.alloc | apply qA2.drewN | apply qA2.drew | apply qA2.qCY | refine qA2.far ?_ NB534_531.out _ | refine qA2.far ?_ NB534_532.out _ | refine qA2.far ?_ NB534_535.out _ | refine qA2.far ?_ NB534_542.out _) | exact HI534.out)); (case side2 => repeat (first | (with_reducible first | exact HB.out | apply qAC | apply qA8 | apply qAF | refine qA7 ?_ (qA2.ge HI534.out) | refine qA7 ?_ GE531.out | refine qA7 ?_ GE532.out | refine qA7 ?_ GE535.out | refine qA7 ?_ GE542.out) | exact HB.out)); rintro e w75 ⟨rfl, hi, hb, hk⟩; refine ⟨_, rfl, ?_⟩; replace HO_536001 := qA0.mk (Kd.qB7 (Kd.R_keep (qA2.apart (show qA2 w _ g534 x535000_2 from by repeat (first | (with_reducible first | exact HI534.out | apply qA2.alloc | apply qA2.drewN | apply qA2.drew | apply qA2.qCY | refine qA2.far ?_ NB534_531.out _ | refine qA2.far ?_ NB534_532.out _ | refine qA2.far ?_ NB534_535.out _ | refine qA2.far ?_ NB534_542.out _) | exact HI534.out)) (by (with_reducible repeat refine sR ?_); exact (zRf3 (Kd.qBG HO_536001.out BK542.out (by decide)))) (by decide)) hk (fun _ h => h.2)) (fun _ h => h.1)); replace HO_536002 := qA0.mk (Kd.qB7 (Kd.R_keep (qA2.apart (show qA2 w _ g534 x535000_2 from by repeat (first | (with_reducible first | exact HI534.out | apply qA2.alloc | apply qA2.drewN | apply qA2.drew | apply qA2.qCY | refine qA2.far ?_ NB534_531.out _ | refine qA2.far ?_ NB534_532.out _ | refine qA2.far ?_ NB534_535.out _ | refine qA2.far ?_ NB534_542.out _) | exact HI534.out)) (by (with_reducible repeat refine sR ?_); exact (zRf3 (Kd.qBG HO_536002.out BK542.out (by decide)))) (by decide)) hk (fun _ h => h.2)) (fun _ h => h.1)); replace BK531 := qA0.mk (qBC.blk hk (g' := gb531) (o := .cells #[.int .i64 a1_0, .slice A1_1 l1_1.length c1_1, .slice (some ad541) l1_2.length c1_2, .int .i64 a1_3] 27 (0, 0)) (by refine zf3 ?_ NB531_542; (with_reducible repeat refine st ?_); exact BK531.out) NB531_534.out (by simp)); replace BK532 := qA0.mk (qBC.blk hk (g' := gb532) (o := .cells #[.int .i64 0, .slice none 0 0, .slice none 0 0] 35 (0, 0)) (by refine zf3 ?_ NB532_542; (with_reducible repeat refine st ?_); exact BK532.out) NB532_534.out (by simp)); replace BK535 := qA0.mk (qBC.blk hk (g' := gb535) (o := .cells #[.int .i64 a1_0, .slice Ao27 y538.length co27, u536002] 35 (0, 0)) (by refine zf3 ?_ NB535_542; (with_reducible repeat refine st ?_); exact BK535.out) NB535_534.out (by simp)); replace BK542 := qA0.mk (qBC.blk hk (g' := gb542) (o := .cells #[.string ((qAH l1_2 x45_2).f0), .slice A541_1 ((qAH l1_2 x45_2).f1).length c541_1, .slice A541_2 ((qAH l1_2 x45_2).f2).length c541_2] 56 (0, 0)) (zp3 BK542) NB542_534.out (by simp)); replace HI534 := qA0.mk (hi); replace HB := qA0.mk (hb); (try clear hb hk); (try clear hb); obtain ⟨hcz76_0, hcz76_1, hcz76_2, hfz76_0, hfz76_1, hfz76_2⟩ := bc3 BK542.out) | ((with_reducible refine qA6 (f := 31) rfl ?_); refine qBP (some 54) Tryz.func31 #[.pointer (some ⟨g534, 0, none⟩), .slice A541_2 ((qAH l1_2 x45_2).f2).length c541_2] ?_; (with_reducible refine (qAA.calls k2 g534 t544 _ _ ((qAH l1_2 x45_2).f2) t545 t546 w _ ?side1 ?side2 ?side3 ?side4 ?side5 A36.out).mono ?_); (case side1 => repeat (first | (with_reducible first | exact HI534.out | apply qA2.alloc | apply qA2.drewN | apply qA2.drew | apply qA2.qCY | refine qA2.far ?_ NB534_531.out _ | refine qA2.far ?_ NB534_532.out _ | refine qA2.far ?_ NB534_535.out _ | refine qA2.far ?_ NB534_542.out _) | exact HI534.out)); (case side2 => repeat (first | (with_reducible first | exact HB.out | apply qAC | apply qA8 | apply qAF | refine qA7 ?_ (qA2.ge HI534.out) | refine qA7 ?_ GE531.out | refine qA7 ?_ GE532.out | refine qA7 ?_ GE535.out | refine qA7 ?_ GE542.out) | exact HB.out)); (case side3 => repeat (first | exact (Kd.qAE HR541_2.out HB.out) | refine sC ?_)); (case side4 => exact HC541_2.out); (case side5 => exact Kd.far_C 0 HR541_2.out (qA2.ge HI534.out)); rintro e w77 ⟨rfl, hi, hb, hk⟩; refine ⟨_, rfl, ?_⟩; replace HO_536001 := qA0.mk (Kd.qB7 (Kd.R_keep (qA2.apart (show qA2 w _ g534 t544 from by repeat (first | (with_reducible first | exact HI534.out | apply qA2.alloc | apply qA2.drewN | apply qA2.drew | apply qA2.qCY | refine qA2.far ?_ NB534_531.out _ | refine qA2.far ?_ NB534_532.out _ | refine qA2.far ?_ NB534_535.out _ | refine qA2.far ?_ NB534_542.out _) | exact HI534.out)) (by (with_reducible repeat refine sR ?_); exact HO_536001.out) (by decide)) hk (fun _ h => h.2)) (fun _ h => h.1)); replace HO_536002 := qA0.mk (Kd.qB7 (Kd.R_keep (qA2.apart (show qA2 w _ g534 t544 from by repeat (first | (with_reducible first | exact HI534.out | apply qA2.alloc | apply qA2.drewN | apply qA2.drew | apply qA2.qCY | refine qA2.far ?_ NB534_531.out _ | refine qA2.far ?_ NB534_532.out _ | refine qA2.far ?_ NB534_535.out _ | refine qA2.far ?_ NB534_542.out _) | exact HI534.out)) (by (with_reducible repeat refine sR ?_); exact HO_536002.out) (by decide)) hk (fun _ h => h.2)) (fun _ h => h.1)); replace BK531 := qA0.mk (qBC.blk hk (g' := gb531) (o := .cells #[.int .i64 a1_0, .slice A1_1 l1_1.length c1_1, .slice (some ad541) l1_2.length c1_2, .int .i64 a1_3] 27 (0, 0)) (zk BK531) NB531_534.out (by simp)); replace BK532 := qA0.mk (qBC.blk hk (g' := gb532) (o := .cells #[.int .i64 0, .slice none 0 0, .slice none 0 0] 35 (0, 0)) (zk BK532) NB532_534.out (by simp)); replace BK535 := qA0.mk (qBC.blk hk (g' := gb535) (o := .cells #[.int .i64 a1_0, .slice Ao27 y538.length co27, u536002] 35 (0, 0)) (zk BK535) NB535_534.out (by simp)); replace BK542 := qA0.mk (qBC.blk hk (g' := gb542) (o := .cells #[.string ((qAH l1_2 x45_2).f0), .slice A541_1 ((qAH l1_2 x45_2).f1).length c541_1, .slice A541_2 ((qAH l1_2 x45_2).f2).length c541_2] 56 (0, 0)) (zk BK542) NB542_534.out (by simp)); replace HI534 := qA0.mk (hi); replace HB := qA0.mk (hb); (try clear hb hk); (try clear hb); have hnb78 := NB531_532.out; have hnc78 := NB532_531.out; have hnb79 := NB531_535.out; have hnc79 := NB535_531.out; have hnb80 := NB531_534.out; have hnc80 := NB534_531.out; obtain ⟨hcz81_0, hcz81_1, hcz81_2, hcz81_3, hfz81_0, hfz81_1, hfz81_2, hfz81_3⟩ := bc4 BK531.out))
  go_roundg k2
  case measure => have := HK1.out; have := HK2.out; omega
  case rel => exact ⟨(wrap64 (x45_2 + 1)), (t546), (x536002_2), (u536002), zs, H', ⟨by have := HK1.out; have := HK2.out; omega⟩, zR HO_536001, zR HO_536002, ⟨zk BK531⟩, ⟨zk BK532⟩, ⟨zk BK535⟩, ⟨by repeat (first | (with_reducible first | exact HI534.out | apply qA2.alloc | apply qA2.drewN | apply qA2.drew | apply qA2.qCY | refine qA2.far ?_ NB534_531.out _ | refine qA2.far ?_ NB534_532.out _ | refine qA2.far ?_ NB534_535.out _ | refine qA2.far ?_ NB534_542.out _) | exact HI534.out)⟩, ⟨by repeat (first | (with_reducible first | exact HB.out | apply qAC | apply qA8 | apply qAF | refine qA7 ?_ (qA2.ge HI534.out) | refine qA7 ?_ GE531.out | refine qA7 ?_ GE532.out | refine qA7 ?_ GE535.out | refine qA7 ?_ GE542.out) | exact HB.out)⟩⟩
 rw [if_pos c37] at H
 have c37b0 := decide_eq_true c37
 clear c37
 replace H := zi H
 obtain ⟨⟨t547, t548, t549, t550, t551, t552, t553, t554⟩, A380, H⟩ := H
 dsimp only at H
 have A38 := qA0.mk A380
 clear A380
 by_cases c39 : 0 ≤ t545
 rotate_left
 ·rw [if_neg c39] at H
  cases H
 rw [if_pos c39] at H
 have c39b0 := decide_eq_true c39
 clear c39
 by_cases c40 : t545 < (((qAH l1_2 x45_2).f1).length : Int)
 rotate_left
 ·rw [if_neg c40] at H
  cases H
 rw [if_pos c40] at H
 have c40b0 := decide_eq_true c40
 clear c40
 by_cases c41 : x536002_2.length < 3518437208883
 rotate_left
 ·rw [if_neg c41] at H
  cases H
 rw [if_pos c41] at H
 have LMc41 := qA0.mk c41
 clear c41
 obtain ⟨y557, hy_⟩ : ∃ y_ : List (S86), y_ = (x536002_2 ++ [(⟨x12_1, (qAH l1_2 x45_2).f0, (⟨t548, rd ((qAH l1_2 x45_2).f1) t545⟩ : S58)⟩ : S86)]) := ⟨_, rfl⟩
 replace H : (qAP.l1 k2 l0 (wrap64 (t536 + 1)) x12_1 l1_2 (l1_2.length : Int) (wrap64 (x45_2 + 1)) a1_0 l1_1 l1_2 a1_3 t546 a1_0 y538 y557) = some (r1, r2, r3) := zr
 have Ny557 := qA0.mk hy_
 clear hy_
 have H' := qA0.mk H
 clear H
 have p541 : 0 ≤ (x45_2 : Int) := zd
 have q541 : x45_2 < (l1_2.length : Int) := zd
 obtain ⟨ad541, A541_1, c541_1, A541_2, c541_2, e541, hx541_0, hx541_1, hx541_2, hl541_1, hi541_1, hl541_2, hi541_2⟩ := at_T56 HR1_2.out x45_2 p541 q541
 cases e541
 (try replace hx541_0 := zh hx541_0)
 replace hx541_1 := zh hx541_1
 replace hx541_2 := zh hx541_2
 have HR541_1 := qA0.mk hi541_1
 have HC541_1 := qA0.mk hl541_1
 clear hi541_1 hl541_1
 have HR541_2 := qA0.mk hi541_2
 have HC541_2 := qA0.mk hl541_2
 clear hi541_2 hl541_2
 replace p541 := eq_true p541
 replace q541 := eq_true q541
 try go_wp2_with (first | ((with_reducible refine qA9 (N := 14) rfl ?_); refine boxZ 14 #[.string (⟨#[]⟩ : ByteArray), .slice none 0 0, .slice none 0 0] 56 ?_; intro gb542 hg w42 hbox hb; have n0_ := qA0.mk (Kd.qBN (by (with_reducible repeat refine sR ?_); exact HO_536001.out) hb); have n1_ := qA0.mk (Kd.qBN (by (with_reducible repeat refine sR ?_); exact HO_536002.out) hb); have n2_ := qA0.mk (qAL (zk BK531) hb); have n3_ := qA0.mk (qAL (zk BK532) hb); have n4_ := qA0.mk (qAL (zk BK535) hb); have n5_ := qA0.mk (qA2.below (by repeat (first | (with_reducible first | exact HI534.out | apply qA2.alloc | apply qA2.drewN | apply qA2.drew | apply qA2.qCY | refine qA2.far ?_ NB534_531.out _ | refine qA2.far ?_ NB534_532.out _ | refine qA2.far ?_ NB534_535.out _) | exact HI534.out)) hb); have n6_ := qA0.mk (qBZ (by repeat (first | (with_reducible first | exact HB.out | apply qAC | apply qA8 | apply qAF | refine qA7 ?_ (qA2.ge HI534.out) | refine qA7 ?_ GE531.out | refine qA7 ?_ GE532.out | refine qA7 ?_ GE535.out) | exact HB.out)) hb); have n7_ := qA0.mk (hbox); have n8_ := qA0.mk ((by rw [hg]; exact (qAI (by repeat (first | (with_reducible first | exact HB.out | apply qAC | apply qA8 | apply qAF | refine qA7 ?_ (qA2.ge HI534.out) | refine qA7 ?_ GE531.out | refine qA7 ?_ GE532.out | refine qA7 ?_ GE535.out) | exact HB.out))) : w.heap.size ≤ gb542)); have n9_ := qA0.mk ((by rw [hg]; exact (qAI (by repeat (first | (with_reducible first | exact HB.out | apply qAC | apply qA8 | apply qAF | refine qA7 ?_ (qA2.ge HI534.out) | refine qA7 ?_ GE531.out | refine qA7 ?_ GE532.out | refine qA7 ?_ GE535.out) | exact HB.out))) : w.heap.size ≤ gb542)); have n10_ := zl BK531 gb542; have n11_ := zu BK531 gb542; have n12_ := zl BK532 gb542; have n13_ := zu BK532 gb542; have n14_ := zl BK535 gb542; have n15_ := zu BK535 gb542; have n16_ := qA0.mk ((by rw [hg]; exact Nat.ne_of_lt (qA2.lt (show qA2 w _ g534 x535000_2 from by repeat (first | (with_reducible first | exact HI534.out | apply qA2.alloc | apply qA2.drewN | apply qA2.drew | apply qA2.qCY | refine qA2.far ?_ NB534_531.out _ | refine qA2.far ?_ NB534_532.out _ | refine qA2.far ?_ NB534_535.out _) | exact HI534.out))) : g534 ≠ gb542)); have n17_ := qA0.mk ((by rw [hg]; exact Nat.ne_of_gt (qA2.lt (show qA2 w _ g534 x535000_2 from by repeat (first | (with_reducible first | exact HI534.out | apply qA2.alloc | apply qA2.drewN | apply qA2.drew | apply qA2.qCY | refine qA2.far ?_ NB534_531.out _ | refine qA2.far ?_ NB534_532.out _ | refine qA2.far ?_ NB534_535.out _) | exact HI534.out))) : gb542 ≠ g534)); clear HO_536001; clear HO_536002; clear BK531; clear BK532; clear BK535; clear HI534; clear HB; have HO_536001 := n0_; have HO_536002 := n1_; have BK531 := n2_; have BK532 := n3_; have BK535 := n4_; have HI534 := n5_; have HB := n6_; have BK542 := n7_; have GW542 := n8_; have GE542 := n9_; have NB531_542 := n10_; have NB542_531 := n11_; have NB532_542 := n12_; have NB542_532 := n13_; have NB535_542 := n14_; have NB542_535 := n15_; have NB534_542 := n16_; have NB542_534 := n17_; clear n0_ n1_ n2_ n3_ n4_ n5_ n6_ n7_ n8_ n9_ n10_ n11_ n12_ n13_ n14_ n15_ n16_ n17_; clear hb hbox hg; have hnb43 := NB542_531.out; have hnc43 := NB531_542.out; have hnb44 := NB542_532.out; have hnc44 := NB532_542.out; have hnb45 := NB542_535.out; have hnc45 := NB535_542.out; have hnb46 := NB542_534.out; have hnc46 := NB534_542.out; obtain ⟨hcz47_0, hcz47_1, hcz47_2, hfz47_0, hfz47_1, hfz47_2⟩ := bc3 BK542.out) | ((with_reducible refine qA6 (f := 32) rfl ?_); refine qBP (some 50) Tryz.func32 #[.pointer (some ⟨g534, 0, none⟩), .int .i64 1000000] ?_; (with_reducible refine (qC7.calls g534 x535000_2 1000000 t543 t544 w _ ?side1 ?side2 A35.out).mono ?_); (case side1 => repeat (first | (with_reducible first | exact HI534.out | apply qA2.alloc | apply qA2.drewN | apply qA2.drew | apply qA2.qCY | refine qA2.far ?_ NB534_531.out _ | refine qA2.far ?_ NB534_532.out _ | refine qA2.far ?_ NB534_535.out _ | refine qA2.far ?_ NB534_542.out _) | exact HI534.out)); (case side2 => repeat (first | (with_reducible first | exact HB.out | apply qAC | apply qA8 | apply qAF | refine qA7 ?_ (qA2.ge HI534.out) | refine qA7 ?_ GE531.out | refine qA7 ?_ GE532.out | refine qA7 ?_ GE535.out | refine qA7 ?_ GE542.out) | exact HB.out)); rintro e w48 ⟨rfl, hi, hb, hk⟩; refine ⟨_, rfl, ?_⟩; replace HO_536001 := qA0.mk (Kd.qB7 (Kd.R_keep (qA2.apart (show qA2 w _ g534 x535000_2 from by repeat (first | (with_reducible first | exact HI534.out | apply qA2.alloc | apply qA2.drewN | apply qA2.drew | apply qA2.qCY | refine qA2.far ?_ NB534_531.out _ | refine qA2.far ?_ NB534_532.out _ | refine qA2.far ?_ NB534_535.out _ | refine qA2.far ?_ NB534_542.out _) | exact HI534.out)) (by (with_reducible repeat refine sR ?_); exact (zRf3 (Kd.qBG HO_536001.out BK542.out (by decide)))) (by decide)) hk (fun _ h => h.2)) (fun _ h => h.1)); replace HO_536002 := qA0.mk (Kd.qB7 (Kd.R_keep (qA2.apart (show qA2 w _ g534 x535000_2 from by repeat (first | (with_reducible first | exact HI534.out | apply qA2.alloc | apply qA2.drewN | apply qA2.drew | apply qA2.qCY | refine qA2.far ?_ NB534_531.out _ | refine qA2.far ?_ NB534_532.out _ | refine qA2.far ?_ NB534_535.out _ | refine qA2.far ?_ NB534_542.out _) | exact HI534.out)) (by (with_reducible repeat refine sR ?_); exact (zRf3 (Kd.qBG HO_536002.out BK542.out (by decide)))) (by decide)) hk (fun _ h => h.2)) (fun _ h => h.1)); replace BK531 := qA0.mk (qBC.blk hk (g' := gb531) (o := .cells #[.int .i64 a1_0, .slice A1_1 l1_1.length c1_1, .slice (some ad541) l1_2.length c1_2, .int .i64 a1_3] 27 (0, 0)) (by refine zf3 ?_ NB531_542; (with_reducible repeat refine st ?_); exact BK531.out) NB531_534.out (by simp)); replace BK532 := qA0.mk (qBC.blk hk (g' := gb532) (o := .cells #[.int .i64 0, .slice none 0 0, .slice none 0 0] 35 (0, 0)) (by refine zf3 ?_ NB532_542; (with_reducible repeat refine st ?_); exact BK532.out) NB532_534.out (by simp)); replace BK535 := qA0.mk (qBC.blk hk (g' := gb535) (o := .cells #[.int .i64 a1_0, .slice Ao27 y538.length co27, u536002] 35 (0, 0)) (by refine zf3 ?_ NB535_542; (with_reducible repeat refine st ?_); exact BK535.out) NB535_534.out (by simp)); replace BK542 := qA0.mk (qBC.blk hk (g' := gb542) (o := .cells #[.string ((qAH l1_2 x45_2).f0), .slice A541_1 ((qAH l1_2 x45_2).f1).length c541_1, .slice A541_2 ((qAH l1_2 x45_2).f2).length c541_2] 56 (0, 0)) (zp3 BK542) NB542_534.out (by simp)); replace HI534 := qA0.mk (hi); replace HB := qA0.mk (hb); (try clear hb hk); (try clear hb); obtain ⟨hcz49_0, hcz49_1, hcz49_2, hfz49_0, hfz49_1, hfz49_2⟩ := bc3 BK542.out) | ((with_reducible refine qA6 (f := 31) rfl ?_); refine qBP (some 54) Tryz.func31 #[.pointer (some ⟨g534, 0, none⟩), .slice A541_2 ((qAH l1_2 x45_2).f2).length c541_2] ?_; (with_reducible refine (qAA.calls k2 g534 t544 _ _ ((qAH l1_2 x45_2).f2) t545 t546 w _ ?side1 ?side2 ?side3 ?side4 ?side5 A36.out).mono ?_); (case side1 => repeat (first | (with_reducible first | exact HI534.out | apply qA2.alloc | apply qA2.drewN | apply qA2.drew | apply qA2.qCY | refine qA2.far ?_ NB534_531.out _ | refine qA2.far ?_ NB534_532.out _ | refine qA2.far ?_ NB534_535.out _ | refine qA2.far ?_ NB534_542.out _) | exact HI534.out)); (case side2 => repeat (first | (with_reducible first | exact HB.out | apply qAC | apply qA8 | apply qAF | refine qA7 ?_ (qA2.ge HI534.out) | refine qA7 ?_ GE531.out | refine qA7 ?_ GE532.out | refine qA7 ?_ GE535.out | refine qA7 ?_ GE542.out) | exact HB.out)); (case side3 => repeat (first | exact (Kd.qAE HR541_2.out HB.out) | refine sC ?_)); (case side4 => exact HC541_2.out); (case side5 => exact Kd.far_C 0 HR541_2.out (qA2.ge HI534.out)); rintro e w50 ⟨rfl, hi, hb, hk⟩; refine ⟨_, rfl, ?_⟩; replace HO_536001 := qA0.mk (Kd.qB7 (Kd.R_keep (qA2.apart (show qA2 w _ g534 t544 from by repeat (first | (with_reducible first | exact HI534.out | apply qA2.alloc | apply qA2.drewN | apply qA2.drew | apply qA2.qCY | refine qA2.far ?_ NB534_531.out _ | refine qA2.far ?_ NB534_532.out _ | refine qA2.far ?_ NB534_535.out _ | refine qA2.far ?_ NB534_542.out _) | exact HI534.out)) (by (with_reducible repeat refine sR ?_); exact HO_536001.out) (by decide)) hk (fun _ h => h.2)) (fun _ h => h.1)); replace HO_536002 := qA0.mk (Kd.qB7 (Kd.R_keep (qA2.apart (show qA2 w _ g534 t544 from by repeat (first | (with_reducible first | exact HI534.out | apply qA2.alloc | apply qA2.drewN | apply qA2.drew | apply qA2.qCY | refine qA2.far ?_ NB534_531.out _ | refine qA2.far ?_ NB534_532.out _ | refine qA2.far ?_ NB534_535.out _ | refine qA2.far ?_ NB534_542.out _) | exact HI534.out)) (by (with_reducible repeat refine sR ?_); exact HO_536002.out) (by decide)) hk (fun _ h => h.2)) (fun _ h => h.1)); replace BK531 := qA0.mk (qBC.blk hk (g' := gb531) (o := .cells #[.int .i64 a1_0, .slice A1_1 l1_1.length c1_1, .slice (some ad541) l1_2.length c1_2, .int .i64 a1_3] 27 (0, 0)) (zk BK531) NB531_534.out (by simp)); replace BK532 := qA0.mk (qBC.blk hk (g' := gb532) (o := .cells #[.int .i64 0, .slice none 0 0, .slice none 0 0] 35 (0, 0)) (zk BK532) NB532_534.out (by simp)); replace BK535 := qA0.mk (qBC.blk hk (g' := gb535) (o := .cells #[.int .i64 a1_0, .slice Ao27 y538.length co27, u536002] 35 (0, 0)) (zk BK535) NB535_534.out (by simp)); replace BK542 := qA0.mk (qBC.blk hk (g' := gb542) (o := .cells #[.string ((qAH l1_2 x45_2).f0), .slice A541_1 ((qAH l1_2 x45_2).f1).length c541_1, .slice A541_2 ((qAH l1_2 x45_2).f2).length c541_2] 56 (0, 0)) (zk BK542) NB542_534.out (by simp)); replace HI534 := qA0.mk (hi); replace HB := qA0.mk (hb); (try clear hb hk); (try clear hb); have hnb51 := NB531_532.out; have hnc51 := NB532_531.out; have hnb52 := NB531_535.out; have hnc52 := NB535_531.out; have hnb53 := NB531_534.out; have hnc53 := NB534_531.out; obtain ⟨hcz54_0, hcz54_1, hcz54_2, hcz54_3, hfz54_0, hfz54_1, hfz54_2, hfz54_3⟩ := bc4 BK531.out; obtain ⟨hcz55_0, hcz55_1, hcz55_2, hfz55_0, hfz55_1, hfz55_2⟩ := bc3 BK542.out) | ((with_reducible refine qA6 (f := 27) rfl ?_); refine qBP (some 63) Tryz.func27 #[.slice A0 l0.length c0, .string ((qAH l1_2 x45_2).f0)] ?_; (with_reducible refine (qBA.calls k2 _ _ l0 ((qAH l1_2 x45_2).f0) t547 t548 t549 t550 t551 t552 t553 t554 _ ?side1 ?side2 A38.out).mono ?_); (case side1 => repeat (first | exact (Kd.qAE HR0.out HB.out) | refine sC ?_)); (case side2 => exact HC0.out); rintro e w56 ⟨rfl, hb⟩; refine ⟨_, rfl, ?_⟩; have n0_ := qA0.mk (Kd.qBN (by (with_reducible repeat refine sR ?_); exact HO_536001.out) hb); have n1_ := qA0.mk (Kd.qBN (by (with_reducible repeat refine sR ?_); exact HO_536002.out) hb); have n2_ := qA0.mk (qAL (zk BK531) hb); have n3_ := qA0.mk (qAL (zk BK532) hb); have n4_ := qA0.mk (qAL (zk BK535) hb); have n5_ := qA0.mk (qA2.below (by repeat (first | (with_reducible first | exact HI534.out | apply qA2.alloc | apply qA2.drewN | apply qA2.drew | apply qA2.qCY | refine qA2.far ?_ NB534_531.out _ | refine qA2.far ?_ NB534_532.out _ | refine qA2.far ?_ NB534_535.out _ | refine qA2.far ?_ NB534_542.out _) | exact HI534.out)) hb); have n6_ := qA0.mk (qAL (zk BK542) hb); have n7_ := qA0.mk (qBZ (by repeat (first | (with_reducible first | exact HB.out | apply qAC | apply qA8 | apply qAF | refine qA7 ?_ (qA2.ge HI534.out) | refine qA7 ?_ GE531.out | refine qA7 ?_ GE532.out | refine qA7 ?_ GE535.out | refine qA7 ?_ GE542.out) | exact HB.out)) hb); clear HO_536001; clear HO_536002; clear BK531; clear BK532; clear BK535; clear HI534; clear BK542; clear HB; have HO_536001 := n0_; have HO_536002 := n1_; have BK531 := n2_; have BK532 := n3_; have BK535 := n4_; have HI534 := n5_; have BK542 := n6_; have HB := n7_; clear n0_ n1_ n2_ n3_ n4_ n5_ n6_ n7_; (try clear hb hk); (try clear hb)) | ((with_reducible refine qA9 (N := 17) rfl ?_); refine boxZ 17 #[.string (⟨#[]⟩ : ByteArray), .int .i64 0, .bool false, .int .i64 0, .int .i64 0, .int .i64 0, .int .i64 0] 60 ?_; intro gb555 hg w57 hbox hb; have n0_ := qA0.mk (Kd.qBN (by (with_reducible repeat refine sR ?_); exact HO_536001.out) hb); have n1_ := qA0.mk (Kd.qBN (by (with_reducible repeat refine sR ?_); exact HO_536002.out) hb); have n2_ := qA0.mk (qAL (zk BK531) hb); have n3_ := qA0.mk (qAL (zk BK532) hb); have n4_ := qA0.mk (qAL (zk BK535) hb); have n5_ := qA0.mk (qA2.below (by repeat (first | (with_reducible first | exact HI534.out | apply qA2.alloc | apply qA2.drewN | apply qA2.drew | apply qA2.qCY | refine qA2.far ?_ NB534_531.out _ | refine qA2.far ?_ NB534_532.out _ | refine qA2.far ?_ NB534_535.out _ | refine qA2.far ?_ NB534_542.out _) | exact HI534.out)) hb); have n6_ := qA0.mk (qAL (zk BK542) hb); have n7_ := qA0.mk (qBZ (by repeat (first | (with_reducible first | exact HB.out | apply qAC | apply qA8 | apply qAF | refine qA7 ?_ (qA2.ge HI534.out) | refine qA7 ?_ GE531.out | refine qA7 ?_ GE532.out | refine qA7 ?_ GE535.out | refine qA7 ?_ GE542.out) | exact HB.out)) hb); have n8_ := qA0.mk (hbox); have n9_ := qA0.mk ((by rw [hg]; exact (qAI (by repeat (first | (with_reducible first | exact HB.out | apply qAC | apply qA8 | apply qAF | refine qA7 ?_ (qA2.ge HI534.out) | refine qA7 ?_ GE531.out | refine qA7 ?_ GE532.out | refine qA7 ?_ GE535.out | refine qA7 ?_ GE542.out) | exact HB.out))) : w.heap.size ≤ gb555)); have n10_ := qA0.mk ((by rw [hg]; exact (qAI (by repeat (first | (with_reducible first | exact HB.out | apply qAC | apply qA8 | apply qAF | refine qA7 ?_ (qA2.ge HI534.out) | refine qA7 ?_ GE531.out | refine qA7 ?_ GE532.out | refine qA7 ?_ GE535.out | refine qA7 ?_ GE542.out) | exact HB.out))) : w.heap.size ≤ gb555)); have n11_ := zl BK531 gb555; have n12_ := zu BK531 gb555; have n13_ := zl BK532 gb555; have n14_ := zu BK532 gb555; have n15_ := zl BK535 gb555; have n16_ := zu BK535 gb555; have n17_ := zl BK542 gb555; have n18_ := zu BK542 gb555; have n19_ := qA0.mk ((by rw [hg]; exact Nat.ne_of_lt (qA2.lt (show qA2 w _ g534 t546 from by repeat (first | (with_reducible first | exact HI534.out | apply qA2.alloc | apply qA2.drewN | apply qA2.drew | apply qA2.qCY | refine qA2.far ?_ NB534_531.out _ | refine qA2.far ?_ NB534_532.out _ | refine qA2.far ?_ NB534_535.out _ | refine qA2.far ?_ NB534_542.out _) | exact HI534.out))) : g534 ≠ gb555)); have n20_ := qA0.mk ((by rw [hg]; exact Nat.ne_of_gt (qA2.lt (show qA2 w _ g534 t546 from by repeat (first | (with_reducible first | exact HI534.out | apply qA2.alloc | apply qA2.drewN | apply qA2.drew | apply qA2.qCY | refine qA2.far ?_ NB534_531.out _ | refine qA2.far ?_ NB534_532.out _ | refine qA2.far ?_ NB534_535.out _ | refine qA2.far ?_ NB534_542.out _) | exact HI534.out))) : gb555 ≠ g534)); clear HO_536001; clear HO_536002; clear BK531; clear BK532; clear BK535; clear HI534; clear BK542; clear HB; have HO_536001 := n0_; have HO_536002 := n1_; have BK531 := n2_; have BK532 := n3_; have BK535 := n4_; have HI534 := n5_; have BK542 := n6_; have HB := n7_; have BK555 := n8_; have GW555 := n9_; have GE555 := n10_; have NB531_555 := n11_; have NB555_531 := n12_; have NB532_555 := n13_; have NB555_532 := n14_; have NB535_555 := n15_; have NB555_535 := n16_; have NB542_555 := n17_; have NB555_542 := n18_; have NB534_555 := n19_; have NB555_534 := n20_; clear n0_ n1_ n2_ n3_ n4_ n5_ n6_ n7_ n8_ n9_ n10_ n11_ n12_ n13_ n14_ n15_ n16_ n17_ n18_ n19_ n20_; clear hb hbox hg; have hnb58 := NB555_531.out; have hnc58 := NB531_555.out; have hnb59 := NB555_532.out; have hnc59 := NB532_555.out; have hnb60 := NB555_535.out; have hnc60 := NB535_555.out; have hnb61 := NB555_542.out; have hnc61 := NB542_555.out; have hnb62 := NB555_534.out; have hnc62 := NB534_555.out; obtain ⟨hcz63_0, hcz63_1, hcz63_2, hcz63_3, hcz63_4, hcz63_5, hcz63_6, hfz63_0, hfz63_1, hfz63_2, hfz63_3, hfz63_4, hfz63_5, hfz63_6⟩ := bc7 BK555.out))
 have n0_ : qA0 (Kd.R k83 83 (((((((w57.setCell ⟨gb555, 0, none⟩ (.string t547)).setCell ⟨gb555, 1, none⟩ (.int .i64 t548)).setCell ⟨gb555, 2, none⟩ (.bool t549)).setCell ⟨gb555, 3, none⟩ (.int .i64 t550)).setCell ⟨gb555, 4, none⟩ (.int .i64 t551)).setCell ⟨gb555, 5, none⟩ (.int .i64 t552)).setCell ⟨gb555, 6, none⟩ (.int .i64 t553)) w.heap.size (fun _ => True) (.slice Ao27 y538.length co27) y538) := ⟨by (with_reducible repeat refine sR ?_); exact Kd.qB7 (Kd.qAW (Kd.qAW (Kd.qAW (Kd.qAW (Kd.qAW (Kd.qAW (Kd.qAW (Kd.qBG HO_536001.out BK555.out (by decide)) (fun _ hk => hk.2) _) (fun _ hk => hk.2) _) (fun _ hk => hk.2) _) (fun _ hk => hk.2) _) (fun _ hk => hk.2) _) (fun _ hk => hk.2) _) (fun _ hk => hk.2) _) (fun _ hk => trivial)⟩
 have n1_ : qA0 (Kd.R k86 86 (((((((w57.setCell ⟨gb555, 0, none⟩ (.string t547)).setCell ⟨gb555, 1, none⟩ (.int .i64 t548)).setCell ⟨gb555, 2, none⟩ (.bool t549)).setCell ⟨gb555, 3, none⟩ (.int .i64 t550)).setCell ⟨gb555, 4, none⟩ (.int .i64 t551)).setCell ⟨gb555, 5, none⟩ (.int .i64 t552)).setCell ⟨gb555, 6, none⟩ (.int .i64 t553)) w.heap.size (fun _ => True) u536002 x536002_2) := ⟨by (with_reducible repeat refine sR ?_); exact Kd.qB7 (Kd.qAW (Kd.qAW (Kd.qAW (Kd.qAW (Kd.qAW (Kd.qAW (Kd.qAW (Kd.qBG HO_536002.out BK555.out (by decide)) (fun _ hk => hk.2) _) (fun _ hk => hk.2) _) (fun _ hk => hk.2) _) (fun _ hk => hk.2) _) (fun _ hk => hk.2) _) (fun _ hk => hk.2) _) (fun _ hk => hk.2) _) (fun _ hk => trivial)⟩
 have n2_ : qA0 ((((((((w57.setCell ⟨gb555, 0, none⟩ (.string t547)).setCell ⟨gb555, 1, none⟩ (.int .i64 t548)).setCell ⟨gb555, 2, none⟩ (.bool t549)).setCell ⟨gb555, 3, none⟩ (.int .i64 t550)).setCell ⟨gb555, 4, none⟩ (.int .i64 t551)).setCell ⟨gb555, 5, none⟩ (.int .i64 t552)).setCell ⟨gb555, 6, none⟩ (.int .i64 t553)).heap[gb531]? = some (.cells #[.int .i64 a1_0, .slice A1_1 l1_1.length c1_1, .slice (some ad541) l1_2.length c1_2, .int .i64 a1_3] 27 (0, 0))) := ⟨by refine zf7 ?_ NB531_555; (with_reducible repeat refine st ?_); exact BK531.out⟩
 have n3_ : qA0 ((((((((w57.setCell ⟨gb555, 0, none⟩ (.string t547)).setCell ⟨gb555, 1, none⟩ (.int .i64 t548)).setCell ⟨gb555, 2, none⟩ (.bool t549)).setCell ⟨gb555, 3, none⟩ (.int .i64 t550)).setCell ⟨gb555, 4, none⟩ (.int .i64 t551)).setCell ⟨gb555, 5, none⟩ (.int .i64 t552)).setCell ⟨gb555, 6, none⟩ (.int .i64 t553)).heap[gb532]? = some (.cells #[.int .i64 0, .slice none 0 0, .slice none 0 0] 35 (0, 0))) := ⟨by refine zf7 ?_ NB532_555; (with_reducible repeat refine st ?_); exact BK532.out⟩
 have n4_ : qA0 ((((((((w57.setCell ⟨gb555, 0, none⟩ (.string t547)).setCell ⟨gb555, 1, none⟩ (.int .i64 t548)).setCell ⟨gb555, 2, none⟩ (.bool t549)).setCell ⟨gb555, 3, none⟩ (.int .i64 t550)).setCell ⟨gb555, 4, none⟩ (.int .i64 t551)).setCell ⟨gb555, 5, none⟩ (.int .i64 t552)).setCell ⟨gb555, 6, none⟩ (.int .i64 t553)).heap[gb535]? = some (.cells #[.int .i64 a1_0, .slice Ao27 y538.length co27, u536002] 35 (0, 0))) := ⟨by refine zf7 ?_ NB535_555; (with_reducible repeat refine st ?_); exact BK535.out⟩
 have n5_ : qA0 ((((((((w57.setCell ⟨gb555, 0, none⟩ (.string t547)).setCell ⟨gb555, 1, none⟩ (.int .i64 t548)).setCell ⟨gb555, 2, none⟩ (.bool t549)).setCell ⟨gb555, 3, none⟩ (.int .i64 t550)).setCell ⟨gb555, 4, none⟩ (.int .i64 t551)).setCell ⟨gb555, 5, none⟩ (.int .i64 t552)).setCell ⟨gb555, 6, none⟩ (.int .i64 t553)).heap[gb542]? = some (.cells #[.string ((qAH l1_2 x45_2).f0), .slice A541_1 ((qAH l1_2 x45_2).f1).length c541_1, .slice A541_2 ((qAH l1_2 x45_2).f2).length c541_2] 56 (0, 0))) := ⟨by refine zf7 ?_ NB542_555; (with_reducible repeat refine st ?_); exact BK542.out⟩
 have n6_ : qA0 ((((((((w57.setCell ⟨gb555, 0, none⟩ (.string t547)).setCell ⟨gb555, 1, none⟩ (.int .i64 t548)).setCell ⟨gb555, 2, none⟩ (.bool t549)).setCell ⟨gb555, 3, none⟩ (.int .i64 t550)).setCell ⟨gb555, 4, none⟩ (.int .i64 t551)).setCell ⟨gb555, 5, none⟩ (.int .i64 t552)).setCell ⟨gb555, 6, none⟩ (.int .i64 t553)).heap[gb555]? = some (.cells #[.string t547, .int .i64 t548, .bool t549, .int .i64 t550, .int .i64 t551, .int .i64 t552, .int .i64 t553] 60 (0, 0))) := ⟨zp7 BK555⟩
 have n7_ : qA0 (qA2 w (((((((w57.setCell ⟨gb555, 0, none⟩ (.string t547)).setCell ⟨gb555, 1, none⟩ (.int .i64 t548)).setCell ⟨gb555, 2, none⟩ (.bool t549)).setCell ⟨gb555, 3, none⟩ (.int .i64 t550)).setCell ⟨gb555, 4, none⟩ (.int .i64 t551)).setCell ⟨gb555, 5, none⟩ (.int .i64 t552)).setCell ⟨gb555, 6, none⟩ (.int .i64 t553)) g534 t546) := ⟨by repeat (first | (with_reducible first | exact HI534.out | apply qA2.alloc | apply qA2.drewN | apply qA2.drew | apply qA2.qCY | refine qA2.far ?_ NB534_531.out _ | refine qA2.far ?_ NB534_532.out _ | refine qA2.far ?_ NB534_535.out _ | refine qA2.far ?_ NB534_542.out _ | refine qA2.far ?_ NB534_555.out _) | exact HI534.out)⟩
 have n8_ : qA0 (Below w.heap.size w (((((((w57.setCell ⟨gb555, 0, none⟩ (.string t547)).setCell ⟨gb555, 1, none⟩ (.int .i64 t548)).setCell ⟨gb555, 2, none⟩ (.bool t549)).setCell ⟨gb555, 3, none⟩ (.int .i64 t550)).setCell ⟨gb555, 4, none⟩ (.int .i64 t551)).setCell ⟨gb555, 5, none⟩ (.int .i64 t552)).setCell ⟨gb555, 6, none⟩ (.int .i64 t553))) := ⟨by repeat (first | (with_reducible first | exact HB.out | apply qAC | apply qA8 | apply qAF | refine qA7 ?_ (qA2.ge HI534.out) | refine qA7 ?_ GE531.out | refine qA7 ?_ GE532.out | refine qA7 ?_ GE535.out | refine qA7 ?_ GE542.out | refine qA7 ?_ GE555.out) | exact HB.out)⟩
 (try clear HO_536001)
 (try clear HO_536002)
 (try clear BK531)
 (try clear BK532)
 (try clear BK535)
 (try clear BK542)
 (try clear BK555)
 (try clear HI534)
 (try clear HB)
 generalize (((((((w57.setCell ⟨gb555, 0, none⟩ (.string t547)).setCell ⟨gb555, 1, none⟩ (.int .i64 t548)).setCell ⟨gb555, 2, none⟩ (.bool t549)).setCell ⟨gb555, 3, none⟩ (.int .i64 t550)).setCell ⟨gb555, 4, none⟩ (.int .i64 t551)).setCell ⟨gb555, 5, none⟩ (.int .i64 t552)).setCell ⟨gb555, 6, none⟩ (.int .i64 t553)) = w64 at n0_ n1_ n2_ n3_ n4_ n5_ n6_ n7_ n8_ ⊢
 have HO_536001 := n0_
 have HO_536002 := n1_
 have BK531 := n2_
 have BK532 := n3_
 have BK535 := n4_
 have BK542 := n5_
 have BK555 := n6_
 have HI534 := n7_
 have HB := n8_
 clear n0_ n1_ n2_ n3_ n4_ n5_ n6_ n7_ n8_
 replace HO_536001 := qA0.mk (Kd.qEY HO_536001.out)
 replace HO_536002 := qA0.mk (Kd.qEY HO_536002.out)
 replace BK531 := qA0.mk (qB2 BK531.out)
 replace BK532 := qA0.mk (qB2 BK532.out)
 replace BK535 := qA0.mk (qB2 BK535.out)
 replace BK542 := qA0.mk (qB2 BK542.out)
 replace BK555 := qA0.mk (qB2 BK555.out)
 replace HI534 := qA0.mk (qA2.drew HI534.out)
 replace HB := qA0.mk (qAF HB.out)
 have p556 : 0 ≤ (t545 : Int) := zd
 have q556 : t545 < (((qAH l1_2 x45_2).f1).length : Int) := zd
 obtain ⟨ad556, e556, hx556_0⟩ := Kd.qC2 HR541_1.out t545 p556 q556
 have hw556_0 := hx556_0
 cases e556
 (try replace hx556_0 := zh hx556_0)
 replace p556 := eq_true p556
 replace q556 := eq_true q556
 refine qEA (n := 18) (S := fun w' => w'.cell? ⟨gb535, 0, none⟩ = some (.int .i64 a1_0) ∧ w'.cell? ⟨gb535, 1, none⟩ = some (.slice Ao27 y538.length co27) ∧ w'.cell? ⟨gb535, 2, none⟩ = some (u536002) ∧ w'.cell? ⟨gb542, 0, none⟩ = some (.string ((qAH l1_2 x45_2).f0)) ∧ w'.cell? ⟨gb542, 1, none⟩ = some (.slice (some ad556) ((qAH l1_2 x45_2).f1).length c541_1) ∧ w'.cell? ⟨gb542, 2, none⟩ = some (.slice A541_2 ((qAH l1_2 x45_2).f2).length c541_2) ∧ w'.cell? ⟨gb555, 0, none⟩ = some (.string t547) ∧ w'.cell? ⟨gb555, 1, none⟩ = some (.int .i64 t548) ∧ w'.cell? ⟨gb555, 2, none⟩ = some (.bool t549) ∧ w'.cell? ⟨gb555, 3, none⟩ = some (.int .i64 t550) ∧ w'.cell? ⟨gb555, 4, none⟩ = some (.int .i64 t551) ∧ w'.cell? ⟨gb555, 5, none⟩ = some (.int .i64 t552) ∧ w'.cell? ⟨gb555, 6, none⟩ = some (.int .i64 t553) ∧ w'.cell? (ad556.add (t545).toNat) = some (.int .i64 (rd ((qAH l1_2 x45_2).f1) t545))) (ds := [17]) (bs 18 0) (by kernel_rfl) rfl rfl ⟨(qA1 BK535.out 0).trans rfl, (qA1 BK535.out 1).trans rfl, (qA1 BK535.out 2).trans rfl, (qA1 BK542.out 0).trans rfl, (qA1 BK542.out 1).trans rfl, (qA1 BK542.out 2).trans rfl, (qA1 BK555.out 0).trans rfl, (qA1 BK555.out 1).trans rfl, (qA1 BK555.out 2).trans rfl, (qA1 BK555.out 3).trans rfl, (qA1 BK555.out 4).trans rfl, (qA1 BK555.out 5).trans rfl, (qA1 BK555.out 6).trans rfl, (zh hw556_0)⟩ (fun hHeld => ?_); refine qCS qAP.tab15 qAP.bits15 (fun HT_ HW_ => ?_)
 generalize w64.drew = w65 at HO_536001 HO_536002 BK531 BK532 BK535 BK542 BK555 HI534 HB hx556_0 hHeld ⊢
 refine qBF (i := 0) (N := some 66) (bs 18 1) ?_
 refine qBF (i := 2) (N := some 68) (bs 18 5) ?_
 refine qBF (i := 3) (N := some 69) (bs 18 13) ?_
 refine qBF (i := 5) (N := some 71) (bs 18 45) ?_
 refine qBF (i := 7) (N := some 73) (bs 18 173) ?_
 refine qBF (i := 9) (N := some 75) (bs 18 685) ?_
 refine qDT (i := 1) (N := some 67) (bs 18 687) ?_
 refine qDT (i := 4) (N := some 70) (bs 18 703) ?_
 refine qDT (i := 6) (N := some 72) (bs 18 767) ?_
 refine qDT (i := 8) (N := some 74) (bs 18 1023) ?_
 refine qBF (i := 10) (N := some 76) (bs 18 2047) ?_
 refine qDT (i := 11) (N := some 77) (bs 18 4095) ?_
 refine qBF (i := 12) (N := some 78) (bs 18 8191) ?_
 refine qBF (i := 13) (N := some 79) (bs 18 16383) ?_
 refine one_ (i := 14) (N := some 80) (bs 18 32767) rfl rfl (qCR HT_.out (by kernel_rfl)) (by decide) (fun K hK => ?_)
 refine value_ (w1 := ?_) (v := ?_) (by rfl) rfl ?_ ?_
 rotate_left 2
 ·go_simp
  constructor
  ·rfl
  ·rfl
 refine hK.out _ _ ⟨(qA1 (qB8 BK535.out _) 0).trans rfl, (qA1 (qB8 BK535.out _) 1).trans rfl, (qA1 (qB8 BK535.out _) 2).trans rfl, (qA1 (qB8 BK542.out _) 0).trans rfl, (qA1 (qB8 BK542.out _) 1).trans rfl, (qA1 (qB8 BK542.out _) 2).trans rfl, (qA1 (qB8 BK555.out _) 0).trans rfl, (qA1 (qB8 BK555.out _) 1).trans rfl, (qA1 (qB8 BK555.out _) 2).trans rfl, (qA1 (qB8 BK555.out _) 3).trans rfl, (qA1 (qB8 BK555.out _) 4).trans rfl, (qA1 (qB8 BK555.out _) 5).trans rfl, (qA1 (qB8 BK555.out _) 6).trans rfl, (World.cell?_alloc_lt _ _ _ (World.block_lt_of_cell? _ _ ((zh hw556_0)))).trans ((zh hw556_0))⟩ (fun hHeld => ?_)
 clear hK K
 refine qEB ?_
 refine one_ (i := 15) (N := some 81) (bs 18 65535) rfl rfl (qCR HT_.out (by kernel_rfl)) (by decide) (fun K hK => ?_)
 refine Kd.R_append_step k86 (w0 := w) w.heap.size (by rfl) (.tmp 67) (.tmp 80) 33 86 (.agg #[(.int .i64 0), (.string ⟨#[]⟩), (.int .i64 0), (.int .i64 0)]) 40 rfl Tryz.underlying33 info86 rfl (by decide) (by omega) u536002 x536002_2 (⟨x12_1, (qAH l1_2 x45_2).f0, (⟨t548, rd ((qAH l1_2 x45_2).f1) t545⟩ : S58)⟩ : S86) [.int .i64 x12_1, .string ((qAH l1_2 x45_2).f0), .int .i64 t548, .int .i64 (rd ((qAH l1_2 x45_2).f1) t545)] (fun _ => True) (fun _ => False) rfl rfl ?aP (fun _ hk => hk.elim) ?aF ?aO ?aB ?aS ?aL ?_
 (case aP => exact k86_mkM _ _ _ (⟨x12_1, (qAH l1_2 x45_2).f0, (⟨t548, rd ((qAH l1_2 x45_2).f1) t545⟩ : S58)⟩ : S86))
 (case aB => exact (by repeat (first | (with_reducible first | exact HB.out | apply qAC | apply qA8 | apply qAF | refine qA7 ?_ (qA2.ge HI534.out) | refine qA7 ?_ GE531.out | refine qA7 ?_ GE532.out | refine qA7 ?_ GE535.out | refine qA7 ?_ GE542.out | refine qA7 ?_ GE555.out) | exact HB.out)))
 (case aF => exact (fun _ _ => trivial))
 (case aO => exact (by (with_reducible repeat refine sR ?_); exact HO_536002.out))
 (case aS => exact (qAI (by repeat (first | (with_reducible first | exact HB.out | apply qAC | apply qA8 | apply qAF | refine qA7 ?_ (qA2.ge HI534.out) | refine qA7 ?_ GE531.out | refine qA7 ?_ GE532.out | refine qA7 ?_ GE535.out | refine qA7 ?_ GE542.out | refine qA7 ?_ GE555.out) | exact HB.out))))
 (case aL => have := LMc41.out; omega)
 intro v558 w66 ho hb hg hat
 rw [← Ny557.out] at ho
 have HO559 := qA0.mk (ho)
 replace HO_536001 := qA0.mk (Kd.R_over' (by (with_reducible repeat refine sR ?_); exact HO_536001.out) (Kd.qFE (by (with_reducible repeat refine sR ?_); exact HO_536002.out)) (by decide) hg)
 replace BK531 := qA0.mk (qAO (g := gb531) (o := .cells #[.int .i64 a1_0, .slice A1_1 l1_1.length c1_1, .slice (some ad541) l1_2.length c1_2, .int .i64 a1_3] 27 (0, 0)) (zk BK531) hg (Kd.R_ne HO_536002.out BK531.out (by decide)))
 replace BK532 := qA0.mk (qAO (g := gb532) (o := .cells #[.int .i64 0, .slice none 0 0, .slice none 0 0] 35 (0, 0)) (zk BK532) hg (Kd.R_ne HO_536002.out BK532.out (by decide)))
 replace BK535 := qA0.mk (qAO (g := gb535) (o := .cells #[.int .i64 a1_0, .slice Ao27 y538.length co27, u536002] 35 (0, 0)) (zk BK535) hg (Kd.R_ne HO_536002.out BK535.out (by decide)))
 replace HI534 := qA0.mk (qA2.grown (by repeat (first | (with_reducible first | exact HI534.out | apply qA2.alloc | apply qA2.drewN | apply qA2.drew | apply qA2.qCY | refine qA2.far ?_ NB534_531.out _ | refine qA2.far ?_ NB534_532.out _ | refine qA2.far ?_ NB534_535.out _ | refine qA2.far ?_ NB534_542.out _ | refine qA2.far ?_ NB534_555.out _) | exact HI534.out)) hg (qA2.own_ne HI534.out HO_536002.out (by decide)))
 replace BK542 := qA0.mk (qAO (g := gb542) (o := .cells #[.string ((qAH l1_2 x45_2).f0), .slice (some ad556) ((qAH l1_2 x45_2).f1).length c541_1, .slice A541_2 ((qAH l1_2 x45_2).f2).length c541_2] 56 (0, 0)) (zk BK542) hg (Kd.R_ne HO_536002.out BK542.out (by decide)))
 replace BK555 := qA0.mk (qAO (g := gb555) (o := .cells #[.string t547, .int .i64 t548, .bool t549, .int .i64 t550, .int .i64 t551, .int .i64 t552, .int .i64 t553] 60 (0, 0)) (zk BK555) hg (Kd.R_ne HO_536002.out BK555.out (by decide)))
 replace HB := qA0.mk (hb)
 clear HO_536002
 clear ho hb hg hat
 obtain ⟨Ao67, co67, eo67⟩ := Kd.qBV HO559.out
 (first | subst eo67 | (injection eo67 with f1_ f2_ f3_; have f4_ := f1_.symm; have f5_ := f3_.symm; clear f1_ f2_ f3_; subst f4_; subst f5_))
 refine hK.out _ _ ⟨(qA1 BK535.out 0).trans rfl, (qA1 BK535.out 1).trans rfl, (qA1 BK535.out 2).trans rfl, (qA1 BK542.out 0).trans rfl, (qA1 BK542.out 1).trans rfl, (qA1 BK542.out 2).trans rfl, (qA1 BK555.out 0).trans rfl, (qA1 BK555.out 1).trans rfl, (qA1 BK555.out 2).trans rfl, (qA1 BK555.out 3).trans rfl, (qA1 BK555.out 4).trans rfl, (qA1 BK555.out 5).trans rfl, (qA1 BK555.out 6).trans rfl, (zh hw556_0)⟩ (fun hHeld => ?_)
 clear hK K
 refine qEB ?_
 refine qBF (i := 16) (N := some 82) (bs 18 131071) ?_
 refine last_ (i := 17) (N := none) (bs 18 262143) rfl rfl (qCR HT_.out (by kernel_rfl)) (by decide) (fun K hK => ?_)
 have hs68 : w66.cell? ⟨gb535, 2, none⟩ = some (u536002) := (qA1 BK535.out 2).trans rfl
 have hfs68 := qB1 BK535.out 2
 have hns68_0 := NB531_535.out
 have hns68_1 := NB532_535.out
 have hns68_3 := NB542_535.out
 have hns68_4 := NB555_535.out
 have hms68_0 := NB535_531.out
 have hms68_1 := NB535_532.out
 have hms68_3 := NB535_542.out
 have hms68_4 := NB535_555.out
 refine skip_ (w1 := ?_) (by rfl) rfl ?_ ?_
 rotate_left
 ·go_simp
  rfl
 refine hK.out _ _ ?_
 clear hK K
 refine qF9 (qDX HT_.out (by kernel_rfl)) ?_
 try go_wp2
 go_roundg k2
 case measure => have := HK1.out; have := HK2.out; omega
 case rel => exact ⟨(wrap64 (x45_2 + 1)), (t546), (y557), (.slice Ao67 y557.length co67), zs, H', ⟨by have := HK1.out; have := HK2.out; omega⟩, ⟨by (with_reducible repeat refine sR ?_); exact Kd.qB7 (Kd.qAW (Kd.qBG HO_536001.out BK535.out (by decide)) (fun _ hk => hk.2) _) (fun _ hk => trivial)⟩, ⟨by (with_reducible repeat refine sR ?_); exact Kd.qB7 (Kd.qAW (Kd.qBG HO559.out BK535.out (by decide)) (fun _ hk => hk.2) _) (fun _ hk => trivial)⟩, ⟨by refine zf_ ?_ NB531_535; (with_reducible repeat refine st ?_); exact BK531.out⟩, ⟨by refine zf_ ?_ NB532_535; (with_reducible repeat refine st ?_); exact BK532.out⟩, ⟨by refine zp_ (cs := #[.int .i64 a1_0, .slice Ao27 y538.length co27, u536002]) ?_ 2; (with_reducible repeat refine st ?_); exact BK535.out⟩, ⟨by repeat (first | (with_reducible first | exact HI534.out | apply qA2.alloc | apply qA2.drewN | apply qA2.drew | apply qA2.qCY | refine qA2.far ?_ NB534_531.out _ | refine qA2.far ?_ NB534_532.out _ | refine qA2.far ?_ NB534_535.out _ | refine qA2.far ?_ NB534_542.out _ | refine qA2.far ?_ NB534_555.out _) | exact HI534.out)⟩, ⟨by repeat (first | (with_reducible first | exact HB.out | apply qAC | apply qA8 | apply qAF | refine qA7 ?_ (qA2.ge HI534.out) | refine qA7 ?_ GE531.out | refine qA7 ?_ GE532.out | refine qA7 ?_ GE535.out | refine qA7 ?_ GE542.out | refine qA7 ?_ GE555.out) | exact HB.out)⟩⟩
def qD1.l0 : Nat → List (S83) → List (S83) → Int → Int → Option (Bool)
 | 0, _, _, _, _ => none
 | k + 1, x0, x1, x12, x13 => if x13 < x12 then (if 0 ≤ x13 then (if x13 < (x0.length : Int) then (if x13 < (x1.length : Int) then (if (!(((qEG x0 x13).f0) == ((qEG x1 x13).f0)) || (!(((qEG x0 x13).f1) == ((qEG x1 x13).f1)))) = true then (some false) else (qD1.l0 k x0 x1 x12 (wrap64 (x13 + 1)))) else (none)) else (none)) else (none)) else (some true)
def qD1.f (k : Nat) (l0 : List (S83)) (l1 : List (S83)) : Option (Bool) := if (l0.length : Int) = (l1.length : Int) then (qD1.l0 k l0 l1 (l0.length : Int) 0) else (some false)
theorem qD1.calls (k : Nat) (A0 : Option Addr) (c0 : Nat) (l0 : List (S83)) (A1 : Option Addr) (c1 : Nat) (l1 : List (S83)) (r : Bool) (w : World) (hr0 : Kd.C k83 w A0 l0.length l0) (hc0 : l0.length ≤ c0) (hr1 : Kd.C k83 w A1 l1.length l1) (hc1 : l1.length ≤ c1) (h : qD1.f k l0 l1 = some r) :
  Calls Tryz.prog 33 #[.slice A0 l0.length c0, .slice A1 l1.length c1] w fun e w' => e = .returned (.bool r) ∧ qAX w w' := by
 have hu83 := Tryz.underlying83
 have HR0 := qA0.mk hr0
 have HC0 := qA0.mk hc0
 clear hr0 hc0
 have HR1 := qA0.mk hr1
 have HC1 := qA0.mk hc1
 clear hr1 hc1
 have H := h
 unfold qD1.f at H
 clear h
 by_cases c3 : (l0.length : Int) = (l1.length : Int)
 rotate_left
 ·rw [if_neg c3] at H
  have ⟨c3b0, c3b1⟩ := zn c3
  have c3b2 : (l0.length == l1.length) = false := by first | simpa using c3 | (simp at c3 ⊢; omega)
  obtain rfl := Option.some.inj H
  go_enter Tryz.func33, Tryz.ntmps33
  go_wp2
  go_ret
  exact ⟨zs, zD⟩
 rw [if_pos c3] at H
 have ⟨c3b0, c3b1⟩ := ze c3
 have c3b2 : (l0.length == l1.length) = true := by first | simpa using c3 | (simp at c3 ⊢; omega)
 clear c3
 have H' := qA0.mk H
 clear H
 go_enter Tryz.func33, Tryz.ntmps33
 go_wp2
 go_loopg [13] k (fun kq v13 w' => ∃ (x13_1 : Int), v13 = .int .i64 x13_1 ∧ qA0 (qD1.l0 kq l0 l1 (l0.length : Int) x13_1 = some r) ∧ qA0 (kq ≤ k) ∧ qAX w w')
 case atStart => exact ⟨(0), zs, H', ⟨Nat.le_refl _⟩, by repeat (first | exact qAX.refl _ | apply qAX.step)⟩
 clear H' c3b0 c3b1 c3b2
 obtain ⟨x13_1, rfl, HA, HK1, ⟨m1, rfl⟩⟩ := hrel
 obtain _ | k1 := gk
 ·exact absurd HA.out (by simp [qD1.l0])
 have H := HA.out
 clear HA
 simp only [qD1.l0] at H
 by_cases c4 : x13_1 < (l0.length : Int)
 rotate_left
 ·rw [if_neg c4] at H
  have c4b0 := decide_eq_false c4
  clear c4
  obtain rfl := Option.some.inj H
  go_wp2
  go_ret
  exact ⟨zs, zD⟩
 rw [if_pos c4] at H
 have c4b0 := decide_eq_true c4
 clear c4
 by_cases c5 : 0 ≤ x13_1
 rotate_left
 ·rw [if_neg c5] at H
  cases H
 rw [if_pos c5] at H
 have c5b0 := decide_eq_true c5
 clear c5
 by_cases c6 : x13_1 < (l0.length : Int)
 rotate_left
 ·rw [if_neg c6] at H
  cases H
 rw [if_pos c6] at H
 have c6b0 := decide_eq_true c6
 clear c6
 by_cases c7 : x13_1 < (l1.length : Int)
 rotate_left
 ·rw [if_neg c7] at H
  cases H
 rw [if_pos c7] at H
 have c7b0 := decide_eq_true c7
 clear c7
 by_cases c8 : (!(((qEG l0 x13_1).f0) == ((qEG l1 x13_1).f0)) || (!(((qEG l0 x13_1).f1) == ((qEG l1 x13_1).f1)))) = true
 ·rw [if_pos c8] at H
  have c8b0 : (!(((qEG l0 x13_1).f0) == ((qEG l1 x13_1).f0)) || (!(((qEG l0 x13_1).f1) == ((qEG l1 x13_1).f1)))) = true := c8
  clear c8
  obtain rfl := Option.some.inj H
  have p560 : 0 ≤ (x13_1 : Int) := zd
  have q560 : x13_1 < (l0.length : Int) := zd
  obtain ⟨ad560, e560, hx560_0, hx560_1⟩ := at_T83 HR0.out x13_1 p560 q560
  cases e560
  replace p560 := eq_true p560
  replace q560 := eq_true q560
  have p561 : 0 ≤ (x13_1 : Int) := zd
  have q561 : x13_1 < (l1.length : Int) := zd
  obtain ⟨ad561, e561, hx561_0, hx561_1⟩ := at_T83 HR1.out x13_1 p561 q561
  cases e561
  replace p561 := eq_true p561
  replace q561 := eq_true q561
  go_wp2
  repeat (go_quiet (fail); try go_wp2)
  go_ret
  exact ⟨zs, zD⟩
 rw [if_neg c8] at H
 have c8b0 : (!(((qEG l0 x13_1).f0) == ((qEG l1 x13_1).f0)) || (!(((qEG l0 x13_1).f1) == ((qEG l1 x13_1).f1)))) = false := by simpa using c8
 clear c8
 have H' := qA0.mk H
 clear H
 have p560 : 0 ≤ (x13_1 : Int) := zd
 have q560 : x13_1 < (l0.length : Int) := zd
 obtain ⟨ad560, e560, hx560_0, hx560_1⟩ := at_T83 HR0.out x13_1 p560 q560
 cases e560
 replace p560 := eq_true p560
 replace q560 := eq_true q560
 have p561 : 0 ≤ (x13_1 : Int) := zd
 have q561 : x13_1 < (l1.length : Int) := zd
 obtain ⟨ad561, e561, hx561_0, hx561_1⟩ := at_T83 HR1.out x13_1 p561 q561
 cases e561
 replace p561 := eq_true p561
 replace q561 := eq_true q561
 go_wp2
 repeat (go_quiet (fail); try go_wp2)
 go_roundg k1
 case measure => have := HK1.out; omega
 case rel => exact ⟨(wrap64 (x13_1 + 1)), zs, H', ⟨by have := HK1.out; omega⟩, by repeat (first | exact qAX.refl _ | apply qAX.step)⟩
end
end Go.Proofs.YtpafpefealopoaaGreat.PPopMakes
end
