/- Chapter 53: parts of the sorted values, and the law's own reckoning of them, agree. -/
import Derived.Test.YtihmanjgkjenbaaPGroupPartsx3
import Derived.Lib.Mul64
import Derived.OpenShut
import Derived.Laws.Bits64b
namespace Go.Proofs.Ytihmanjgkjenbaa.Pure
open Go.RowKit Go.Proofs.Ytihmanjgkjenbaa.PGroupParts Go.Proofs.YtihmanjgkjenbaaW.PrintWords Go.Proofs.YtihmanjgkjenbaaW.PrintLast Go.Proofs.YtihmanjgkjenbaaW.PrintMore
theorem w64 {x : Int} (h0 : -9223372036854775808 ≤ x) (h1 : x < 9223372036854775808) : wrap64 x = x := by unfold wrap64; omega
theorem rd_at (pre : List Int) (y : Int) (suf : List Int) : rd (pre ++ y :: suf) (pre.length : Int) = y := by simp [rd]
theorem len_next (pre : List Int) (y : Int) : ((pre ++ [y]).length : Int) = (pre.length : Int) + 1 := by simp

/-- What the checks of values tell of values that are not too many. -/
def fl : List Int → Int
  | [] => 0
  | y :: ys => if y < -1099511627776 then 1 else if y > 1099511627776 then 1 else fl ys
theorem fl_cons (y : Int) (ys : List Int) : fl (y :: ys) = if y < -1099511627776 then 1 else if y > 1099511627776 then 1 else fl ys := rfl
theorem fl_ok : ∀ {l : List Int}, fl l = 0 → ∀ x ∈ l, -1099511627776 ≤ x ∧ x ≤ 1099511627776
  | [], _, x, hx => by cases hx
  | y :: ys, h, x, hx => by
    rw [fl_cons] at h
    by_cases c : y < -1099511627776
    · rw [if_pos c] at h; omega
    · rw [if_neg c] at h
      by_cases d : y > 1099511627776
      · rw [if_pos d] at h; omega
      · rw [if_neg d] at h
        rcases List.mem_cons.1 hx with e | hx
        · omega
        · exact fl_ok h x hx
theorem fl_cases : ∀ (l : List Int), fl l = 0 ∨ fl l = 1
  | [] => .inl rfl
  | y :: ys => by rw [fl_cons]; split; exact .inr rfl; split; exact .inr rfl; exact fl_cases ys

theorem check_l0 (suf : List Int) : ∀ pre : List Int, pre.length + suf.length ≤ 1000 → Ev (fun k => group_Check.l0 k (pre ++ suf) ((pre ++ suf).length : Int) (pre.length : Int)) (fl suf) := by
  induction suf with
  | nil =>
    intro pre hl
    refine ⟨1, fun k hk => ?_⟩
    obtain ⟨k, rfl⟩ : ∃ m, k = m + 1 := ⟨k - 1, by omega⟩
    simp only [group_Check.l0]
    rw [if_neg (by simp)]
    rfl
  | cons y ys ih =>
    intro pre hl
    have hl' : pre.length + (ys.length + 1) ≤ 1000 := hl
    have hlt : (pre.length : Int) < ((pre ++ y :: ys).length : Int) := by simp; omega
    rw [fl_cons]
    by_cases c : y < -1099511627776
    · refine ⟨1, fun k hk => ?_⟩
      obtain ⟨k, rfl⟩ : ∃ m, k = m + 1 := ⟨k - 1, by omega⟩
      simp only [group_Check.l0, rd_at]
      rw [if_pos hlt, if_pos (by omega), if_pos hlt, if_pos c, if_pos c]
    · by_cases d : y > 1099511627776
      · refine ⟨1, fun k hk => ?_⟩
        obtain ⟨k, rfl⟩ : ∃ m, k = m + 1 := ⟨k - 1, by omega⟩
        simp only [group_Check.l0, rd_at]
        rw [if_pos hlt, if_pos (by omega), if_pos hlt, if_neg c, if_pos d, if_neg c, if_pos d]
      · rw [if_neg c, if_neg d]
        refine Ev.step (fun k => ?_) (ih (pre ++ [y]) (by simp; omega))
        simp only [group_Check.l0, rd_at]
        rw [if_pos hlt, if_pos (by omega), if_pos hlt, if_neg c, if_neg d, w64 (by omega) (by omega), len_next]
        simp
theorem check_small (l : List Int) (h : l.length ≤ 1000) : Ev (fun k => group_Check.f k l) (fl l) := by
  refine Ev.congr (fun k => ?_) (check_l0 l [] (by simpa using h))
  unfold group_Check.f
  rw [if_neg (by omega)]
  rfl
theorem check_large (l : List Int) (h : ¬ l.length ≤ 1000) : Ev (fun k => group_Check.f k l) 2 := by
  refine Ev.congr (fun k => ?_) (Ev.now 2)
  unfold group_Check.f
  rw [if_pos (by omega)]

theorem sorted_eq : ∀ (a b : List Int), a.Pairwise (fun x y => x ≤ y) → b.Pairwise (fun x y => x ≤ y) → a.Perm b → a = b
  | [], b, _, _, h => by rw [List.nil_perm.1 h]
  | x :: xs, [], _, _, h => by have := h.length_eq; simp at this
  | x :: xs, y :: ys, ha, hb, h => by
    have h1 := List.pairwise_cons.1 ha
    have h2 := List.pairwise_cons.1 hb
    have hx : x ∈ y :: ys := h.mem_iff.1 (by simp)
    have hy : y ∈ x :: xs := h.mem_iff.2 (by simp)
    have e : x = y := by
      rcases List.mem_cons.1 hx with e | hx
      · exact e
      · rcases List.mem_cons.1 hy with e | hy
        · exact e.symm
        · have := h1.1 y hy
          have := h2.1 x hx
          omega
    subst e
    rw [sorted_eq xs ys h1.2 h2.2 (List.perm_cons x |>.1 h)]
theorem sort_perm (l : List Int) : (sortInts.s l).Perm l := List.mergeSort_perm l _
theorem sort_sorted (l : List Int) : (sortInts.s l).Pairwise (fun x y => x ≤ y) := by
  have := List.pairwise_mergeSort (le := fun (x y : Int) => decide (x ≤ y)) (by intro a b c; simp; omega) (by intro a b; simp; omega) l
  exact this.imp (by simp)
theorem sort_len (l : List Int) : (sortInts.s l).length = l.length := (sort_perm l).length_eq
theorem sort_is (l m : List Int) (h : m.Pairwise (fun x y => x ≤ y)) (hp : m.Perm l) : sortInts.s l = m := sorted_eq _ _ (sort_sorted l) h ((sort_perm l).trans hp.symm)
theorem seq_small (l : List Int) (h : l.length ≤ 1000) : sortedSeq.f l = some (sortInts.s l) := by
  unfold sortedSeq.f
  rw [if_pos (by omega)]

theorem fault_l0 (suf : List Int) : ∀ pre : List Int, pre.length + suf.length ≤ 1000 → Ev (fun k => mootlaw5_listFault.l0 k (pre ++ suf) ((pre ++ suf).length : Int) (pre.length : Int)) (fl suf) := by
  induction suf with
  | nil =>
    intro pre hl
    refine ⟨1, fun k hk => ?_⟩
    obtain ⟨k, rfl⟩ : ∃ m, k = m + 1 := ⟨k - 1, by omega⟩
    simp only [mootlaw5_listFault.l0]
    rw [if_neg (by simp)]
    rfl
  | cons y ys ih =>
    intro pre hl
    have hl' : pre.length + (ys.length + 1) ≤ 1000 := hl
    have hlt : (pre.length : Int) < ((pre ++ y :: ys).length : Int) := by simp; omega
    rw [fl_cons]
    by_cases d : y > 1099511627776
    · refine ⟨1, fun k hk => ?_⟩
      obtain ⟨k, rfl⟩ : ∃ m, k = m + 1 := ⟨k - 1, by omega⟩
      simp only [mootlaw5_listFault.l0, rd_at]
      rw [if_pos hlt, if_pos (by omega), if_pos hlt, if_pos d, if_neg (by omega), if_pos d]
    · by_cases c : y < -1099511627776
      · refine ⟨1, fun k hk => ?_⟩
        obtain ⟨k, rfl⟩ : ∃ m, k = m + 1 := ⟨k - 1, by omega⟩
        simp only [mootlaw5_listFault.l0, rd_at]
        rw [if_pos hlt, if_pos (by omega), if_pos hlt, if_neg d, if_pos c, if_pos c]
      · rw [if_neg c, if_neg d]
        refine Ev.step (fun k => ?_) (ih (pre ++ [y]) (by simp; omega))
        simp only [mootlaw5_listFault.l0, rd_at]
        rw [if_pos hlt, if_pos (by omega), if_pos hlt, if_neg d, if_neg c, w64 (by omega) (by omega), len_next]
        simp
theorem fault_small (l : List Int) (h : l.length ≤ 1000) : Ev (fun k => mootlaw5_listFault.f k l) (fl l) := by
  refine Ev.congr (fun k => ?_) (fault_l0 l [] (by simpa using h))
  unfold mootlaw5_listFault.f
  rw [if_neg (by omega)]
  rfl
theorem fault_large (l : List Int) (h : ¬ l.length ≤ 1000) : Ev (fun k => mootlaw5_listFault.f k l) 2 := by
  refine Ev.congr (fun k => ?_) (Ev.now 2)
  unfold mootlaw5_listFault.f
  rw [if_pos (by omega)]

theorem shared_true : Ev (fun k => mootlaw5_shared.f k) true := by
  have hs : sortInts.s [5, 1, 3, 9] = [1, 3, 5, 9] := sort_is _ _ (by simp) (by decide)
  have c := check_small [5, 1, 3, 9] (by simp)
  rw [show fl [5, 1, 3, 9] = 0 from by decide] at c
  have p : Ev (fun k => group_Part.f k [5, 1, 3, 9] 1 2) (3, 0) := by
    unfold group_Part.f
    refine Ev.bind c ?_
    refine Ev.congr (f := fun k => group_Part.j0 k [5, 1, 3, 9] 1 2 false) (fun k => ?_) ?_
    · rw [if_pos rfl, if_neg (by decide), if_neg (by decide), if_neg (by decide)]
      rfl
    · refine ⟨1, fun k hk => ?_⟩
      obtain ⟨k, rfl⟩ : ∃ m, k = m + 1 := ⟨k - 1, by omega⟩
      simp only [group_Part.j0, seq_small [5, 1, 3, 9] (by simp), hs]
      have e : wrap64 (wrap64 ((wrap64 (wrap64 (wrap64 (1 * (([1, 3, 5, 9] : List Int).length : Int)) + 2) - 1)).tdiv 2) - 1) = 1 := by decide +kernel
      rw [if_neg (by decide), if_neg (by decide)]
      show (if (2 : Int) = 0 then none else if 0 ≤ wrap64 (wrap64 ((wrap64 (wrap64 (wrap64 (1 * (([1, 3, 5, 9] : List Int).length : Int)) + 2) - 1)).tdiv 2) - 1) then _ else _) = _
      rw [if_neg (by decide), e]
      rfl
  unfold mootlaw5_shared.f
  refine Ev.bind p ?_
  exact Ev.now true

theorem equal_l0 (suf : List Int) : ∀ pre : List Int, (pre ++ suf).length ≤ 1000000 → Ev (fun k => slices_Equal_int_int.l0 k (pre ++ suf) (pre ++ suf) ((pre ++ suf).length : Int) (pre.length : Int)) true := by
  induction suf with
  | nil =>
    intro pre hl
    refine Ev.step (fun k => ?_) (Ev.now true)
    simp only [slices_Equal_int_int.l0]
    rw [if_neg (by simp)]
  | cons y ys ih =>
    intro pre hl
    have hl' : pre.length + (ys.length + 1) ≤ 1000000 := by simpa using hl
    have hlt : (pre.length : Int) < ((pre ++ y :: ys).length : Int) := by simp; omega
    refine Ev.step (fun k => ?_) (ih (pre ++ [y]) (by simpa using hl))
    simp only [slices_Equal_int_int.l0, rd_at]
    rw [if_pos hlt, if_pos (by omega), if_pos hlt, if_pos hlt, if_pos trivial, w64 (by omega) (by omega), len_next]
    simp
theorem equal_same (l : List Int) (h : l.length ≤ 1000000) : Ev (fun k => slices_Equal_int_int.f k l l) true := by
  refine Ev.congr (fun k => ?_) (equal_l0 l [] (by simpa using h))
  unfold slices_Equal_int_int.f
  rw [if_pos rfl]
  rfl

/-! parts -/
def wsum : Int → List Int → Int
  | a, [] => a
  | a, y :: ys => wsum (wrap64 (a + y)) ys
/-- Where part i begins, and its size. -/
def pa (N n i : Nat) : Nat := i * (N / n) + min i (N % n)
def ps (N n i : Nat) : Nat := N / n + if i < N % n then 1 else 0
theorem pa_next (N n i : Nat) : pa N n (i + 1) = pa N n i + ps N n i := by
  unfold pa ps
  rw [Nat.add_mul, Nat.one_mul]
  generalize i * (N / n) = a
  generalize N / n = q
  generalize N % n = r
  by_cases c : i < r
  · rw [if_pos c]; omega
  · rw [if_neg c]; omega
theorem pa_le (N n i : Nat) (h : i ≤ n) : pa N n i ≤ N := by
  unfold pa
  have h1 : i * (N / n) ≤ n * (N / n) := Nat.mul_le_mul_right _ h
  have h2 := Nat.div_add_mod N n
  omega
theorem pa_rest (N n i : Nat) (h : i < n) : N - pa N n i = (n - i) * (N / n) + (N % n - min i (N % n)) := by
  have h2 := Nat.div_add_mod N n
  have h3 : (n - i) * (N / n) = n * (N / n) - i * (N / n) := Nat.sub_mul _ _ _
  have h1 : i * (N / n) ≤ n * (N / n) := Nat.mul_le_mul_right _ (by omega)
  unfold pa
  omega
theorem ps_key (d q t : Nat) (h : t < d) : (d * q + t) / d + (if (d * q + t) % d > 0 then 1 else 0) = q + (if t > 0 then 1 else 0) := by
  rw [Nat.mul_add_div (by omega), Nat.mul_add_mod, Nat.div_eq_of_lt h, Nat.mod_eq_of_lt h, Nat.add_zero]
theorem ps_is (N n i : Nat) (h : i < n) : (N - pa N n i) / (n - i) + (if (N - pa N n i) % (n - i) > 0 then 1 else 0) = ps N n i := by
  have hr : N % n < n := Nat.mod_lt _ (by omega)
  rw [pa_rest N n i h, ps_key _ _ _ (by omega)]
  unfold ps
  by_cases c : i < N % n
  · rw [if_pos c, if_pos (by omega)]
  · rw [if_neg c, if_neg (by omega)]
/-- The sums of m parts from part i on. -/
def sg (s : List Int) (n : Nat) : Nat → Nat → List Int
  | _, 0 => []
  | i, m + 1 => wsum 0 ((s.drop (pa s.length n i)).take (ps s.length n i)) :: sg s n (i + 1) m
theorem sg_len (s : List Int) (n : Nat) : ∀ m i, (sg s n i m).length = m
  | 0, _ => rfl
  | m + 1, i => by simp [sg, sg_len s n m (i + 1)]
theorem set_at (pre : List Int) (y z : Int) (suf : List Int) : (pre ++ y :: suf).set (pre.length : Int).toNat z = pre ++ z :: suf := by simp
theorem parts_l1 (n x10 x30 : Int) (x7 dn zs : List Int) (r : List Int × Int) (h0 : 0 ≤ x10) (h1 : x10 ≤ (x7.length : Int)) (hd : dn.length ≤ 2000) (q2 : List Int) : ∀ (q1 : List Int) (acc : Int), (q1 ++ q2).length ≤ 2000 →
    Ev (fun k => group_Parts.l0 k n (x7.drop x10.toNat) (dn ++ wsum acc q2 :: zs) x30 (wrap64 ((dn.length : Int) + 1))) r →
    Ev (fun k => group_Parts.l1 k n x7 (dn ++ acc :: zs) (dn.length : Int) x10 x30 (dn.length : Int) (q1 ++ q2) ((q1 ++ q2).length : Int) (q1.length : Int)) r := by
  induction q2 with
  | nil =>
    intro q1 acc hl h
    refine Ev.step (fun k => ?_) h
    simp only [group_Parts.l1, wsum]
    rw [if_neg (by simp), if_pos h0, if_pos h1]
  | cons y ys ih =>
    intro q1 acc hl h
    have hl' : q1.length + (ys.length + 1) ≤ 2000 := by simpa using hl
    have hlt : (q1.length : Int) < ((q1 ++ y :: ys).length : Int) := by simp; omega
    have hlt2 : (dn.length : Int) < ((dn ++ acc :: zs).length : Int) := by simp; omega
    refine Ev.step (fun k => ?_) (ih (q1 ++ [y]) (wrap64 (acc + y)) (by simpa using hl) h)
    simp only [group_Parts.l1, rd_at, set_at]
    rw [if_pos hlt, if_pos (by omega), if_pos hlt, if_pos (by omega), if_pos hlt2, w64 (x := (q1.length : Int) + 1) (by omega) (by omega), len_next]
    simp
theorem parts_l0 (s : List Int) (n : Nat) (hn : n ≤ 1000) (hs : s.length ≤ 1000) (m : Nat) : ∀ (dn : List Int), dn.length + m = n →
    Ev (fun k => group_Parts.l0 k (n : Int) (s.drop (pa s.length n dn.length)) (dn ++ List.replicate m 0) (n : Int) (dn.length : Int)) (dn ++ sg s n dn.length m, 0) := by
  induction m with
  | zero =>
    intro dn h
    refine Ev.step (fun k => ?_) (Ev.now _)
    simp only [group_Parts.l0, sg]
    rw [if_neg (by omega)]
    simp
  | succ m ih =>
    intro dn h
    have hlt : (dn.length : Int) < (n : Int) := by omega
    have h2 := pa_next s.length n dn.length
    have h3 := pa_le s.length n (dn.length + 1) (by omega)
    have h4 := ps_is s.length n dn.length (by omega)
    have h5 : (s.drop (pa s.length n dn.length)).length = s.length - pa s.length n dn.length := by simp
    generalize hR : s.length - pa s.length n dn.length = R at h4 h5
    have e : wrap64 ((n : Int) - (dn.length : Int)) = ((n - dn.length : Nat) : Int) := by rw [w64 (by omega) (by omega)]; omega
    have hq : R / (n - dn.length) ≤ R := Nat.div_le_self _ _
    have i := ih (dn ++ [wsum 0 ((s.drop (pa s.length n dn.length)).take (ps s.length n dn.length))]) (by simp; omega)
    have i1 := parts_l1 (n : Int) ((ps s.length n dn.length : Nat) : Int) (n : Int) (s.drop (pa s.length n dn.length)) dn (List.replicate m 0) (dn ++ sg s n dn.length (m + 1), 0) (by omega) (by omega) (by omega)
      ((s.drop (pa s.length n dn.length)).take (ps s.length n dn.length)) [] 0 (by simp; omega) (by
        rw [w64 (by omega) (by omega), Int.toNat_natCast, List.drop_drop, ← h2]
        simpa [sg] using i)
    refine Ev.step (fun k => ?_) (Ev.step (fun k => ?_) i1) (f := fun k => group_Parts.j2 k (n : Int) (s.drop (pa s.length n dn.length)) (dn ++ List.replicate (m + 1) 0) (dn.length : Int) ((ps s.length n dn.length : Nat) : Int) (n : Int) (dn.length : Int))
    · simp only [group_Parts.l0]
      rw [if_pos hlt, e, if_neg (by omega), h5, ← Int.natCast_ediv, ← Int.natCast_emod]
      by_cases c : R % (n - dn.length) > 0
      · rw [if_pos c] at h4
        rw [if_pos (by omega), w64 (x := ((R / (n - dn.length) : Nat) : Int)) (by omega) (by omega), w64 (by omega) (by omega), show ((R / (n - dn.length) : Nat) : Int) + 1 = ((ps s.length n dn.length : Nat) : Int) from by omega]
      · rw [if_neg c] at h4
        rw [if_neg (by omega), w64 (by omega) (by omega), show ((R / (n - dn.length) : Nat) : Int) = ((ps s.length n dn.length : Nat) : Int) from by omega]
    · simp only [group_Parts.j2]
      rw [if_pos (by omega), if_pos (by omega), Int.toNat_natCast]
      rfl
theorem parts_small (l : List Int) (n : Nat) (hl : l.length ≤ 1000) (hf : fl l = 0) (h1 : 1 ≤ n) (h2 : n ≤ 1000) : Ev (fun k => group_Parts.f k l (n : Int)) (sg (sortInts.s l) n 0 n, 0) := by
  have c := check_small l hl
  rw [hf] at c
  have hs := sort_len l
  have h0 := parts_l0 (sortInts.s l) n h2 (by omega) n [] (by simp)
  have e0 : pa (sortInts.s l).length n 0 = 0 := by unfold pa; omega
  simp only [List.length_nil, e0, List.drop_zero, List.nil_append] at h0
  unfold group_Parts.f
  refine Ev.bind c ?_
  refine Ev.congr (f := fun k => group_Parts.j0 k l (n : Int) false) (fun k => ?_) (Ev.step (fun k => ?_) h0)
  · rw [if_pos rfl, if_neg (by omega), show decide ((n : Int) > 1000) = false from by simp; omega]
  · simp only [group_Parts.j0]
    rw [if_neg (by decide), seq_small l hl]
    show (if _ then _ else _) = _
    rw [if_pos (by omega), Int.toNat_natCast]
    show group_Parts.l0 _ _ _ _ _ _ = _
    rw [List.length_replicate]
    rfl
theorem parts_out (l : List Int) (n : Int) (hl : l.length ≤ 1000) (hf : fl l = 0) (h : n < 1 ∨ 1000 < n) : Ev (fun k => group_Parts.f k l n) ([], 1) := by
  have c := check_small l hl
  rw [hf] at c
  unfold group_Parts.f
  refine Ev.bind c ?_
  refine Ev.congr (f := fun k => group_Parts.j0 k l n true) (fun k => ?_) (Ev.step (fun k => ?_) (Ev.now _))
  · rw [if_pos rfl]
    by_cases d : n < 1
    · rw [if_pos d]
    · rw [if_neg d, show decide (n > 1000) = true from by simp; omega]
  · simp only [group_Parts.j0]
    rw [if_pos trivial]
theorem parts_bad (l : List Int) (n f : Int) (hf : f ≠ 0) (c : Ev (fun k => group_Check.f k l) f) : Ev (fun k => group_Parts.f k l n) ([], f) := by
  unfold group_Parts.f
  refine Ev.bind c ?_
  refine Ev.congr (fun k => ?_) (Ev.now _)
  rw [if_neg hf]
theorem part_bad (l : List Int) (num den f : Int) (hf : f ≠ 0) (c : Ev (fun k => group_Check.f k l) f) : Ev (fun k => group_Part.f k l num den) (0, f) := by
  unfold group_Part.f
  refine Ev.bind c ?_
  refine Ev.congr (fun k => ?_) (Ev.now _)
  rw [if_neg hf]

theorem end_j5 (l : List Int) (n v e e2 : Int) (p : List Int) (x14 : Int) (h : Ev (fun k => mootlaw5_GroupParts.j6 k l n p x14 (e2 != x14)) true) : Ev (fun k => mootlaw5_GroupParts.j5 k l n v e p e2 e x14 v) true := by
  refine Ev.step (f := fun k => (mootlaw5_shared.f k).bind fun t143 => (if t143 = true then (mootlaw5_GroupParts.j6 k l n p x14 (e2 != x14)) else (mootlaw5_GroupParts.j6 k l n p x14 true))) (fun k => ?_) (Ev.bind shared_true ?_)
  · simp only [mootlaw5_GroupParts.j5]
    rw [if_pos trivial, if_pos trivial]
  · refine Ev.congr (fun k => ?_) h
    rw [if_pos rfl]
theorem end_bad (l : List Int) (n v e x14 : Int) (h : x14 ≠ 0) : Ev (fun k => mootlaw5_GroupParts.j5 k l n v e [] x14 e x14 v) true := by
  refine end_j5 l n v e x14 [] x14 (Ev.step (fun k => ?_) (Ev.now true))
  simp only [mootlaw5_GroupParts.j6]
  rw [show (x14 != x14) = false from by simp, if_neg (by decide), if_neg h]
  rfl

theorem sums_l2 (n : Int) (p dn s : List Int) (x124 x125 : Int) (r : Bool) (hd : dn.length ≤ 2000) (q2 : List Int) : ∀ (q1 : List Int) (acc : Int), (q1 ++ q2).length ≤ 2000 →
    Ev (fun k => mootlaw5_GroupParts.l1 k n p (dn ++ [wsum acc q2]) s x124 (wrap64 (x125 + 1))) r →
    Ev (fun k => mootlaw5_GroupParts.l2 k n p dn s acc x124 x125 (q1 ++ q2) ((q1 ++ q2).length : Int) (q1.length : Int)) r := by
  induction q2 with
  | nil =>
    intro q1 acc hl h
    refine Ev.step (fun k => ?_) h
    simp only [mootlaw5_GroupParts.l2, wsum]
    rw [if_neg (by simp), if_pos (by omega)]
  | cons y ys ih =>
    intro q1 acc hl h
    have hl' : q1.length + (ys.length + 1) ≤ 2000 := by simpa using hl
    have hlt : (q1.length : Int) < ((q1 ++ y :: ys).length : Int) := by simp; omega
    refine Ev.step (fun k => ?_) (ih (q1 ++ [y]) (wrap64 (acc + y)) (by simpa using hl) h)
    simp only [mootlaw5_GroupParts.l2, rd_at]
    rw [if_pos hlt, if_pos (by omega), if_pos hlt, w64 (x := (q1.length : Int) + 1) (by omega) (by omega), len_next]
    simp
theorem sums_l1 (s p : List Int) (n : Nat) (hn : n ≤ 1000) (hs : s.length ≤ 1000) (m : Nat) : ∀ (dn : List Int), dn.length + m = n → p = dn ++ sg s n dn.length m →
    Ev (fun k => mootlaw5_GroupParts.l1 k (n : Int) p dn s (n : Int) (dn.length : Int)) true := by
  induction m with
  | zero =>
    intro dn h hp
    have hpd : p = dn := by simpa [sg] using hp
    subst hpd
    refine Ev.step (f := fun k => (slices_Equal_int_int.f k p p).bind fun t147 => some t147) (fun k => ?_) (Ev.bind (equal_same p (by omega)) (Ev.now true))
    simp only [mootlaw5_GroupParts.l1]
    rw [if_neg (by omega)]
  | succ m ih =>
    intro dn h hp
    have hlt : (dn.length : Int) < (n : Int) := by omega
    have h2 := pa_next s.length n dn.length
    have h3 := pa_le s.length n (dn.length + 1) (by omega)
    have i := ih (dn ++ [wsum 0 ((s.drop (pa s.length n dn.length)).take (ps s.length n dn.length))]) (by simp; omega) (by rw [hp]; simp [sg])
    have i2 := sums_l2 (n : Int) p dn s (n : Int) (dn.length : Int) true (by omega) ((s.drop (pa s.length n dn.length)).take (ps s.length n dn.length)) [] 0 (by simp; omega) (by
      rw [w64 (x := (dn.length : Int) + 1) (by omega) (by omega), ← len_next dn (wsum 0 ((s.drop (pa s.length n dn.length)).take (ps s.length n dn.length)))]; exact i)
    have hq : s.length / n ≤ s.length := Nat.div_le_self _ _
    have hq0 : (0 : Int) ≤ ((s.length / n : Nat) : Int) := Int.natCast_nonneg _
    have hr : s.length % n < n := Nat.mod_lt _ (by omega)
    have hqn : dn.length * (s.length / n) ≤ s.length := by have := pa_le s.length n dn.length (by omega); unfold pa at this; omega
    refine Ev.step (fun k => ?_) (Ev.step (fun k => ?_) i2) (f := fun k => mootlaw5_GroupParts.j8 k (n : Int) p dn s (dn.length : Int) ((ps s.length n dn.length : Nat) : Int) (n : Int) (dn.length : Int))
    · simp only [mootlaw5_GroupParts.l1]
      rw [if_pos hlt, if_neg (by omega), ← Int.natCast_ediv, ← Int.natCast_emod]
      unfold ps
      by_cases c : dn.length < s.length % n
      · rw [if_pos (by omega), w64 (x := ((s.length / n : Nat) : Int)) (by omega) (by omega), w64 (by omega) (by omega), if_pos c]
        rfl
      · rw [if_neg (by omega), w64 (by omega) (by omega), if_neg c]
        rfl
    · simp only [mootlaw5_GroupParts.j8]
      rw [if_neg (by omega), ← Int.natCast_ediv, ← Int.natCast_emod, w64 (x := ((s.length / n : Nat) : Int)) (by omega) (by omega), ← Int.natCast_mul,
        w64 (x := ((dn.length * (s.length / n) : Nat) : Int)) (by omega) (by omega), show mn (dn.length : Int) ((s.length % n : Nat) : Int) = ((min dn.length (s.length % n) : Nat) : Int) from by unfold mn; omega,
        ← Int.natCast_add, show dn.length * (s.length / n) + min dn.length (s.length % n) = pa s.length n dn.length from rfl, w64 (x := ((pa s.length n dn.length : Nat) : Int)) (by omega) (by omega),
        ← Int.natCast_add, ← h2, w64 (by omega) (by omega), if_pos (by omega), if_pos (by omega), if_pos (by omega), Int.toNat_natCast, Int.toNat_natCast, List.drop_take, h2, Nat.add_sub_cancel_left]
      rfl
theorem end_j3 (l : List Int) (n v e : Int) (hl : l.length ≤ 1000) (hf : fl l = 0) : ∃ q, Ev (fun k => group_Parts.f k l n) q ∧ Ev (fun k => mootlaw5_GroupParts.j3 k l n v e q.1 q.2 e 0 v) true := by
  by_cases h : n < 1 ∨ 1000 < n
  · refine ⟨_, parts_out l n hl hf h, ?_⟩
    refine Ev.step (f := fun k => mootlaw5_GroupParts.j4 k l n v e [] 1 e 0 v true) (fun k => ?_) (Ev.step (fun k => ?_) (end_bad l n v e 1 (by omega)))
    · simp only [mootlaw5_GroupParts.j3]
      rw [if_pos trivial]
      by_cases d : n < 1
      · rw [if_pos d]
      · rw [if_neg d, show decide (n > 1000) = true from by simp; omega]
    · simp only [mootlaw5_GroupParts.j4]
      rw [if_pos trivial]
  · obtain ⟨m, rfl⟩ : ∃ m : Nat, n = m := ⟨n.toNat, by omega⟩
    have hs := sort_len l
    refine ⟨_, parts_small l m hl hf (by omega) (by omega), ?_⟩
    refine Ev.step (f := fun k => mootlaw5_GroupParts.j4 k l m v e (sg (sortInts.s l) m 0 m) 0 e 0 v false) (fun k => ?_) (Ev.step (f := fun k => mootlaw5_GroupParts.j5 k l m v e (sg (sortInts.s l) m 0 m) 0 e 0 v) (fun k => ?_) (end_j5 l m v e 0 (sg (sortInts.s l) m 0 m) 0 (Ev.step (fun k => ?_) (sums_l1 (sortInts.s l) (sg (sortInts.s l) m 0 m) m (by omega) (by omega) m [] (by simp) (by simp)))))
    · simp only [mootlaw5_GroupParts.j3]
      rw [if_pos trivial, if_neg (by omega), show decide ((m : Int) > 1000) = false from by simp; omega]
    · simp only [mootlaw5_GroupParts.j4]
      rw [if_neg (by decide)]
    · simp only [mootlaw5_GroupParts.j6]
      rw [show ((0 : Int) != 0) = false from rfl, if_neg (by decide), if_pos trivial, seq_small l hl]
      rfl

/-- The place of the part: the least. -/
theorem part_at (num den : Int) (N : Nat) (h1 : 1 ≤ num) (h2 : num ≤ den) (h3 : den ≤ 1000) (h4 : 0 < N) (h5 : N ≤ 1000) :
    ∃ K : Nat, K < N ∧ (K : Int) * den < num * N ∧ num * N ≤ ((K : Int) + 1) * den ∧ (num * N + den - 1) / den - 1 = (K : Int) ∧ 0 ≤ num * N ∧ num * N ≤ 1000000 := by
  have p1 : 1 * (N : Int) ≤ num * N := Int.mul_le_mul_of_nonneg_right h1 (by omega)
  have p2 : num * (N : Int) ≤ den * N := Int.mul_le_mul_of_nonneg_right h2 (by omega)
  have p3 : num * (N : Int) ≤ 1000 * N := Int.mul_le_mul_of_nonneg_right (by omega) (by omega)
  have e1 := Int.ediv_mul_le (num * N + den - 1) (show den ≠ 0 by omega)
  have e2 := Int.lt_ediv_add_one_mul_self (num * N + den - 1) (show 0 < den by omega)
  generalize hq : (num * (N : Int) + den - 1) / den = q at e1 e2
  have hq1 : 1 ≤ q := by
    refine Int.not_lt.1 fun h => ?_
    have : (q + 1) * den ≤ 1 * den := Int.mul_le_mul_of_nonneg_right (by omega) (by omega)
    omega
  have e4 : (q + 1) * den = q * den + den := by rw [Int.add_mul, Int.one_mul]
  have e3 : (q - 1) * den = q * den - den := by rw [Int.sub_mul, Int.one_mul]
  have hq2 : q - 1 < (N : Int) := by
    refine Int.not_le.1 fun h => ?_
    have : (N : Int) * den ≤ (q - 1) * den := Int.mul_le_mul_of_nonneg_right h (by omega)
    rw [Int.mul_comm] at this
    omega
  refine ⟨(q - 1).toNat, by omega, ?_, ?_, by omega, by omega, by omega⟩
  · rw [Int.toNat_of_nonneg (by omega)]; omega
  · rw [Int.toNat_of_nonneg (by omega), show q - 1 + 1 = q from by omega]; omega
theorem law_l0 (l s : List Int) (num den n v e e2 : Int) (p : List Int) (K : Nat) (hK : K < s.length) (hs : s.length ≤ 1000) (h1 : (K : Int) * den < num * s.length) (h2 : num * s.length ≤ ((K : Int) + 1) * den) (hd0 : 0 ≤ den) (hd : den ≤ 1000) (hp0 : 0 ≤ num * s.length) (hp : num * s.length ≤ 1000000)
    (r : Bool) (h : Ev (fun k => mootlaw5_GroupParts.j3 k l n v e p e2 0 0 (rd s K)) r) (m : Nat) : ∀ i, i + m = K → Ev (fun k => mootlaw5_GroupParts.l0 k l num den n v e p e2 0 0 0 s s (s.length : Int) (i : Int)) r := by
  induction m with
  | zero =>
    intro i hi
    obtain rfl : i = K := by omega
    have b1 : ((i : Int) + 1) * den ≤ ((i : Int) + 1) * 1000 := Int.mul_le_mul_of_nonneg_left hd (by omega)
    refine Ev.step (fun k => ?_) h
    simp only [mootlaw5_GroupParts.l0]
    rw [if_pos (by omega), if_pos (by omega), if_pos (by omega), w64 (x := (i : Int) + 1) (by omega) (by omega), w64 (x := ((i : Int) + 1) * den) (by omega) (by omega), w64 (x := num * (s.length : Int)) (by omega) (by omega), if_pos (by omega)]
  | succ m ih =>
    intro i hi
    have b1 : ((i : Int) + 1) * den ≤ (K : Int) * den := Int.mul_le_mul_of_nonneg_right (by omega) hd0
    have b2 : 0 ≤ ((i : Int) + 1) * den := Int.mul_nonneg (by omega) hd0
    refine Ev.step (fun k => ?_) (ih (i + 1) (by omega))
    simp only [mootlaw5_GroupParts.l0]
    rw [if_pos (by omega), if_pos (by omega), if_pos (by omega), w64 (x := (i : Int) + 1) (by omega) (by omega), w64 (x := ((i : Int) + 1) * den) (by omega) (by omega), w64 (x := num * (s.length : Int)) (by omega) (by omega), if_neg (by omega), Int.natCast_add]
    rfl
theorem GroupParts : mootlaw5_GroupParts.Pure := by
  intro l num den n _ _ _ _ _ _
  refine Ev.rounds ?_
  unfold mootlaw5_GroupParts.f
  have bad : ∀ f, f ≠ 0 → Ev (fun k => group_Check.f k l) f → Ev (fun k => mootlaw5_listFault.f k l) f → Ev (fun k => (group_Part.f k l num den).bind fun bt132 => ((group_Parts.f k l n).bind fun bt134 => ((mootlaw5_listFault.f k l).bind fun t138 => (if t138 = 0 then (if den < 1 then (mootlaw5_GroupParts.j0 k l num den n bt132.1 bt132.2 bt134.1 bt134.2 t138 t138 true) else (if den > 1000 then (mootlaw5_GroupParts.j0 k l num den n bt132.1 bt132.2 bt134.1 bt134.2 t138 t138 true) else (if num < 1 then (mootlaw5_GroupParts.j0 k l num den n bt132.1 bt132.2 bt134.1 bt134.2 t138 t138 true) else (mootlaw5_GroupParts.j0 k l num den n bt132.1 bt132.2 bt134.1 bt134.2 t138 t138 (decide (num > den)))))) else (mootlaw5_GroupParts.j1 k l num den n bt132.1 bt132.2 bt134.1 bt134.2 t138 t138))))) true := by
    intro f h0 hc hf
    refine Ev.bind (part_bad l num den f h0 hc) (Ev.bind (parts_bad l n f h0 hc) (Ev.bind hf ?_))
    refine Ev.congr (f := fun k => mootlaw5_GroupParts.j1 k l num den n 0 f [] f f f) (fun k => by rw [if_neg h0]) ?_
    refine Ev.step (f := fun k => mootlaw5_GroupParts.j3 k l n 0 f [] f f f 0) (fun k => by simp only [mootlaw5_GroupParts.j1]; rw [if_neg h0]) ?_
    refine Ev.step (f := fun k => mootlaw5_GroupParts.j4 k l n 0 f [] f f f 0 false) (fun k => by simp only [mootlaw5_GroupParts.j3]; rw [if_neg h0]) ?_
    refine Ev.step (fun k => by simp only [mootlaw5_GroupParts.j4]; rw [if_neg (by decide)]) (end_bad l n 0 f f h0)
  by_cases hl : l.length ≤ 1000
  · have hf := fault_small l hl
    have hc := check_small l hl
    rcases fl_cases l with h0 | h1
    · by_cases ha : den < 1 ∨ 1000 < den ∨ num < 1 ∨ den < num
      · have hpart : Ev (fun k => group_Part.f k l num den) (0, 1) := by
          unfold group_Part.f
          rw [h0] at hc
          refine Ev.bind hc (Ev.congr (f := fun k => group_Part.j0 k l num den true) (fun k => ?_) (Ev.step (fun k => ?_) (Ev.now _)))
          · rw [if_pos rfl]
            by_cases d1 : den < 1
            · rw [if_pos d1]
            · rw [if_neg d1]
              by_cases d2 : den > 1000
              · rw [if_pos d2]
              · rw [if_neg d2]
                by_cases d3 : num < 1
                · rw [if_pos d3]
                · rw [if_neg d3, show decide (num > den) = true from by simp; omega]
          · simp only [group_Part.j0]
            rw [if_pos trivial]
        obtain ⟨q, hq, hend⟩ := end_j3 l n 0 1 hl h0
        rw [h0] at hf
        refine Ev.bind hpart (Ev.bind hq (Ev.bind hf ?_))
        refine Ev.congr (f := fun k => mootlaw5_GroupParts.j0 k l num den n 0 1 q.1 q.2 0 0 true) (fun k => ?_) ?_
        · rw [if_pos rfl]
          by_cases d1 : den < 1
          · rw [if_pos d1]
          · rw [if_neg d1]
            by_cases d2 : den > 1000
            · rw [if_pos d2]
            · rw [if_neg d2]
              by_cases d3 : num < 1
              · rw [if_pos d3]
              · rw [if_neg d3, show decide (num > den) = true from by simp; omega]
        · refine Ev.step (f := fun k => mootlaw5_GroupParts.j1 k l num den n 0 1 q.1 q.2 1 0) (fun k => by simp only [mootlaw5_GroupParts.j0]; rw [if_pos trivial]) ?_
          refine Ev.step (fun k => by simp only [mootlaw5_GroupParts.j1]; rw [if_neg (by decide)]) hend
      · have d1 : ¬ den < 1 := by omega
        have d2 : ¬ den > 1000 := by omega
        have d3 : ¬ num < 1 := by omega
        have d4 : decide (num > den) = false := by simp; omega
        rw [h0] at hf hc
        by_cases hn : l = []
        · have hz : (l.length : Int) = 0 := by rw [hn]; rfl
          have hpart : Ev (fun k => group_Part.f k l num den) (0, 11) := by
            unfold group_Part.f
            refine Ev.bind hc (Ev.congr (f := fun k => group_Part.j0 k l num den false) (fun k => ?_) (Ev.step (fun k => ?_) (Ev.now _)))
            · rw [if_pos rfl, if_neg d1, if_neg d2, if_neg d3, d4]
            · simp only [group_Part.j0]
              rw [if_neg (by decide), if_pos hz]
          obtain ⟨q, hq, hend⟩ := end_j3 l n 0 11 hl h0
          refine Ev.bind hpart (Ev.bind hq (Ev.bind hf ?_))
          refine Ev.congr (f := fun k => mootlaw5_GroupParts.j0 k l num den n 0 11 q.1 q.2 0 0 false) (fun k => ?_) ?_
          · rw [if_pos rfl, if_neg d1, if_neg d2, if_neg d3, d4]
          · refine Ev.step (f := fun k => mootlaw5_GroupParts.j1 k l num den n 0 11 q.1 q.2 11 0) (fun k => by simp only [mootlaw5_GroupParts.j0]; rw [if_neg (by decide), if_pos hz]) ?_
            refine Ev.step (fun k => by simp only [mootlaw5_GroupParts.j1]; rw [if_neg (by decide)]) hend
        · have hpos : 0 < l.length := List.length_pos_iff.2 hn
          have hs := sort_len l
          obtain ⟨K, k1, k2, k3, k4, k5, k6⟩ := part_at num den (sortInts.s l).length (by omega) (by omega) (by omega) (by omega) (by omega)
          have hpart : Ev (fun k => group_Part.f k l num den) (rd (sortInts.s l) K, 0) := by
            unfold group_Part.f
            refine Ev.bind hc (Ev.congr (f := fun k => group_Part.j0 k l num den false) (fun k => ?_) (Ev.step (fun k => ?_) (Ev.now _)))
            · rw [if_pos rfl, if_neg d1, if_neg d2, if_neg d3, d4]
            · simp only [group_Part.j0]
              rw [if_neg (by decide), if_neg (by omega), seq_small l hl]
              show (if _ then _ else _) = _
              rw [if_neg (by omega), w64 (x := num * ((sortInts.s l).length : Int)) (by omega) (by omega), w64 (x := num * ((sortInts.s l).length : Int) + den) (by omega) (by omega), w64 (x := num * ((sortInts.s l).length : Int) + den - 1) (by omega) (by omega),
                Int.tdiv_eq_ediv_of_nonneg (by omega), w64 (x := (num * ((sortInts.s l).length : Int) + den - 1) / den) (by omega) (by omega), k4, w64 (by omega) (by omega), if_pos (by omega), if_pos (by omega)]
          obtain ⟨q, hq, hend⟩ := end_j3 l n (rd (sortInts.s l) K) 0 hl h0
          refine Ev.bind hpart (Ev.bind hq (Ev.bind hf ?_))
          refine Ev.congr (f := fun k => mootlaw5_GroupParts.j0 k l num den n (rd (sortInts.s l) K) 0 q.1 q.2 0 0 false) (fun k => ?_) ?_
          · rw [if_pos rfl, if_neg d1, if_neg d2, if_neg d3, d4]
          · refine Ev.step (f := fun k => mootlaw5_GroupParts.j1 k l num den n (rd (sortInts.s l) K) 0 q.1 q.2 0 0) (fun k => by simp only [mootlaw5_GroupParts.j0]; rw [if_neg (by decide), if_neg (by omega)]) ?_
            have h := law_l0 l (sortInts.s l) num den n (rd (sortInts.s l) K) 0 q.2 q.1 K k1 (by omega) k2 k3 (by omega) (by omega) k5 k6 true hend K 0 (by omega)
            refine Ev.step (fun k => ?_) h
            simp only [mootlaw5_GroupParts.j1]
            rw [if_pos trivial, seq_small l hl]
            rfl
    · rw [h1] at hf hc
      exact bad 1 (by omega) hc hf
  · exact bad 2 (by omega) (check_large l hl) (fault_large l hl)
end Go.Proofs.Ytihmanjgkjenbaa.Pure
