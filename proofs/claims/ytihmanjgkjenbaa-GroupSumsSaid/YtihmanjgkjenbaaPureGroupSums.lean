/- GroupSums: By and Mean return what is specified for all keys and values; conditions: the row's own. -/
import Derived.Test.YtihmanjgkjenbaaPGroupSumsx4
import Derived.Lib.Mul64
import Derived.OpenShut
import Derived.Laws.Bits64b
namespace Go.Proofs.Ytihmanjgkjenbaa.Pure
open Go.RowKit Go.Proofs.Ytihmanjgkjenbaa.PGroupSums Go.Proofs.YtihmanjgkjenbaaW.PrintWords Go.Proofs.YtihmanjgkjenbaaW.PrintLast Go.Proofs.YtihmanjgkjenbaaW.PrintMore
theorem w64 {x : Int} (h0 : -9223372036854775808 ≤ x) (h1 : x < 9223372036854775808) : wrap64 x = x := by unfold wrap64; omega
theorem rd_at (pre : List Int) (y : Int) (suf : List Int) : rd (pre ++ y :: suf) (pre.length : Int) = y := by simp [rd]
theorem len_next (pre : List Int) (y : Int) : ((pre ++ [y]).length : Int) = (pre.length : Int) + 1 := by simp

/-- What the checks of values tell of values that are not too many. -/
def fl : List Int → Int
  | [] => 0
  | y :: ys => if y < -1099511627776 then 1 else if y > 1099511627776 then 1 else fl ys
theorem fl_cons (y : Int) (ys : List Int) : fl (y :: ys) = if y < -1099511627776 then 1 else if y > 1099511627776 then 1 else fl ys := rfl
theorem fl_ok : ∀ {l : List Int}, fl l = 0 → ∀ x ∈ l, -1099511627776 ≤ x ∧ x ≤ 1099511627776
  | [], _, x, hx => by cases hx
  | y :: ys, h, x, hx => by
    rw [fl_cons] at h
    by_cases c : y < -1099511627776
    · rw [if_pos c] at h; omega
    · rw [if_neg c] at h
      by_cases d : y > 1099511627776
      · rw [if_pos d] at h; omega
      · rw [if_neg d] at h
        rcases List.mem_cons.1 hx with e | hx
        · omega
        · exact fl_ok h x hx
theorem fl_cases : ∀ (l : List Int), fl l = 0 ∨ fl l = 1
  | [] => .inl rfl
  | y :: ys => by rw [fl_cons]; split; exact .inr rfl; split; exact .inr rfl; exact fl_cases ys

theorem check_l0 (suf : List Int) : ∀ pre : List Int, pre.length + suf.length ≤ 1000 → Ev (fun k => group_Check.l0 k (pre ++ suf) ((pre ++ suf).length : Int) (pre.length : Int)) (fl suf) := by
  induction suf with
  | nil =>
    intro pre hl
    refine ⟨1, fun k hk => ?_⟩
    obtain ⟨k, rfl⟩ : ∃ m, k = m + 1 := ⟨k - 1, by omega⟩
    simp only [group_Check.l0]
    rw [if_neg (by simp)]
    rfl
  | cons y ys ih =>
    intro pre hl
    have hl' : pre.length + (ys.length + 1) ≤ 1000 := hl
    have hlt : (pre.length : Int) < ((pre ++ y :: ys).length : Int) := by simp; omega
    rw [fl_cons]
    by_cases c : y < -1099511627776
    · refine ⟨1, fun k hk => ?_⟩
      obtain ⟨k, rfl⟩ : ∃ m, k = m + 1 := ⟨k - 1, by omega⟩
      simp only [group_Check.l0, rd_at]
      rw [if_pos hlt, if_pos (by omega), if_pos hlt, if_pos c, if_pos c]
    · by_cases d : y > 1099511627776
      · refine ⟨1, fun k hk => ?_⟩
        obtain ⟨k, rfl⟩ : ∃ m, k = m + 1 := ⟨k - 1, by omega⟩
        simp only [group_Check.l0, rd_at]
        rw [if_pos hlt, if_pos (by omega), if_pos hlt, if_neg c, if_pos d, if_neg c, if_pos d]
      · rw [if_neg c, if_neg d]
        refine Ev.step (fun k => ?_) (ih (pre ++ [y]) (by simp; omega))
        simp only [group_Check.l0, rd_at]
        rw [if_pos hlt, if_pos (by omega), if_pos hlt, if_neg c, if_neg d, w64 (by omega) (by omega), len_next]
        simp
theorem check_small (l : List Int) (h : l.length ≤ 1000) : Ev (fun k => group_Check.f k l) (fl l) := by
  refine Ev.congr (fun k => ?_) (check_l0 l [] (by simpa using h))
  unfold group_Check.f
  rw [if_neg (by omega)]
  rfl
theorem check_large (l : List Int) (h : ¬ l.length ≤ 1000) : Ev (fun k => group_Check.f k l) 2 := by
  refine Ev.congr (fun k => ?_) (Ev.now 2)
  unfold group_Check.f
  rw [if_pos (by omega)]

theorem sorted_eq : ∀ (a b : List Int), a.Pairwise (fun x y => x ≤ y) → b.Pairwise (fun x y => x ≤ y) → a.Perm b → a = b
  | [], b, _, _, h => by rw [List.nil_perm.1 h]
  | x :: xs, [], _, _, h => by have := h.length_eq; simp at this
  | x :: xs, y :: ys, ha, hb, h => by
    have h1 := List.pairwise_cons.1 ha
    have h2 := List.pairwise_cons.1 hb
    have hx : x ∈ y :: ys := h.mem_iff.1 (by simp)
    have hy : y ∈ x :: xs := h.mem_iff.2 (by simp)
    have e : x = y := by
      rcases List.mem_cons.1 hx with e | hx
      · exact e
      · rcases List.mem_cons.1 hy with e | hy
        · exact e.symm
        · have := h1.1 y hy
          have := h2.1 x hx
          omega
    subst e
    rw [sorted_eq xs ys h1.2 h2.2 (List.perm_cons x |>.1 h)]
theorem sort_perm (l : List Int) : (sortInts.s l).Perm l := List.mergeSort_perm l _
theorem sort_sorted (l : List Int) : (sortInts.s l).Pairwise (fun x y => x ≤ y) := by
  have := List.pairwise_mergeSort (le := fun (x y : Int) => decide (x ≤ y)) (by intro a b c; simp; omega) (by intro a b; simp; omega) l
  exact this.imp (by simp)
theorem sort_len (l : List Int) : (sortInts.s l).length = l.length := (sort_perm l).length_eq
theorem sort_is (l m : List Int) (h : m.Pairwise (fun x y => x ≤ y)) (hp : m.Perm l) : sortInts.s l = m := sorted_eq _ _ (sort_sorted l) h ((sort_perm l).trans hp.symm)
theorem seq_small (l : List Int) (h : l.length ≤ 1000) : sortedSeq.f l = some (sortInts.s l) := by
  unfold sortedSeq.f
  rw [if_pos (by omega)]

theorem gcd_l0 (b : Nat) : ∀ a : Nat, Ev (fun k => group_gcd.l0 k (a : Int) (b : Int)) (Nat.gcd a b : Nat) := by
  induction b using Nat.strongRecOn with
  | _ b ih =>
    intro a
    by_cases h : b = 0
    · subst h
      refine ⟨1, fun k hk => ?_⟩
      obtain ⟨k, rfl⟩ : ∃ m, k = m + 1 := ⟨k - 1, by omega⟩
      simp only [group_gcd.l0]
      rw [if_neg (by omega)]
      simp
    · have := ih (a % b) (Nat.mod_lt _ (by omega)) b
      rw [Nat.gcd_comm b (a % b), ← Nat.gcd_rec b a, Nat.gcd_comm b a] at this
      refine Ev.step (fun k => ?_) this
      simp only [group_gcd.l0]
      rw [if_pos (by omega), if_neg (by omega), Int.tmod_eq_emod_of_nonneg (by omega)]
      rfl
theorem lowest_l0 (x0 x1 : Int) (N : Nat) : ∀ a b : Nat, a + b ≤ N → a + b < 9223372036854775808 → 0 < a + b →
    Ev (fun k => mootref5_Lowest.l0 k x0 x1 (a : Int) (b : Int)) (wrap64 (Int.tdiv x0 (Nat.gcd a b : Nat)), wrap64 (Int.tdiv x1 (Nat.gcd a b : Nat))) := by
  induction N with
  | zero => intro a b h1 h2 h3; omega
  | succ N ih =>
    intro a b h1 h2 h3
    by_cases ha : a = 0
    · subst ha
      refine Ev.step (fun k => ?_) (Ev.step (fun k => ?_) (Ev.now _)) (f := fun k => mootref5_Lowest.j1 k x0 x1 (0 : Nat) (b : Int) false)
      · simp only [mootref5_Lowest.l0]
        rw [if_pos (by omega)]
      · simp only [mootref5_Lowest.j1]
        rw [if_neg (by decide), w64 (by omega) (by omega), if_neg (by omega)]
        simp
    · by_cases hb : b = 0
      · subst hb
        refine Ev.step (fun k => ?_) (Ev.step (fun k => ?_) (Ev.now _)) (f := fun k => mootref5_Lowest.j1 k x0 x1 (a : Int) (0 : Nat) false)
        · simp only [mootref5_Lowest.l0]
          rw [if_neg (by omega)]
          rfl
        · simp only [mootref5_Lowest.j1]
          rw [if_neg (by decide), w64 (by omega) (by omega), if_neg (by omega)]
          simp
      · have hne : (((b : Nat) : Int) != 0) = true := by rw [bne_iff_ne]; omega
        by_cases c : b < a
        · have h := ih (a % b) b (by have := Nat.mod_lt a (show 0 < b by omega); omega) (by have := Nat.mod_lt a (show 0 < b by omega); omega) (by omega)
          rw [show Nat.gcd (a % b) b = Nat.gcd a b from by rw [Nat.gcd_comm a b, Nat.gcd_rec b a]] at h
          refine Ev.step (fun k => ?_) (Ev.step (fun k => ?_) h) (f := fun k => mootref5_Lowest.j1 k x0 x1 (a : Int) (b : Int) true)
          · simp only [mootref5_Lowest.l0]
            rw [if_neg (by omega), hne]
          · simp only [mootref5_Lowest.j1]
            rw [if_pos trivial, if_pos (by omega), if_neg (by omega), Int.tmod_eq_emod_of_nonneg (by omega)]
            rfl
        · have h := ih a (b % a) (by have := Nat.mod_lt b (show 0 < a by omega); omega) (by have := Nat.mod_lt b (show 0 < a by omega); omega) (by omega)
          rw [show Nat.gcd a (b % a) = Nat.gcd a b from by rw [Nat.gcd_rec a b, Nat.gcd_comm]] at h
          refine Ev.step (fun k => ?_) (Ev.step (fun k => ?_) h) (f := fun k => mootref5_Lowest.j1 k x0 x1 (a : Int) (b : Int) true)
          · simp only [mootref5_Lowest.l0]
            rw [if_neg (by omega), hne]
          · simp only [mootref5_Lowest.j1]
            rw [if_pos trivial, if_neg (by omega), if_neg (by omega), Int.tmod_eq_emod_of_nonneg (by omega)]
            rfl
/-- A fraction that is not negative. -/
theorem lowest (a b : Nat) (h : a + b < 9223372036854775808) (h0 : 0 < b) : Ev (fun k => mootref5_Lowest.f k (a : Int) (b : Int)) (wrap64 (Int.tdiv (a : Int) (Nat.gcd a b : Nat)), wrap64 (Int.tdiv (b : Int) (Nat.gcd a b : Nat))) := by
  refine Ev.congr (fun k => ?_) (lowest_l0 (a : Int) (b : Int) (a + b) a b (Nat.le_refl _) h (by omega))
  unfold mootref5_Lowest.f
  rw [w64 (by omega) (by omega), show mx (a : Int) (-(a : Int)) = (a : Int) from by unfold mx; omega]

theorem fault_l0 (suf : List Int) : ∀ pre : List Int, pre.length + suf.length ≤ 1000 → Ev (fun k => mootlaw5_listFault.l0 k (pre ++ suf) ((pre ++ suf).length : Int) (pre.length : Int)) (fl suf) := by
  induction suf with
  | nil =>
    intro pre hl
    refine ⟨1, fun k hk => ?_⟩
    obtain ⟨k, rfl⟩ : ∃ m, k = m + 1 := ⟨k - 1, by omega⟩
    simp only [mootlaw5_listFault.l0]
    rw [if_neg (by simp)]
    rfl
  | cons y ys ih =>
    intro pre hl
    have hl' : pre.length + (ys.length + 1) ≤ 1000 := hl
    have hlt : (pre.length : Int) < ((pre ++ y :: ys).length : Int) := by simp; omega
    rw [fl_cons]
    by_cases d : y > 1099511627776
    · refine ⟨1, fun k hk => ?_⟩
      obtain ⟨k, rfl⟩ : ∃ m, k = m + 1 := ⟨k - 1, by omega⟩
      simp only [mootlaw5_listFault.l0, rd_at]
      rw [if_pos hlt, if_pos (by omega), if_pos hlt, if_pos d, if_neg (by omega), if_pos d]
    · by_cases c : y < -1099511627776
      · refine ⟨1, fun k hk => ?_⟩
        obtain ⟨k, rfl⟩ : ∃ m, k = m + 1 := ⟨k - 1, by omega⟩
        simp only [mootlaw5_listFault.l0, rd_at]
        rw [if_pos hlt, if_pos (by omega), if_pos hlt, if_neg d, if_pos c, if_pos c]
      · rw [if_neg c, if_neg d]
        refine Ev.step (fun k => ?_) (ih (pre ++ [y]) (by simp; omega))
        simp only [mootlaw5_listFault.l0, rd_at]
        rw [if_pos hlt, if_pos (by omega), if_pos hlt, if_neg d, if_neg c, w64 (by omega) (by omega), len_next]
        simp
theorem fault_small (l : List Int) (h : l.length ≤ 1000) : Ev (fun k => mootlaw5_listFault.f k l) (fl l) := by
  refine Ev.congr (fun k => ?_) (fault_l0 l [] (by simpa using h))
  unfold mootlaw5_listFault.f
  rw [if_neg (by omega)]
  rfl
theorem fault_large (l : List Int) (h : ¬ l.length ≤ 1000) : Ev (fun k => mootlaw5_listFault.f k l) 2 := by
  refine Ev.congr (fun k => ?_) (Ev.now 2)
  unfold mootlaw5_listFault.f
  rw [if_pos (by omega)]

theorem shared_true : Ev (fun k => mootlaw5_shared.f k) true := by
  have hs : sortInts.s [5, 1, 3, 9] = [1, 3, 5, 9] := sort_is _ _ (by simp) (by decide)
  have c := check_small [5, 1, 3, 9] (by simp)
  rw [show fl [5, 1, 3, 9] = 0 from by decide] at c
  have p : Ev (fun k => group_Part.f k [5, 1, 3, 9] 1 2) (3, 0) := by
    unfold group_Part.f
    refine Ev.bind c ?_
    refine Ev.congr (f := fun k => group_Part.j0 k [5, 1, 3, 9] 1 2 false) (fun k => ?_) ?_
    · rw [if_pos rfl, if_neg (by decide), if_neg (by decide), if_neg (by decide)]
      rfl
    · refine ⟨1, fun k hk => ?_⟩
      obtain ⟨k, rfl⟩ : ∃ m, k = m + 1 := ⟨k - 1, by omega⟩
      simp only [group_Part.j0, seq_small [5, 1, 3, 9] (by simp), hs]
      have e : wrap64 (wrap64 ((wrap64 (wrap64 (wrap64 (1 * (([1, 3, 5, 9] : List Int).length : Int)) + 2) - 1)).tdiv 2) - 1) = 1 := by decide +kernel
      rw [if_neg (by decide), if_neg (by decide)]
      show (if (2 : Int) = 0 then none else if 0 ≤ wrap64 (wrap64 ((wrap64 (wrap64 (wrap64 (1 * (([1, 3, 5, 9] : List Int).length : Int)) + 2) - 1)).tdiv 2) - 1) then _ else _) = _
      rw [if_neg (by decide), e]
      rfl
  unfold mootlaw5_shared.f
  refine Ev.bind p ?_
  exact Ev.now true
theorem rdS_at (pre : List S50) (y : S50) (suf : List S50) : rd_T50 (pre ++ y :: suf) (pre.length : Int) = y := by simp [rd_T50]
theorem same_l0 (suf : List S50) : ∀ pre : List S50, (pre ++ suf).length ≤ 1000000 → Ev (fun k => group_Group.l0 k (pre ++ suf) (pre ++ suf) ((pre ++ suf).length : Int) (pre.length : Int)) true := by
  induction suf with
  | nil =>
    intro pre hl
    refine Ev.step (fun k => ?_) (Ev.now true)
    simp only [group_Group.l0]
    rw [if_neg (by simp)]
  | cons y ys ih =>
    intro pre hl
    have hl' : pre.length + (ys.length + 1) ≤ 1000000 := by simpa using hl
    have hlt : (pre.length : Int) < ((pre ++ y :: ys).length : Int) := by simp; omega
    refine Ev.step (fun k => ?_) (ih (pre ++ [y]) (by simpa using hl))
    simp only [group_Group.l0, rdS_at]
    rw [if_pos hlt, if_pos (by omega), if_pos hlt, if_pos hlt, w64 (by omega) (by omega)]
    simp
theorem same (l : List S50) (h : l.length ≤ 1000000) : Ev (fun k => group_Group.f k l l) true := by
  refine Ev.congr (fun k => ?_) (same_l0 l [] (by simpa using h))
  unfold group_Group.f
  rw [if_pos rfl]
  rfl
theorem compact_sorted (zs : List Int) (hs : zs.Pairwise (fun x y => x ≤ y)) : ∀ m, m ≤ zs.length → (Lib.compactUpTo zs.toArray m).Pairwise (fun x y => x < y) ∧ ∀ x, x ∈ Lib.compactUpTo zs.toArray m ↔ ∃ j, ∃ h : j < zs.length, j < m ∧ zs[j] = x
  | 0, _ => by simp [Lib.compactUpTo]
  | m + 1, hm => by
    obtain ⟨h1, h2⟩ := compact_sorted zs hs m (by omega)
    have hle : ∀ i j (hj : j < zs.length) (hij : i ≤ j), zs[i]'(by omega) ≤ zs[j] := fun i j hj hij => by
      rcases Nat.lt_or_ge i j with h | h
      · exact List.pairwise_iff_getElem.1 hs i j (by omega) hj h
      · have : i = j := by omega
        subst this
        exact Int.le_refl _
    have hd : ∀ j (h : j < zs.length), zs.toArray[j]! = zs[j] := fun j h => by rw [getElem!_pos _ j (by simpa using h)]; simp
    rw [Lib.compactUpTo_succ]
    by_cases k : Lib.keeps zs.toArray m = true
    · rw [if_pos k, hd m (by omega)]
      refine ⟨?_, ?_⟩
      · rw [List.pairwise_append]
        refine ⟨h1, by simp, fun a ha b hb => ?_⟩
        have hbm : b = zs[m] := by simpa using hb
        obtain ⟨j, hj, hjm, e⟩ := (h2 a).1 ha
        have hm0 : m ≠ 0 := by omega
        have hne : zs[m] ≠ zs[m - 1] := by
          unfold Lib.keeps at k
          rw [decide_eq_true_iff, hd m (by omega), hd (m - 1) (by omega)] at k
          rcases k with k | k
          · exact absurd k hm0
          · exact k
        have := hle j (m - 1) (by omega) (by omega)
        have := hle (m - 1) m (by omega) (by omega)
        omega
      · intro x
        rw [List.mem_append, h2]
        constructor
        · rintro (⟨j, hj, hjm, e⟩ | e)
          · exact ⟨j, hj, by omega, e⟩
          · exact ⟨m, by omega, by omega, (by simpa using e : x = zs[m]).symm⟩
        · rintro ⟨j, hj, hjm, e⟩
          rcases Nat.lt_or_ge j m with h | h
          · exact .inl ⟨j, hj, h, e⟩
          · have : j = m := by omega
            subst this
            exact .inr (by simp [e])
    · rw [if_neg k, List.append_nil]
      refine ⟨h1, fun x => ?_⟩
      rw [h2]
      have hm0 : m ≠ 0 := fun e => k (by subst e; simp [Lib.keeps])
      have heq : zs[m] = zs[m - 1] := by
        unfold Lib.keeps at k
        rw [decide_eq_true_iff, hd m (by omega), hd (m - 1) (by omega)] at k
        exact Decidable.byContradiction fun h => k (.inr h)
      constructor
      · rintro ⟨j, hj, hjm, e⟩
        exact ⟨j, hj, by omega, e⟩
      · rintro ⟨j, hj, hjm, e⟩
        rcases Nat.lt_or_ge j m with h | h
        · exact ⟨j, hj, h, e⟩
        · have : j = m := by omega
          subst this
          exact ⟨j - 1, by omega, by omega, by omega⟩
theorem compact_is (keys : List Int) : Lib.compact (sortInts.s keys) = sortInts.s (group_By.uniq keys) := by
  obtain ⟨h1, h2⟩ := compact_sorted (sortInts.s keys) (sort_sorted keys) (sortInts.s keys).length (Nat.le_refl _)
  change (Lib.compact (sortInts.s keys)).Pairwise _ at h1
  refine sorted_eq _ _ (h1.imp (by intro a b h; omega)) (sort_sorted _) ((group_By.perm_of (h1.imp (by intro a b h e; omega)) (group_By.nodup_uniq keys) fun x => ?_).trans (sort_perm _).symm)
  change x ∈ Lib.compactUpTo _ _ ↔ _
  rw [h2, group_By.mem_uniq, ← (sort_perm keys).mem_iff]
  constructor
  · rintro ⟨j, hj, _, rfl⟩; exact List.getElem_mem _
  · intro h
    obtain ⟨j, hj, e⟩ := List.getElem_of_mem h
    exact ⟨j, hj, hj, e⟩
theorem rev_succ (K v : List Int) (i : Nat) (h1 : i < K.length) (h2 : i < v.length) : By.rev K v (i + 1) = (rd K i, rd v i) :: By.rev K v i := by
  unfold By.rev
  rw [List.take_add_one, List.reverse_append]
  have e1 : K[i]? = some (rd K i) := by simp [rd, h1]
  have e2 : v[i]? = some (rd v i) := by simp [rd, h2]
  simp [List.zip, List.getElem?_zipWith, e1, e2]
theorem sums_l1 (keys v : List Int) (x5 : Int) (x6 : List S50) (x7 x8 x9 x10 x11 : Int) (x12 : List S50) (q : Int) (C : List Int) (x60 x61 : Int) (r : Bool) (hl : keys.length = v.length) (hn : v.length ≤ 1000) (h12 : x12.length ≤ 1000) (m : Nat) : ∀ i, i + m = v.length →
    Ev (fun k => mootlaw5_GroupSums.l0 k keys v x5 x6 x7 x8 x9 x10 x11 (x12 ++ [group_By.toS (By.gOf (By.rev keys v v.length) q)]) C x60 (wrap64 (x61 + 1))) r →
    Ev (fun k => mootlaw5_GroupSums.l1 k keys v x5 x6 x7 x8 x9 x10 x11 x12 q C x60 x61 keys (keys.length : Int) (i : Int) q (By.grp q (By.rev keys v i)).1 (By.grp q (By.rev keys v i)).2) r := by
  induction m with
  | zero =>
    intro i hi h
    obtain rfl : i = v.length := by omega
    refine Ev.step (fun k => ?_) h
    simp only [mootlaw5_GroupSums.l1]
    rw [if_neg (by omega), if_pos (by omega)]
    rfl
  | succ m ih =>
    intro i hi h
    have hi1 : (i : Int) < (keys.length : Int) := by omega
    have hi2 : (i : Int) < (v.length : Int) := by omega
    have i1 := ih (i + 1) (by omega) h
    rw [rev_succ keys v i (by omega) (by omega)] at i1
    by_cases c : rd keys (i : Int) = q
    · simp only [By.grp, if_pos c] at i1
      refine Ev.step (fun k => ?_) i1
      simp only [mootlaw5_GroupSums.l1]
      rw [if_pos hi1, if_pos (by omega), if_pos hi1, if_pos c, if_pos hi2, w64 (x := (i : Int) + 1) (by omega) (by omega)]
      rfl
    · simp only [By.grp, if_neg c] at i1
      refine Ev.step (fun k => ?_) i1
      simp only [mootlaw5_GroupSums.l1]
      rw [if_pos hi1, if_pos (by omega), if_pos hi1, if_neg c, w64 (x := (i : Int) + 1) (by omega) (by omega)]
      rfl
theorem sums_l0 (keys v : List Int) (x5 : Int) (x6 : List S50) (x7 x8 x9 x10 x11 : Int) (r : Bool) (hl : keys.length = v.length) (hn : v.length ≤ 1000) (suf : List Int) : ∀ pre : List Int, (pre ++ suf).length ≤ 1000 →
    Ev (fun k => mootlaw5_GroupSums.j5 k v x5 x6 x7 x8 x9 x10 x11 (((pre ++ suf).map (By.gOf (By.rev keys v v.length))).map group_By.toS)) r →
    Ev (fun k => mootlaw5_GroupSums.l0 k keys v x5 x6 x7 x8 x9 x10 x11 ((pre.map (By.gOf (By.rev keys v v.length))).map group_By.toS) (pre ++ suf) ((pre ++ suf).length : Int) (pre.length : Int)) r := by
  induction suf with
  | nil =>
    intro pre hp h
    refine Ev.step (fun k => ?_) h
    simp only [mootlaw5_GroupSums.l0]
    rw [if_neg (by simp)]
    simp
  | cons y ys ih =>
    intro pre hp h
    have hp' : pre.length + (ys.length + 1) ≤ 1000 := by simpa using hp
    have hlt : (pre.length : Int) < ((pre ++ y :: ys).length : Int) := by simp; omega
    have i := ih (pre ++ [y]) (by simpa using hp) (by simpa using h)
    have i1 := sums_l1 keys v x5 x6 x7 x8 x9 x10 x11 ((pre.map (By.gOf (By.rev keys v v.length))).map group_By.toS) y (pre ++ y :: ys) ((pre ++ y :: ys).length : Int) (pre.length : Int) r hl hn (by simp; omega) v.length 0 (by omega) (by
      rw [w64 (x := (pre.length : Int) + 1) (by omega) (by omega)]
      simpa using i)
    refine Ev.step (fun k => ?_) i1
    simp only [mootlaw5_GroupSums.l0, rd_at]
    rw [if_pos hlt, if_pos (by omega), if_pos hlt]
    rfl
theorem lowest_int (x : Int) (b : Nat) (h1 : -4611686018427387904 ≤ x) (h2 : x ≤ 4611686018427387904) (hb : b ≤ 1000) (h0 : 0 < b) : Ev (fun k => mootref5_Lowest.f k x (b : Int)) (wrap64 (Int.tdiv x (Nat.gcd x.natAbs b : Nat)), wrap64 (Int.tdiv (b : Int) (Nat.gcd x.natAbs b : Nat))) := by
  refine Ev.congr (fun k => ?_) (lowest_l0 x (b : Int) (x.natAbs + b) x.natAbs b (Nat.le_refl _) (by omega) (by omega))
  unfold mootref5_Lowest.f
  rw [w64 (x := -x) (by omega) (by omega), show mx x (-x) = (x.natAbs : Int) from by unfold mx; split <;> omega]
def sm : List Int → Int
  | [] => 0
  | y :: ys => y + sm ys
theorem sm_last (l : List Int) (x : Int) : sm (l ++ [x]) = sm l + x := by
  induction l with
  | nil => simp [sm]
  | cons y ys ih => simp only [List.cons_append, sm, ih]; omega
theorem sm_fl : ∀ {l : List Int}, (∀ x ∈ l, -1099511627776 ≤ x ∧ x ≤ 1099511627776) → -1099511627776 * (l.length : Int) ≤ sm l ∧ sm l ≤ 1099511627776 * (l.length : Int)
  | [], _ => by simp [sm]
  | y :: ys, h => by
    have := h y (by simp)
    have := sm_fl (fun x hx => h x (List.mem_cons_of_mem _ hx) : ∀ x ∈ ys, _)
    simp only [sm, List.length_cons]; omega
theorem mean_l0 (g : Nat) (suf : List Int) : ∀ pre : List Int, (∀ x ∈ pre ++ suf, -1099511627776 ≤ x ∧ x ≤ 1099511627776) → (pre ++ suf).length ≤ 1000 → 0 < (pre ++ suf).length → g = Nat.gcd (sm (pre ++ suf)).natAbs (pre ++ suf).length →
    Ev (fun k => group_Mean.l0 k (pre ++ suf) (sm pre) (pre ++ suf) ((pre ++ suf).length : Int) (pre.length : Int)) (wrap64 (Int.tdiv (sm (pre ++ suf)) g), wrap64 (((pre ++ suf).length : Int) / g), 0) := by
  induction suf with
  | nil =>
    intro pre hb hl h0 hg
    rw [List.append_nil] at hb hl h0 hg ⊢
    have h1 := sm_fl hb
    have c := gcd_l0 pre.length (sm pre).natAbs
    rw [← hg] at c
    have hgp : 0 < g := by rw [hg]; exact Nat.gcd_pos_of_pos_right _ h0
    refine Ev.step (f := fun k => (group_gcd.f k ((sm pre).natAbs : Int) (pre.length : Int)).bind fun t128 => (if t128 = 0 then (none) else (some (wrap64 (Int.tdiv (sm pre) t128), wrap64 ((pre.length : Int) / t128), (0 : Int))))) (fun k => ?_) (Ev.bind c (Ev.congr (fun k => ?_) (Ev.now _)))
    · simp only [group_Mean.l0]
      rw [if_neg (by omega), w64 (x := -(sm pre)) (by omega) (by omega), show mx (sm pre) (-(sm pre)) = ((sm pre).natAbs : Int) from by unfold mx; split <;> omega]
    · rw [if_neg (by omega)]
  | cons y ys ih =>
    intro pre hb hl h0 hg
    have hl' : pre.length + (ys.length + 1) ≤ 1000 := by simpa using hl
    have hlt : (pre.length : Int) < ((pre ++ y :: ys).length : Int) := by simp; omega
    have h1 := sm_fl (fun x hx => hb x (List.mem_append_left _ hx) : ∀ x ∈ pre, _)
    have h2 := hb y (by simp)
    have i := ih (pre ++ [y]) (by simpa using hb) (by simpa using hl) (by simp; omega) (by simpa using hg)
    rw [show pre ++ [y] ++ ys = pre ++ y :: ys from by simp, sm_last] at i
    refine Ev.step (fun k => ?_) i
    simp only [group_Mean.l0, rd_at]
    rw [if_pos hlt, if_pos (by omega), if_pos hlt, w64 (x := sm pre + y) (by omega) (by omega), w64 (x := (pre.length : Int) + 1) (by omega) (by omega), len_next]
theorem fin_j7 (v : List Int) (x5 : Int) (R : List S50) (x11 : Int) (hR : R.length ≤ 1000000) (h : x11 ≠ 0) : Ev (fun k => mootlaw5_GroupSums.j7 k v x5 R x5 0 0 x11 x11 R) true := by
  refine Ev.step (f := fun k => (group_Group.f k R R).bind fun t145 => (if t145 = true then some true else some false)) (fun k => ?_) (Ev.bind (same R hR) (Ev.congr (fun k => by rw [if_pos rfl]) (Ev.now true)))
  simp only [mootlaw5_GroupSums.j7]
  rw [if_neg h, if_pos trivial]
  simp
theorem l2_end (v : List Int) (x5 : Int) (R : List S50) (x8 x9 : Int) (hR : R.length ≤ 1000000) (hv : ∀ x ∈ v, -1099511627776 ≤ x ∧ x ≤ 1099511627776) (hl : v.length ≤ 1000) (h0 : 0 < v.length)
    (h8 : x8 = wrap64 (Int.tdiv (sm v) (Nat.gcd (sm v).natAbs v.length : Nat))) (h9 : x9 = wrap64 (Int.tdiv (v.length : Int) (Nat.gcd (sm v).natAbs v.length : Nat))) (suf : List Int) : ∀ pre : List Int, v = pre ++ suf →
    Ev (fun k => mootlaw5_GroupSums.l2 k v x5 R x5 x8 x9 0 0 R (sm pre) v (v.length : Int) (pre.length : Int)) true := by
  induction suf with
  | nil =>
    intro pre e
    obtain rfl : v = pre := by simpa using e
    have hb := sm_fl hv
    have hlow := lowest_int (sm v) v.length (by omega) (by omega) hl h0
    rw [← h8, ← h9] at hlow
    refine Ev.step (f := fun k => (mootref5_Lowest.f k (sm v) (v.length : Int)).bind fun bt142 => (group_Group.f k R R).bind fun t144 => (if t144 = true then (if x8 = bt142.1 then (some (x9 == bt142.2)) else (some false)) else (some false))) (fun k => ?_) (Ev.bind hlow (Ev.bind (same R hR) (Ev.congr (fun k => ?_) (Ev.now true))))
    · simp only [mootlaw5_GroupSums.l2]
      rw [if_neg (by omega)]
      simp
    · simp
  | cons y ys ih =>
    intro pre e
    have hlen : v.length = pre.length + (ys.length + 1) := by rw [e]; simp
    have hlt : (pre.length : Int) < (v.length : Int) := by omega
    have hrd : rd v (pre.length : Int) = y := by rw [e]; exact rd_at pre y ys
    have h1 := sm_fl (fun x hx => hv x (by rw [e]; exact List.mem_append_left _ hx) : ∀ x ∈ pre, _)
    have h2 := hv y (by rw [e]; simp)
    have i := ih (pre ++ [y]) (by rw [e]; simp)
    rw [sm_last] at i
    refine Ev.step (fun k => ?_) i
    simp only [mootlaw5_GroupSums.l2, hrd]
    rw [if_pos hlt, if_pos (by omega), if_pos hlt, w64 (x := sm pre + y) (by omega) (by omega), w64 (x := (pre.length : Int) + 1) (by omega) (by omega), len_next]
theorem gfl : ∀ l : List Int, group_By.fl l = fl l
  | [] => rfl
  | y :: ys => by
    show (if _ then _ else _) = (if _ then _ else _)
    rw [gfl ys]
theorem uniq_len : ∀ K : List Int, (group_By.uniq K).length ≤ K.length
  | [] => Nat.le_refl _
  | x :: K => by
    have := uniq_len K
    unfold group_By.uniq
    by_cases c : x ∈ K
    · rw [if_pos c]; simp; omega
    · rw [if_neg c]; simp; omega
/-- Behind the groups: values that are right. -/
theorem fin_j5 (v : List Int) (x5 : Int) (R : List S50) (hR : R.length ≤ 1000000) (hf : fl v = 0) (hl : v.length ≤ 1000) : ∃ q, Ev (fun k => group_Mean.f k v) q ∧ Ev (fun k => mootlaw5_GroupSums.j5 k v x5 R x5 q.1 q.2.1 q.2.2 0 R) true := by
  have hc := check_small v hl
  rw [hf] at hc
  by_cases h0 : v.length = 0
  · have hz : (v.length : Int) = 0 := by omega
    refine ⟨(0, 0, 11), ?_, ?_⟩
    · unfold group_Mean.f
      refine Ev.bind hc (Ev.congr (fun k => ?_) (Ev.now _))
      rw [if_pos rfl, if_pos hz]
    · refine Ev.step (f := fun k => mootlaw5_GroupSums.j6 k v x5 R x5 0 0 11 0 R true) (fun k => ?_) (Ev.step (fun k => ?_) (fin_j7 v x5 R 11 hR (by omega)))
      · simp only [mootlaw5_GroupSums.j5]
        rw [if_pos trivial, hz]
        rfl
      · simp only [mootlaw5_GroupSums.j6]
        rw [if_pos trivial]
  · have hz : ¬ (v.length : Int) = 0 := by omega
    have hm := mean_l0 _ v [] (fl_ok hf) hl (by simpa using Nat.pos_of_ne_zero h0) rfl
    have e9 : ((v.length : Int) / (Nat.gcd (sm v).natAbs v.length : Nat)) = Int.tdiv (v.length : Int) (Nat.gcd (sm v).natAbs v.length : Nat) := (Int.tdiv_eq_ediv_of_nonneg (by omega)).symm
    simp only [List.nil_append] at hm
    rw [e9] at hm
    obtain ⟨A, hA⟩ : ∃ A, A = wrap64 (Int.tdiv (sm v) (Nat.gcd (sm v).natAbs v.length : Nat)) := ⟨_, rfl⟩
    obtain ⟨B, hB⟩ : ∃ B, B = wrap64 (Int.tdiv (v.length : Int) (Nat.gcd (sm v).natAbs v.length : Nat)) := ⟨_, rfl⟩
    rw [← hA, ← hB] at hm
    refine ⟨(A, B, 0), ?_, ?_⟩
    · unfold group_Mean.f
      refine Ev.bind hc (Ev.congr (fun k => ?_) hm)
      rw [if_pos rfl, if_neg hz]
      rfl
    · have h := l2_end v x5 R A B hR (fl_ok hf) hl (by omega) hA hB v [] (by simp)
      refine Ev.step (f := fun k => mootlaw5_GroupSums.j6 k v x5 R x5 A B 0 0 R false) (fun k => ?_) (Ev.step (f := fun k => mootlaw5_GroupSums.j7 k v x5 R x5 A B 0 0 R) (fun k => ?_) (Ev.step (fun k => ?_) h))
      · simp only [mootlaw5_GroupSums.j5]
        rw [if_pos trivial, show ((v.length : Int) == 0) = false from by simpa using h0]
      · simp only [mootlaw5_GroupSums.j6]
        rw [if_neg (by decide)]
      · simp only [mootlaw5_GroupSums.j7]
        rw [if_pos trivial]
        rfl
theorem GroupSums : mootlaw5_GroupSums.Pure := by
  intro keys v _ _ hkw _ _ _
  refine Ev.rounds ?_
  unfold mootlaw5_GroupSums.f
  have hwf : group_By.wf keys = true := List.all_eq_true.2 fun x hx => hkw x hx
  have bad : ∀ f, f ≠ 0 → group_By.f keys v = some ([], f) → Ev (fun k => group_Check.f k v) f → Ev (fun k => mootlaw5_listFault.f k v) f → Ev (fun k => group_Mean.f k v) (0, 0, f) → Ev (fun k => mootlaw5_GroupSums.f k keys v) true := by
    intro f h0 hby hc hf hm
    unfold mootlaw5_GroupSums.f
    refine Ev.bind hf ?_
    rw [hby]
    refine Ev.bind (Ev.now _) (Ev.bind hm (Ev.bind shared_true (Ev.congr (f := fun k => (group_Check.f k v).bind fun t127 => mootlaw5_GroupSums.j0 k keys v f [] f 0 0 f (t127 != f)) (fun k => by rw [if_pos rfl]) (Ev.bind hc ?_))))
    refine Ev.step (f := fun k => mootlaw5_GroupSums.j1 k keys v f [] f 0 0 f f false) (fun k => by simp only [mootlaw5_GroupSums.j0]; rw [show (f != f) = false from by simp, if_neg (by decide), if_neg h0]) ?_
    refine Ev.step (f := fun k => mootlaw5_GroupSums.j2 k keys v f [] f 0 0 f f) (fun k => by simp only [mootlaw5_GroupSums.j1]; rw [if_neg (by decide)]) ?_
    refine Ev.step (f := fun k => mootlaw5_GroupSums.j5 k v f [] f 0 0 f f []) (fun k => by simp only [mootlaw5_GroupSums.j2]; rw [if_neg h0]) ?_
    refine Ev.step (f := fun k => mootlaw5_GroupSums.j6 k v f [] f 0 0 f f [] false) (fun k => by simp only [mootlaw5_GroupSums.j5]; rw [if_neg h0]) ?_
    exact Ev.step (fun k => by simp only [mootlaw5_GroupSums.j6]; rw [if_neg (by decide)]) (fin_j7 v f [] f (by simp) h0)
  have mean_bad : ∀ f, f ≠ 0 → Ev (fun k => group_Check.f k v) f → Ev (fun k => group_Mean.f k v) (0, 0, f) := fun f h0 hc => by
    unfold group_Mean.f
    exact Ev.bind hc (Ev.congr (fun k => by rw [if_neg h0]) (Ev.now _))
  by_cases hl : v.length ≤ 1000
  · have hf := fault_small v hl
    have hc := check_small v hl
    rcases fl_cases v with h0 | h1
    · rw [h0] at hf hc
      by_cases he : keys.length = v.length
      · have hby : group_By.f keys v = some ((group_By.rows keys v).map group_By.toS, 0) := by
          unfold group_By.f
          rw [if_pos hwf, if_pos hl, if_pos (by rw [gfl]; exact h0), if_pos he]
        have hul := uniq_len keys
        have hul2 : (sortInts.s (group_By.uniq keys)).length ≤ 1000 := by rw [sort_len]; omega
        obtain ⟨q, hq, hend⟩ := fin_j5 v 0 ((group_By.rows keys v).map group_By.toS) (by unfold group_By.rows; simp; omega) h0 hl
        refine Ev.bind hf ?_
        rw [hby]
        refine Ev.bind (Ev.now _) (Ev.bind hq (Ev.bind shared_true (Ev.congr (f := fun k => (group_Check.f k v).bind fun t127 => mootlaw5_GroupSums.j0 k keys v 0 ((group_By.rows keys v).map group_By.toS) 0 q.1 q.2.1 q.2.2 (t127 != 0)) (fun k => by rw [if_pos rfl]) (Ev.bind hc ?_))))
        have hl0 := sums_l0 keys v 0 ((group_By.rows keys v).map group_By.toS) 0 q.1 q.2.1 q.2.2 0 true he hl (sortInts.s (group_By.uniq keys)) [] (by simpa using hul2) (by simpa [group_By.rows] using hend)
        refine Ev.step (f := fun k => mootlaw5_GroupSums.j1 k keys v 0 ((group_By.rows keys v).map group_By.toS) 0 q.1 q.2.1 q.2.2 0 false) (fun k => by simp only [mootlaw5_GroupSums.j0]; rw [show ((0 : Int) != 0) = false from rfl, if_neg (by decide), if_pos trivial, show ((keys.length : Int) != (v.length : Int)) = false from by simp [he]]) ?_
        refine Ev.step (f := fun k => mootlaw5_GroupSums.j2 k keys v 0 ((group_By.rows keys v).map group_By.toS) 0 q.1 q.2.1 q.2.2 0) (fun k => by simp only [mootlaw5_GroupSums.j1]; rw [if_neg (by decide)]) ?_
        refine Ev.step (fun k => ?_) hl0
        simp only [mootlaw5_GroupSums.j2]
        rw [if_pos trivial, seq_small keys (by omega)]
        show (compactInts.f _).bind _ = _
        unfold compactInts.f
        rw [if_pos (by rw [sort_len]; omega), compact_is]
        rfl
      · have hby : group_By.f keys v = some ([], 3) := by
          unfold group_By.f
          rw [if_pos hwf, if_pos hl, if_pos (by rw [gfl]; exact h0), if_neg he]
        obtain ⟨q, hq, hend⟩ := fin_j5 v 3 [] (by simp) h0 hl
        refine Ev.bind hf ?_
        rw [hby]
        refine Ev.bind (Ev.now _) (Ev.bind hq (Ev.bind shared_true (Ev.congr (f := fun k => (group_Check.f k v).bind fun t127 => mootlaw5_GroupSums.j0 k keys v 0 [] 3 q.1 q.2.1 q.2.2 (t127 != 0)) (fun k => by rw [if_pos rfl]) (Ev.bind hc ?_))))
        refine Ev.step (f := fun k => mootlaw5_GroupSums.j1 k keys v 0 [] 3 q.1 q.2.1 q.2.2 0 true) (fun k => by simp only [mootlaw5_GroupSums.j0]; rw [show ((0 : Int) != 0) = false from rfl, if_neg (by decide), if_pos trivial, show ((keys.length : Int) != (v.length : Int)) = true from by simp; omega]) ?_
        refine Ev.step (f := fun k => mootlaw5_GroupSums.j2 k keys v 3 [] 3 q.1 q.2.1 q.2.2 0) (fun k => by simp only [mootlaw5_GroupSums.j1]; rw [if_pos trivial]) ?_
        exact Ev.step (fun k => by simp only [mootlaw5_GroupSums.j2]; rw [if_neg (by decide)]) hend
    · rw [h1] at hf hc
      refine bad 1 (by omega) ?_ hc hf (mean_bad 1 (by omega) hc)
      unfold group_By.f
      rw [if_pos hwf, if_pos hl, if_neg (by rw [gfl, h1]; omega), gfl, h1]
  · refine bad 2 (by omega) ?_ (check_large v hl) (fault_large v hl) (mean_bad 2 (by omega) (check_large v hl))
    unfold group_By.f
    rw [if_pos hwf, if_neg hl]
end Go.Proofs.Ytihmanjgkjenbaa.Pure
