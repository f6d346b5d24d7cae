/- Chapter 53: the Gini ratio of values and the law's own reckoning of it agree. -/
import Derived.Test.YtihmanjgkjenbaaPGroupGinisx3
import Derived.Lib.Mul64
import Derived.OpenShut
import Derived.Laws.Bits64b
namespace Go.Proofs.Ytihmanjgkjenbaa.Pure
open Go.RowKit Go.Proofs.Ytihmanjgkjenbaa.PGroupGinis Go.Proofs.YtihmanjgkjenbaaW.PrintWords Go.Proofs.YtihmanjgkjenbaaW.PrintLast Go.Proofs.YtihmanjgkjenbaaW.PrintMore
theorem w64 {x : Int} (h0 : -9223372036854775808 ≤ x) (h1 : x < 9223372036854775808) : wrap64 x = x := by unfold wrap64; omega
theorem rd_at (pre : List Int) (y : Int) (suf : List Int) : rd (pre ++ y :: suf) (pre.length : Int) = y := by simp [rd]
theorem len_next (pre : List Int) (y : Int) : ((pre ++ [y]).length : Int) = (pre.length : Int) + 1 := by simp

/-- What the checks of values tell of values that are not too many. -/
def fl : List Int → Int
  | [] => 0
  | y :: ys => if y < -1099511627776 then 1 else if y > 1099511627776 then 1 else fl ys
theorem fl_cons (y : Int) (ys : List Int) : fl (y :: ys) = if y < -1099511627776 then 1 else if y > 1099511627776 then 1 else fl ys := rfl
theorem fl_ok : ∀ {l : List Int}, fl l = 0 → ∀ x ∈ l, -1099511627776 ≤ x ∧ x ≤ 1099511627776
  | [], _, x, hx => by cases hx
  | y :: ys, h, x, hx => by
    rw [fl_cons] at h
    by_cases c : y < -1099511627776
    · rw [if_pos c] at h; omega
    · rw [if_neg c] at h
      by_cases d : y > 1099511627776
      · rw [if_pos d] at h; omega
      · rw [if_neg d] at h
        rcases List.mem_cons.1 hx with e | hx
        · omega
        · exact fl_ok h x hx
theorem fl_cases : ∀ (l : List Int), fl l = 0 ∨ fl l = 1
  | [] => .inl rfl
  | y :: ys => by rw [fl_cons]; split; exact .inr rfl; split; exact .inr rfl; exact fl_cases ys

theorem check_l0 (suf : List Int) : ∀ pre : List Int, pre.length + suf.length ≤ 1000 → Ev (fun k => group_Check.l0 k (pre ++ suf) ((pre ++ suf).length : Int) (pre.length : Int)) (fl suf) := by
  induction suf with
  | nil =>
    intro pre hl
    refine ⟨1, fun k hk => ?_⟩
    obtain ⟨k, rfl⟩ : ∃ m, k = m + 1 := ⟨k - 1, by omega⟩
    simp only [group_Check.l0]
    rw [if_neg (by simp)]
    rfl
  | cons y ys ih =>
    intro pre hl
    have hl' : pre.length + (ys.length + 1) ≤ 1000 := hl
    have hlt : (pre.length : Int) < ((pre ++ y :: ys).length : Int) := by simp; omega
    rw [fl_cons]
    by_cases c : y < -1099511627776
    · refine ⟨1, fun k hk => ?_⟩
      obtain ⟨k, rfl⟩ : ∃ m, k = m + 1 := ⟨k - 1, by omega⟩
      simp only [group_Check.l0, rd_at]
      rw [if_pos hlt, if_pos (by omega), if_pos hlt, if_pos c, if_pos c]
    · by_cases d : y > 1099511627776
      · refine ⟨1, fun k hk => ?_⟩
        obtain ⟨k, rfl⟩ : ∃ m, k = m + 1 := ⟨k - 1, by omega⟩
        simp only [group_Check.l0, rd_at]
        rw [if_pos hlt, if_pos (by omega), if_pos hlt, if_neg c, if_pos d, if_neg c, if_pos d]
      · rw [if_neg c, if_neg d]
        refine Ev.step (fun k => ?_) (ih (pre ++ [y]) (by simp; omega))
        simp only [group_Check.l0, rd_at]
        rw [if_pos hlt, if_pos (by omega), if_pos hlt, if_neg c, if_neg d, w64 (by omega) (by omega), len_next]
        simp
theorem check_small (l : List Int) (h : l.length ≤ 1000) : Ev (fun k => group_Check.f k l) (fl l) := by
  refine Ev.congr (fun k => ?_) (check_l0 l [] (by simpa using h))
  unfold group_Check.f
  rw [if_neg (by omega)]
  rfl
theorem check_large (l : List Int) (h : ¬ l.length ≤ 1000) : Ev (fun k => group_Check.f k l) 2 := by
  refine Ev.congr (fun k => ?_) (Ev.now 2)
  unfold group_Check.f
  rw [if_pos (by omega)]

theorem sorted_eq : ∀ (a b : List Int), a.Pairwise (fun x y => x ≤ y) → b.Pairwise (fun x y => x ≤ y) → a.Perm b → a = b
  | [], b, _, _, h => by rw [List.nil_perm.1 h]
  | x :: xs, [], _, _, h => by have := h.length_eq; simp at this
  | x :: xs, y :: ys, ha, hb, h => by
    have h1 := List.pairwise_cons.1 ha
    have h2 := List.pairwise_cons.1 hb
    have hx : x ∈ y :: ys := h.mem_iff.1 (by simp)
    have hy : y ∈ x :: xs := h.mem_iff.2 (by simp)
    have e : x = y := by
      rcases List.mem_cons.1 hx with e | hx
      · exact e
      · rcases List.mem_cons.1 hy with e | hy
        · exact e.symm
        · have := h1.1 y hy
          have := h2.1 x hx
          omega
    subst e
    rw [sorted_eq xs ys h1.2 h2.2 (List.perm_cons x |>.1 h)]
theorem sort_perm (l : List Int) : (sortInts.s l).Perm l := List.mergeSort_perm l _
theorem sort_sorted (l : List Int) : (sortInts.s l).Pairwise (fun x y => x ≤ y) := by
  have := List.pairwise_mergeSort (le := fun (x y : Int) => decide (x ≤ y)) (by intro a b c; simp; omega) (by intro a b; simp; omega) l
  exact this.imp (by simp)
theorem sort_len (l : List Int) : (sortInts.s l).length = l.length := (sort_perm l).length_eq
theorem sort_is (l m : List Int) (h : m.Pairwise (fun x y => x ≤ y)) (hp : m.Perm l) : sortInts.s l = m := sorted_eq _ _ (sort_sorted l) h ((sort_perm l).trans hp.symm)
theorem seq_small (l : List Int) (h : l.length ≤ 1000) : sortedSeq.f l = some (sortInts.s l) := by
  unfold sortedSeq.f
  rw [if_pos (by omega)]

theorem gcd_l0 (b : Nat) : ∀ a : Nat, Ev (fun k => group_gcd.l0 k (a : Int) (b : Int)) (Nat.gcd a b : Nat) := by
  induction b using Nat.strongRecOn with
  | _ b ih =>
    intro a
    by_cases h : b = 0
    · subst h
      refine ⟨1, fun k hk => ?_⟩
      obtain ⟨k, rfl⟩ : ∃ m, k = m + 1 := ⟨k - 1, by omega⟩
      simp only [group_gcd.l0]
      rw [if_neg (by omega)]
      simp
    · have := ih (a % b) (Nat.mod_lt _ (by omega)) b
      rw [Nat.gcd_comm b (a % b), ← Nat.gcd_rec b a, Nat.gcd_comm b a] at this
      refine Ev.step (fun k => ?_) this
      simp only [group_gcd.l0]
      rw [if_pos (by omega), if_neg (by omega), Int.tmod_eq_emod_of_nonneg (by omega)]
      rfl
theorem lowest_l0 (x0 x1 : Int) (N : Nat) : ∀ a b : Nat, a + b ≤ N → a + b < 9223372036854775808 → 0 < a + b →
    Ev (fun k => mootref5_Lowest.l0 k x0 x1 (a : Int) (b : Int)) (wrap64 (Int.tdiv x0 (Nat.gcd a b : Nat)), wrap64 (Int.tdiv x1 (Nat.gcd a b : Nat))) := by
  induction N with
  | zero => intro a b h1 h2 h3; omega
  | succ N ih =>
    intro a b h1 h2 h3
    by_cases ha : a = 0
    · subst ha
      refine Ev.step (fun k => ?_) (Ev.step (fun k => ?_) (Ev.now _)) (f := fun k => mootref5_Lowest.j1 k x0 x1 (0 : Nat) (b : Int) false)
      · simp only [mootref5_Lowest.l0]
        rw [if_pos (by omega)]
      · simp only [mootref5_Lowest.j1]
        rw [if_neg (by decide), w64 (by omega) (by omega), if_neg (by omega)]
        simp
    · by_cases hb : b = 0
      · subst hb
        refine Ev.step (fun k => ?_) (Ev.step (fun k => ?_) (Ev.now _)) (f := fun k => mootref5_Lowest.j1 k x0 x1 (a : Int) (0 : Nat) false)
        · simp only [mootref5_Lowest.l0]
          rw [if_neg (by omega)]
          rfl
        · simp only [mootref5_Lowest.j1]
          rw [if_neg (by decide), w64 (by omega) (by omega), if_neg (by omega)]
          simp
      · have hne : (((b : Nat) : Int) != 0) = true := by rw [bne_iff_ne]; omega
        by_cases c : b < a
        · have h := ih (a % b) b (by have := Nat.mod_lt a (show 0 < b by omega); omega) (by have := Nat.mod_lt a (show 0 < b by omega); omega) (by omega)
          rw [show Nat.gcd (a % b) b = Nat.gcd a b from by rw [Nat.gcd_comm a b, Nat.gcd_rec b a]] at h
          refine Ev.step (fun k => ?_) (Ev.step (fun k => ?_) h) (f := fun k => mootref5_Lowest.j1 k x0 x1 (a : Int) (b : Int) true)
          · simp only [mootref5_Lowest.l0]
            rw [if_neg (by omega), hne]
          · simp only [mootref5_Lowest.j1]
            rw [if_pos trivial, if_pos (by omega), if_neg (by omega), Int.tmod_eq_emod_of_nonneg (by omega)]
            rfl
        · have h := ih a (b % a) (by have := Nat.mod_lt b (show 0 < a by omega); omega) (by have := Nat.mod_lt b (show 0 < a by omega); omega) (by omega)
          rw [show Nat.gcd a (b % a) = Nat.gcd a b from by rw [Nat.gcd_rec a b, Nat.gcd_comm]] at h
          refine Ev.step (fun k => ?_) (Ev.step (fun k => ?_) h) (f := fun k => mootref5_Lowest.j1 k x0 x1 (a : Int) (b : Int) true)
          · simp only [mootref5_Lowest.l0]
            rw [if_neg (by omega), hne]
          · simp only [mootref5_Lowest.j1]
            rw [if_pos trivial, if_neg (by omega), if_neg (by omega), Int.tmod_eq_emod_of_nonneg (by omega)]
            rfl
/-- A fraction that is not negative. -/
theorem lowest (a b : Nat) (h : a + b < 9223372036854775808) (h0 : 0 < b) : Ev (fun k => mootref5_Lowest.f k (a : Int) (b : Int)) (wrap64 (Int.tdiv (a : Int) (Nat.gcd a b : Nat)), wrap64 (Int.tdiv (b : Int) (Nat.gcd a b : Nat))) := by
  refine Ev.congr (fun k => ?_) (lowest_l0 (a : Int) (b : Int) (a + b) a b (Nat.le_refl _) h (by omega))
  unfold mootref5_Lowest.f
  rw [w64 (by omega) (by omega), show mx (a : Int) (-(a : Int)) = (a : Int) from by unfold mx; omega]

theorem fault_l0 (suf : List Int) : ∀ pre : List Int, pre.length + suf.length ≤ 1000 → Ev (fun k => mootlaw5_listFault.l0 k (pre ++ suf) ((pre ++ suf).length : Int) (pre.length : Int)) (fl suf) := by
  induction suf with
  | nil =>
    intro pre hl
    refine ⟨1, fun k hk => ?_⟩
    obtain ⟨k, rfl⟩ : ∃ m, k = m + 1 := ⟨k - 1, by omega⟩
    simp only [mootlaw5_listFault.l0]
    rw [if_neg (by simp)]
    rfl
  | cons y ys ih =>
    intro pre hl
    have hl' : pre.length + (ys.length + 1) ≤ 1000 := hl
    have hlt : (pre.length : Int) < ((pre ++ y :: ys).length : Int) := by simp; omega
    rw [fl_cons]
    by_cases d : y > 1099511627776
    · refine ⟨1, fun k hk => ?_⟩
      obtain ⟨k, rfl⟩ : ∃ m, k = m + 1 := ⟨k - 1, by omega⟩
      simp only [mootlaw5_listFault.l0, rd_at]
      rw [if_pos hlt, if_pos (by omega), if_pos hlt, if_pos d, if_neg (by omega), if_pos d]
    · by_cases c : y < -1099511627776
      · refine ⟨1, fun k hk => ?_⟩
        obtain ⟨k, rfl⟩ : ∃ m, k = m + 1 := ⟨k - 1, by omega⟩
        simp only [mootlaw5_listFault.l0, rd_at]
        rw [if_pos hlt, if_pos (by omega), if_pos hlt, if_neg d, if_pos c, if_pos c]
      · rw [if_neg c, if_neg d]
        refine Ev.step (fun k => ?_) (ih (pre ++ [y]) (by simp; omega))
        simp only [mootlaw5_listFault.l0, rd_at]
        rw [if_pos hlt, if_pos (by omega), if_pos hlt, if_neg d, if_neg c, w64 (by omega) (by omega), len_next]
        simp
theorem fault_small (l : List Int) (h : l.length ≤ 1000) : Ev (fun k => mootlaw5_listFault.f k l) (fl l) := by
  refine Ev.congr (fun k => ?_) (fault_l0 l [] (by simpa using h))
  unfold mootlaw5_listFault.f
  rw [if_neg (by omega)]
  rfl
theorem fault_large (l : List Int) (h : ¬ l.length ≤ 1000) : Ev (fun k => mootlaw5_listFault.f k l) 2 := by
  refine Ev.congr (fun k => ?_) (Ev.now 2)
  unfold mootlaw5_listFault.f
  rw [if_pos (by omega)]

theorem shared_true : Ev (fun k => mootlaw5_shared.f k) true := by
  have hs : sortInts.s [5, 1, 3, 9] = [1, 3, 5, 9] := sort_is _ _ (by simp) (by decide)
  have c := check_small [5, 1, 3, 9] (by simp)
  rw [show fl [5, 1, 3, 9] = 0 from by decide] at c
  have p : Ev (fun k => group_Part.f k [5, 1, 3, 9] 1 2) (3, 0) := by
    unfold group_Part.f
    refine Ev.bind c ?_
    refine Ev.congr (f := fun k => group_Part.j0 k [5, 1, 3, 9] 1 2 false) (fun k => ?_) ?_
    · rw [if_pos rfl, if_neg (by decide), if_neg (by decide), if_neg (by decide)]
      rfl
    · refine ⟨1, fun k hk => ?_⟩
      obtain ⟨k, rfl⟩ : ∃ m, k = m + 1 := ⟨k - 1, by omega⟩
      simp only [group_Part.j0, seq_small [5, 1, 3, 9] (by simp), hs]
      have e : wrap64 (wrap64 ((wrap64 (wrap64 (wrap64 (1 * (([1, 3, 5, 9] : List Int).length : Int)) + 2) - 1)).tdiv 2) - 1) = 1 := by decide +kernel
      rw [if_neg (by decide), if_neg (by decide)]
      show (if (2 : Int) = 0 then none else if 0 ≤ wrap64 (wrap64 ((wrap64 (wrap64 (wrap64 (1 * (([1, 3, 5, 9] : List Int).length : Int)) + 2) - 1)).tdiv 2) - 1) then _ else _) = _
      rw [if_neg (by decide), e]
      rfl
  unfold mootlaw5_shared.f
  refine Ev.bind p ?_
  exact Ev.now true

def sm : List Int → Int
  | [] => 0
  | y :: ys => y + sm ys
def dv (x : Int) : List Int → Int
  | [] => 0
  | y :: ys => mx (x - y) (y - x) + dv x ys
def pr : List Int → Int
  | [] => 0
  | y :: ys => dv y ys + pr ys
def Bd (l : List Int) : Prop := ∀ x ∈ l, 0 ≤ x ∧ x ≤ 1099511627776
theorem Bd.tail {y : Int} {ys : List Int} (h : Bd (y :: ys)) : Bd ys := fun x hx => h x (List.mem_cons_of_mem _ hx)
theorem Bd.head {y : Int} {ys : List Int} (h : Bd (y :: ys)) : 0 ≤ y ∧ y ≤ 1099511627776 := h y (by simp)
theorem mx_abs (a b : Int) : mx (a - b) (b - a) = mx (b - a) (a - b) := by unfold mx; omega
theorem mx_nn (a b : Int) : 0 ≤ mx (a - b) (b - a) := by unfold mx; omega
theorem sm_perm {a b : List Int} (h : a.Perm b) : sm a = sm b := by
  induction h with
  | nil => rfl
  | cons x _ ih => simp only [sm]; omega
  | swap x y l => simp only [sm]; omega
  | trans _ _ i j => exact i.trans j
theorem dv_perm (z : Int) {a b : List Int} (h : a.Perm b) : dv z a = dv z b := by
  induction h with
  | nil => rfl
  | cons x _ ih => simp only [dv]; omega
  | swap x y l => simp only [dv]; omega
  | trans _ _ i j => exact i.trans j
theorem pr_perm {a b : List Int} (h : a.Perm b) : pr a = pr b := by
  induction h with
  | nil => rfl
  | cons x h ih => simp only [pr]; rw [dv_perm x h]; omega
  | swap x y l => simp only [pr, dv]; rw [mx_abs x y]; omega
  | trans _ _ i j => exact i.trans j
theorem sm_last (l : List Int) (x : Int) : sm (l ++ [x]) = sm l + x := by
  rw [sm_perm (List.perm_append_comm : (l ++ [x]).Perm ([x] ++ l))]; simp [sm]; omega
theorem pr_last (l : List Int) (x : Int) : pr (l ++ [x]) = pr l + dv x l := by
  rw [pr_perm (List.perm_append_comm : (l ++ [x]).Perm ([x] ++ l))]; simp [pr]; omega
theorem dv_nn (x : Int) : ∀ l : List Int, 0 ≤ dv x l
  | [] => by simp [dv]
  | y :: ys => by have := dv_nn x ys; have := mx_nn x y; simp only [dv]; omega
theorem sm_bd : ∀ {l : List Int}, Bd l → 0 ≤ sm l ∧ sm l ≤ (l.length : Int) * 1099511627776
  | [], _ => by simp [sm]
  | y :: ys, h => by have := sm_bd h.tail; have := h.head; simp only [sm, List.length_cons]; omega
theorem dv_bd {x : Int} (hx : 0 ≤ x ∧ x ≤ 1099511627776) : ∀ {l : List Int}, Bd l → dv x l ≤ (l.length : Int) * 1099511627776
  | [], _ => by simp [dv]
  | y :: ys, h => by
    have := dv_bd hx h.tail
    have := h.head
    have : mx (x - y) (y - x) ≤ 1099511627776 := by unfold mx; omega
    simp only [dv, List.length_cons]; omega
theorem pr_bd : ∀ {l : List Int}, Bd l → l.length ≤ 1000 → 0 ≤ pr l ∧ pr l ≤ (l.length : Int) * 1099511627776000
  | [], _, _ => by simp [pr]
  | y :: ys, h, hl => by
    have hl' : ys.length + 1 ≤ 1000 := hl
    have := pr_bd h.tail (by omega)
    have := dv_bd h.head h.tail
    have := dv_nn y ys
    simp only [pr, List.length_cons]; omega
theorem dv_sorted (x : Int) : ∀ l : List Int, (∀ y ∈ l, y ≤ x) → dv x l = (l.length : Int) * x - sm l
  | [], _ => by simp [dv, sm]
  | y :: ys, h => by
    have h1 := dv_sorted x ys (fun z hz => h z (by simp [hz]))
    have h2 := h y (by simp)
    have h3 : mx (x - y) (y - x) = x - y := by unfold mx; omega
    simp only [dv, sm, List.length_cons]
    rw [h1, h3, Int.natCast_add, Int.add_mul]
    omega

def gini (l : List Int) : Int × Int × Int :=
  if sm l = 0 then (0, 0, 11) else (wrap64 (Int.tdiv (pr l) (Nat.gcd (pr l).toNat (sm l * l.length).toNat : Nat)), wrap64 (Int.tdiv (sm l * l.length) (Nat.gcd (pr l).toNat (sm l * l.length).toNat : Nat)), 0)
theorem prod_bd {l : List Int} (h : Bd l) (hl : l.length ≤ 1000) : 0 ≤ sm l * (l.length : Int) ∧ sm l * (l.length : Int) ≤ 1099511627776000000 := by
  have h1 := sm_bd h
  have h2 : sm l * (l.length : Int) ≤ sm l * 1000 := Int.mul_le_mul_of_nonneg_left (by omega) h1.1
  exact ⟨Int.mul_nonneg h1.1 (by omega), by omega⟩
theorem gini_l0 (s : List Int) (hs : Bd s) (hl : s.length ≤ 1000) (hp : s.Pairwise (fun x y => x ≤ y)) (suf : List Int) : ∀ pre : List Int, s = pre ++ suf →
    Ev (fun k => group_Gini.l0 k s (sm pre) (pr pre - ((s.length : Int) - pre.length) * sm pre) s (s.length : Int) (pre.length : Int)) (gini s) := by
  induction suf with
  | nil =>
    intro pre e
    obtain rfl : s = pre := by simpa using e
    have hb := prod_bd hs hl
    have hb1 := pr_bd hs hl
    by_cases c : sm s = 0
    · refine Ev.step (fun k => ?_) (Ev.now _)
      simp only [group_Gini.l0]
      rw [if_neg (by omega), if_pos c]
      unfold gini
      rw [if_pos c]
    · have hn0 : s ≠ [] := fun e => c (by rw [e]; rfl)
      have hn : 0 < s.length := List.length_pos_iff.2 hn0
      have h1 := sm_bd hs
      have hpos : 0 < sm s * (s.length : Int) := Int.mul_pos (by omega) (by omega)
      have hg := gcd_l0 (sm s * (s.length : Int)).toNat (pr s).toNat
      rw [Int.toNat_of_nonneg hb.1, Int.toNat_of_nonneg hb1.1] at hg
      have hgp : 0 < Nat.gcd (pr s).toNat (sm s * (s.length : Int)).toNat := Nat.gcd_pos_of_pos_right _ (by omega)
      refine Ev.step (fun k => ?_) (Ev.bind hg (f := fun _ (t108 : Int) => (if t108 = 0 then (none) else (some (wrap64 (Int.tdiv (pr s) t108), wrap64 (Int.tdiv (sm s * (s.length : Int)) t108), (0 : Int))))) ?_)
      · simp only [group_Gini.l0]
        rw [if_neg (by omega), if_neg c, w64 (x := sm s * (s.length : Int)) (by omega) (by omega), show (s.length : Int) - s.length = 0 from by omega, Int.zero_mul, Int.sub_zero]
        rfl
      · refine Ev.congr (fun k => ?_) (Ev.now _)
        unfold gini
        rw [if_neg c, if_neg (by omega)]
  | cons y ys ih =>
    intro pre e
    have hlen : s.length = pre.length + (ys.length + 1) := by rw [e]; simp
    have hbp : Bd pre := fun x hx => hs x (by rw [e]; simp [hx])
    have hy : 0 ≤ y ∧ y ≤ 1099511627776 := hs y (by rw [e]; simp)
    have h1 := sm_bd hbp
    have h2 := pr_bd hbp (by omega)
    have hd : dv y pre = (pre.length : Int) * y - sm pre := dv_sorted y pre (fun z hz => by
      rw [e] at hp
      exact (List.pairwise_append.1 hp).2.2 z hz y (by simp))
    have ihs := ih (pre ++ [y]) (by rw [e]; simp)
    have hrd : rd s (pre.length : Int) = y := by rw [e]; exact rd_at pre y ys
    have hlt : (pre.length : Int) < (s.length : Int) := by omega
    have b1 : ((s.length : Int) - pre.length) * sm pre ≤ 1000 * sm pre := Int.mul_le_mul_of_nonneg_right (by omega) h1.1
    have b2 : 0 ≤ ((s.length : Int) - pre.length) * sm pre := Int.mul_nonneg (by omega) h1.1
    have b3 : (2 * (pre.length : Int) + 1 - s.length) * y ≤ 2001 * y := Int.mul_le_mul_of_nonneg_right (by omega) hy.1
    have b4 : (-1000) * y ≤ (2 * (pre.length : Int) + 1 - s.length) * y := Int.mul_le_mul_of_nonneg_right (by omega) hy.1
    refine Ev.step (fun k => ?_) ihs
    simp only [group_Gini.l0, hrd]
    rw [if_pos hlt, if_pos (by omega), if_pos hlt, w64 (x := sm pre + y) (by omega) (by omega), w64 (x := 2 * (pre.length : Int)) (by omega) (by omega),
      w64 (x := 2 * (pre.length : Int) + 1) (by omega) (by omega), w64 (x := 2 * (pre.length : Int) + 1 - s.length) (by omega) (by omega),
      w64 (x := (2 * (pre.length : Int) + 1 - s.length) * y) (by omega) (by omega), w64 (x := (pre.length : Int) + 1) (by omega) (by omega),
      w64 (x := pr pre - ((s.length : Int) - pre.length) * sm pre + (2 * (pre.length : Int) + 1 - s.length) * y) (by omega) (by omega), sm_last, pr_last, hd, len_next]
    congr 1
    simp only [Int.sub_mul, Int.add_mul, Int.mul_add, Int.mul_assoc, Int.one_mul, ← Int.sub_sub]
    omega
theorem gini_ok (l : List Int) (hb : Bd l) (hl : l.length ≤ 1000) (hf : fl l = 0) : Ev (fun k => group_Gini.f k l) (gini l) := by
  have hs := sort_perm l
  have hn : (sortInts.s l).length = l.length := sort_len l
  have hbs : Bd (sortInts.s l) := fun x hx => hb x (hs.mem_iff.1 hx)
  have c := check_small l hl
  rw [hf] at c
  have h0 := gini_l0 (sortInts.s l) hbs (by omega) (sort_sorted l) (sortInts.s l) [] (by simp)
  have eg : gini (sortInts.s l) = gini l := by
    unfold gini
    rw [sm_perm hs, pr_perm hs, hn]
  rw [eg] at h0
  unfold group_Gini.f
  refine Ev.bind c ?_
  refine Ev.congr (f := fun k => group_Gini.j0 k (sortInts.s l) false) (fun k => ?_) (Ev.step (fun k => ?_) h0)
  · rw [if_pos rfl, seq_small l hl]
    show (if _ then _ else _) = _
    by_cases d : ((sortInts.s l).length : Int) > 0
    · rw [if_pos d, if_pos d]
      have : 0 ≤ rd (sortInts.s l) 0 := by
        cases e : sortInts.s l with
        | nil => rw [e] at d; simp at d
        | cons y ys => rw [e] at hbs; simpa [rd] using hbs.head.1
      rw [show decide (rd (sortInts.s l) 0 < 0) = false from by simpa using this]
    · rw [if_neg d]
  · simp only [group_Gini.j0]
    rw [if_neg (by decide)]
    simp [sm, pr]
theorem gini_neg (l : List Int) (hl : l.length ≤ 1000) (hf : fl l = 0) (h : ∃ x ∈ l, x < 0) : Ev (fun k => group_Gini.f k l) (0, 0, 1) := by
  obtain ⟨x, hx, h⟩ := h
  have hs := sort_perm l
  have c := check_small l hl
  rw [hf] at c
  unfold group_Gini.f
  refine Ev.bind c ?_
  refine Ev.congr (f := fun k => group_Gini.j0 k (sortInts.s l) true) (fun k => ?_) (Ev.step (fun k => ?_) (Ev.now _))
  · rw [if_pos rfl, seq_small l hl]
    show (if _ then _ else _) = _
    have hx' := hs.mem_iff.2 hx
    have hp := sort_sorted l
    have d : ((sortInts.s l).length : Int) > 0 := by
      have := List.length_pos_iff.2 (List.ne_nil_of_mem hx')
      omega
    rw [if_pos d, if_pos d]
    have : rd (sortInts.s l) 0 < 0 := by
      cases e : sortInts.s l with
      | nil => rw [e] at d; simp at d
      | cons y ys =>
        rw [e] at hx' hp
        have : y < 0 := by
          rcases List.mem_cons.1 hx' with e | hx'
          · omega
          · have := (List.pairwise_cons.1 hp).1 x hx'
            omega
        simpa [rd] using this
    rw [show decide (rd (sortInts.s l) 0 < 0) = true from by simpa using this]
  · simp only [group_Gini.j0]
    rw [if_pos trivial]
theorem gini_small (l : List Int) (hl : l.length ≤ 1000) (hf : fl l = 1) : Ev (fun k => group_Gini.f k l) (0, 0, 1) := by
  have c := check_small l hl
  rw [hf] at c
  unfold group_Gini.f
  refine Ev.bind c ?_
  refine Ev.congr (fun k => ?_) (Ev.now _)
  rw [if_neg (by decide)]
theorem gini_large (l : List Int) (hl : ¬ l.length ≤ 1000) : Ev (fun k => group_Gini.f k l) (0, 0, 2) := by
  unfold group_Gini.f
  refine Ev.bind (check_large l hl) ?_
  refine Ev.congr (fun k => ?_) (Ev.now _)
  rw [if_neg (by decide)]

theorem end_bad (l : List Int) (f x7 x8 : Int) (h : f ≠ 0) : Ev (fun k => mootlaw5_GroupGinis.j4 k l 0 0 f f x7 x8) true := by
  refine Ev.step (fun k => ?_) (Ev.step (f := fun k => mootlaw5_GroupGinis.j6 k l 0 0 f f x7 x8 0 0) (fun k => ?_) (Ev.step (f := fun k => (mootlaw5_shared.f k).bind fun t130 => (if t130 = true then (some true) else (some false))) (fun k => ?_) (Ev.bind shared_true ?_))) (f := fun k => mootlaw5_GroupGinis.j5 k l 0 0 f f x7 x8 0 0 false)
  · simp only [mootlaw5_GroupGinis.j4]
    rw [if_neg h]
  · simp only [mootlaw5_GroupGinis.j5]
    rw [if_neg (by decide)]
  · simp only [mootlaw5_GroupGinis.j6]
    rw [if_neg h]
    rfl
  · exact Ev.now true
theorem end_zero (l : List Int) (x8 : Int) : Ev (fun k => mootlaw5_GroupGinis.j4 k l 0 0 11 0 0 x8) true := by
  refine Ev.step (fun k => ?_) (Ev.step (f := fun k => mootlaw5_GroupGinis.j6 k l 0 0 11 11 0 x8 0 0) (fun k => ?_) (Ev.step (f := fun k => (mootlaw5_shared.f k).bind fun t130 => (if t130 = true then (some true) else (some false))) (fun k => ?_) (Ev.bind shared_true ?_))) (f := fun k => mootlaw5_GroupGinis.j5 k l 0 0 11 0 0 x8 0 0 true)
  · simp only [mootlaw5_GroupGinis.j4]
    rfl
  · simp only [mootlaw5_GroupGinis.j5]
    rw [if_pos trivial]
  · simp only [mootlaw5_GroupGinis.j6]
    rfl
  · exact Ev.now true
theorem end_ok (l : List Int) (hb : Bd l) (hl : l.length ≤ 1000) : Ev (fun k => mootlaw5_GroupGinis.j4 k l (gini l).1 (gini l).2.1 (gini l).2.2 0 (sm l) (pr l)) true := by
  by_cases c : sm l = 0
  · rw [show gini l = (0, 0, 11) from by unfold gini; rw [if_pos c], c]
    exact end_zero l (pr l)
  · have h1 := sm_bd hb
    have h2 := prod_bd hb hl
    have h3 := pr_bd hb hl
    have hn0 : l ≠ [] := fun e => c (by rw [e]; rfl)
    have hn : 0 < l.length := List.length_pos_iff.2 hn0
    have hpos : 0 < sm l * (l.length : Int) := Int.mul_pos (by omega) (by omega)
    have hlow := lowest (pr l).toNat (sm l * (l.length : Int)).toNat (by omega) (by omega)
    rw [Int.toNat_of_nonneg h2.1, Int.toNat_of_nonneg h3.1] at hlow
    rw [show gini l = _ from by unfold gini; rw [if_neg c]]
    generalize hA : wrap64 (Int.tdiv (pr l) (Nat.gcd (pr l).toNat (sm l * (l.length : Int)).toNat : Nat)) = A at hlow ⊢
    generalize hB : wrap64 (Int.tdiv (sm l * (l.length : Int)) (Nat.gcd (pr l).toNat (sm l * (l.length : Int)).toNat : Nat)) = B at hlow ⊢
    refine Ev.step (fun k => ?_) (Ev.step (f := fun k => mootlaw5_GroupGinis.j6 k l A B 0 0 (sm l) (pr l) 0 0) (fun k => ?_) (Ev.step (f := fun k => (mootref5_Lowest.f k (pr l) (sm l * (l.length : Int))).bind fun bt127 => ((mootlaw5_shared.f k).bind fun t129 => (if t129 = true then (if A = bt127.1 then (some (B == bt127.2)) else (some false)) else (some false)))) (fun k => ?_) (Ev.bind hlow (Ev.bind shared_true (Ev.congr (fun k => ?_) (Ev.now true)))))) (f := fun k => mootlaw5_GroupGinis.j5 k l A B 0 0 (sm l) (pr l) 0 0 false) (g := fun k => mootlaw5_GroupGinis.j4 k l A B 0 0 (sm l) (pr l))
    · simp only [mootlaw5_GroupGinis.j4]
      rw [if_pos trivial, show (sm l == 0) = false from by simpa using c]
    · simp only [mootlaw5_GroupGinis.j5]
      rw [if_neg (by decide)]
    · simp only [mootlaw5_GroupGinis.j6]
      rw [if_pos trivial, w64 (x := sm l * (l.length : Int)) (by omega) (by omega)]
      rfl
    · simp
theorem l1_step (l : List Int) (x3 x4 x5 x7 x x25 : Int) (r : Bool) (hx : 0 ≤ x ∧ x ≤ 1099511627776) (q2 : List Int) : ∀ (q1 : List Int) (a : Int), Bd (q1 ++ q2) → (q1 ++ q2).length ≤ 1000 → 0 ≤ a → a + dv x q2 < 4611686018427387904 →
    Ev (fun k => mootlaw5_GroupGinis.l0 k l x3 x4 x5 0 x7 (a + dv x q2) l (l.length : Int) (wrap64 (x25 + 1))) r →
    Ev (fun k => mootlaw5_GroupGinis.l1 k l x3 x4 x5 0 x7 a x l (l.length : Int) x25 (q1 ++ q2) ((q1 ++ q2).length : Int) (q1.length : Int)) r := by
  induction q2 with
  | nil =>
    intro q1 a hb hl h0 h1 h
    refine Ev.step (fun k => ?_) h
    simp only [mootlaw5_GroupGinis.l1]
    rw [if_neg (by simp)]
    simp [dv]
  | cons y ys ih =>
    intro q1 a hb hl h0 h1 h
    have hl' : q1.length + (ys.length + 1) ≤ 1000 := by simpa using hl
    have hlt : (q1.length : Int) < ((q1 ++ y :: ys).length : Int) := by simp; omega
    have hy := hb y (by simp)
    have hn := mx_nn x y
    have hn2 := dv_nn x ys
    simp only [dv] at h1 h
    have i := ih (q1 ++ [y]) (a + mx (x - y) (y - x)) (by simpa using hb) (by simpa using hl) (by omega) (by omega) (by rw [Int.add_assoc]; exact h)
    refine Ev.step (fun k => ?_) i
    simp only [mootlaw5_GroupGinis.l1, rd_at]
    rw [if_pos hlt, if_pos (by omega), if_pos hlt, w64 (x := x - y) (by omega) (by omega), w64 (x := y - x) (by omega) (by omega), w64 (x := a + mx (x - y) (y - x)) (by omega) (by omega), w64 (x := (q1.length : Int) + 1) (by omega) (by omega), len_next]
    simp
theorem l0_step (pre : List Int) (y : Int) (suf : List Int) (x3 x4 x5 : Int) (r : Bool) (hb : Bd (pre ++ [y])) (hl : (pre ++ y :: suf).length ≤ 1000)
    (h : Ev (fun k => mootlaw5_GroupGinis.l0 k (pre ++ y :: suf) x3 x4 x5 0 (sm (pre ++ [y])) (pr (pre ++ [y])) (pre ++ y :: suf) ((pre ++ y :: suf).length : Int) ((pre ++ [y]).length : Int)) r) :
    Ev (fun k => mootlaw5_GroupGinis.l0 k (pre ++ y :: suf) x3 x4 x5 0 (sm pre) (pr pre) (pre ++ y :: suf) ((pre ++ y :: suf).length : Int) (pre.length : Int)) r := by
  have hl' : pre.length + (suf.length + 1) ≤ 1000 := by simpa using hl
  have hlt : (pre.length : Int) < ((pre ++ y :: suf).length : Int) := by simp; omega
  have hle : (pre.length : Int) ≤ ((pre ++ y :: suf).length : Int) := by omega
  have hbp : Bd pre := fun x hx => hb x (by simp [hx])
  have hy := hb y (by simp)
  have h1 := sm_bd hbp
  have h2 := pr_bd hbp (by omega)
  have h3 := dv_bd hy hbp
  have h4 := dv_nn y pre
  have i := l1_step (pre ++ y :: suf) x3 x4 x5 (sm (pre ++ [y])) y (pre.length : Int) r hy pre [] (pr pre) (by simpa using hbp) (by simp; omega) (by omega) (by omega) (by
    rw [w64 (x := (pre.length : Int) + 1) (by omega) (by omega), ← len_next pre y, ← pr_last]; exact h)
  refine Ev.step (fun k => ?_) (Ev.step (f := fun k => mootlaw5_GroupGinis.j2 k (pre ++ y :: suf) x3 x4 x5 0 (sm pre) (pr pre) (pre.length : Int) y (pre ++ y :: suf) ((pre ++ y :: suf).length : Int) (pre.length : Int)) (fun k => ?_) (Ev.step (fun k => ?_) i)) (f := fun k => mootlaw5_GroupGinis.j1 k (pre ++ y :: suf) x3 x4 x5 0 (sm pre) (pr pre) (pre.length : Int) y (pre ++ y :: suf) ((pre ++ y :: suf).length : Int) (pre.length : Int) false)
  · simp only [mootlaw5_GroupGinis.l0, rd_at]
    rw [if_pos hlt, if_pos (by omega), if_pos hlt, if_pos trivial, show decide (y < 0) = false from by simpa using hy.1]
  · simp only [mootlaw5_GroupGinis.j1]
    rw [if_neg (by decide)]
  · simp only [mootlaw5_GroupGinis.j2]
    rw [if_pos trivial, if_pos (by omega), if_pos hle, w64 (x := sm pre + y) (by omega) (by omega), sm_last, Int.toNat_natCast, List.take_left]
    simp
theorem law_ok (suf : List Int) (x3 x4 x5 : Int) (r : Bool) : ∀ pre : List Int, Bd (pre ++ suf) → (pre ++ suf).length ≤ 1000 → Ev (fun k => mootlaw5_GroupGinis.j4 k (pre ++ suf) x3 x4 x5 0 (sm (pre ++ suf)) (pr (pre ++ suf))) r →
    Ev (fun k => mootlaw5_GroupGinis.l0 k (pre ++ suf) x3 x4 x5 0 (sm pre) (pr pre) (pre ++ suf) ((pre ++ suf).length : Int) (pre.length : Int)) r := by
  induction suf with
  | nil =>
    intro pre hb hl h
    refine Ev.step (fun k => ?_) h
    simp only [mootlaw5_GroupGinis.l0]
    rw [if_neg (by simp)]
    simp
  | cons y ys ih =>
    intro pre hb hl h
    refine l0_step pre y ys x3 x4 x5 r (fun x hx => hb x (by simp at hx ⊢; rcases hx with h | h; exact .inl h; exact .inr (.inl h))) hl ?_
    have := ih (pre ++ [y]) (by simpa using hb) (by simpa using hl) (by simpa using h)
    simpa using this
theorem law_neg (suf : List Int) : ∀ pre : List Int, Bd pre → fl (pre ++ suf) = 0 → (∃ x ∈ suf, x < 0) → (pre ++ suf).length ≤ 1000 →
    Ev (fun k => mootlaw5_GroupGinis.l0 k (pre ++ suf) 0 0 1 0 (sm pre) (pr pre) (pre ++ suf) ((pre ++ suf).length : Int) (pre.length : Int)) true := by
  induction suf with
  | nil => intro pre hb hf h hl; obtain ⟨x, hx, _⟩ := h; cases hx
  | cons y ys ih =>
    intro pre hb hf h hl
    by_cases c : y < 0
    · have hl' : pre.length + (ys.length + 1) ≤ 1000 := by simpa using hl
      have hlt : (pre.length : Int) < ((pre ++ y :: ys).length : Int) := by simp; omega
      refine Ev.step (fun k => ?_) (Ev.step (f := fun k => mootlaw5_GroupGinis.j2 k (pre ++ y :: ys) 0 0 1 1 (sm pre) (pr pre) (pre.length : Int) y (pre ++ y :: ys) ((pre ++ y :: ys).length : Int) (pre.length : Int)) (fun k => ?_) (Ev.step (fun k => ?_) (end_bad (pre ++ y :: ys) 1 (sm pre) (pr pre) (by omega)))) (f := fun k => mootlaw5_GroupGinis.j1 k (pre ++ y :: ys) 0 0 1 0 (sm pre) (pr pre) (pre.length : Int) y (pre ++ y :: ys) ((pre ++ y :: ys).length : Int) (pre.length : Int) true)
      · simp only [mootlaw5_GroupGinis.l0, rd_at]
        rw [if_pos hlt, if_pos (by omega), if_pos hlt, if_pos trivial, show decide (y < 0) = true from by simpa using c]
      · simp only [mootlaw5_GroupGinis.j1]
        rw [if_pos trivial]
      · simp only [mootlaw5_GroupGinis.j2]
        rw [if_neg (by decide)]
    · have hy := fl_ok hf y (by simp)
      refine l0_step pre y ys 0 0 1 true (fun x hx => ?_) hl ?_
      · rcases List.mem_append.1 hx with h | h
        · exact hb x h
        · have : x = y := by simpa using h
          omega
      · have hb' : Bd (pre ++ [y]) := fun x hx => by
          rcases List.mem_append.1 hx with h | h
          · exact hb x h
          · have : x = y := by simpa using h
            omega
        obtain ⟨x, hx, hneg⟩ := h
        have hx' : x ∈ ys := by
          rcases List.mem_cons.1 hx with e | hx
          · omega
          · exact hx
        have := ih (pre ++ [y]) hb' (by simpa using hf) ⟨x, hx', hneg⟩ (by simpa using hl)
        simpa using this
theorem law_bad (l : List Int) (f : Int) (hf : f ≠ 0) (hl : l ≠ []) : Ev (fun k => mootlaw5_GroupGinis.l0 k l 0 0 f f 0 0 l (l.length : Int) 0) true := by
  have hn : (0 : Int) < (l.length : Int) := by have := List.length_pos_iff.2 hl; omega
  refine Ev.step (fun k => ?_) (Ev.step (f := fun k => mootlaw5_GroupGinis.j2 k l 0 0 f f 0 0 0 (rd l 0) l (l.length : Int) 0) (fun k => ?_) (Ev.step (fun k => ?_) (end_bad l f 0 0 hf))) (f := fun k => mootlaw5_GroupGinis.j1 k l 0 0 f f 0 0 0 (rd l 0) l (l.length : Int) 0 false)
  · simp only [mootlaw5_GroupGinis.l0]
    rw [if_pos hn, if_pos (by omega), if_pos hn, if_neg hf]
  · simp only [mootlaw5_GroupGinis.j1]
    rw [if_neg (by decide)]
  · simp only [mootlaw5_GroupGinis.j2]
    rw [if_neg hf]
theorem GroupGinis : mootlaw5_GroupGinis.Pure := by
  intro l _ _ _
  refine Ev.rounds ?_
  unfold mootlaw5_GroupGinis.f
  by_cases hl : l.length ≤ 1000
  · have hf := fault_small l hl
    rcases fl_cases l with h0 | h1
    · rw [h0] at hf
      by_cases hneg : ∃ x ∈ l, x < 0
      · exact Ev.bind (gini_neg l hl h0 hneg) (Ev.bind hf (law_neg l [] (fun x hx => by cases hx) (by simpa using h0) hneg (by simpa using hl)))
      · have hb : Bd l := fun x hx => ⟨Int.not_lt.1 fun h => hneg ⟨x, hx, h⟩, (fl_ok h0 x hx).2⟩
        exact Ev.bind (gini_ok l hb hl h0) (Ev.bind hf (law_ok l _ _ _ true [] (by simpa using hb) (by simpa using hl) (by simpa using end_ok l hb hl)))
    · rw [h1] at hf
      exact Ev.bind (gini_small l hl h1) (Ev.bind hf (law_bad l 1 (by omega) (fun e => by rw [e] at h1; simp [fl] at h1)))
  · exact Ev.bind (gini_large l hl) (Ev.bind (fault_large l hl) (law_bad l 2 (by omega) (fun e => by rw [e] at hl; simp at hl)))
end Go.Proofs.Ytihmanjgkjenbaa.Pure
