/- Chapter 53: the Gini ratio is from 0 to below 1, 0 for equal values, and bears multiplying all values. -/
import Derived.Test.YtihmanjgkjenbaaPGroupRatiosx2
import Derived.Lib.Mul64
import Derived.OpenShut
import Derived.Laws.Bits64b
namespace Go.Proofs.Ytihmanjgkjenbaa.Pure
open Go.RowKit Go.Proofs.Ytihmanjgkjenbaa.PGroupRatios Go.Proofs.YtihmanjgkjenbaaW.PrintWords Go.Proofs.YtihmanjgkjenbaaW.PrintLast Go.Proofs.YtihmanjgkjenbaaW.PrintMore
theorem w64 {x : Int} (h0 : -9223372036854775808 ≤ x) (h1 : x < 9223372036854775808) : wrap64 x = x := by unfold wrap64; omega
theorem rd_at (pre : List Int) (y : Int) (suf : List Int) : rd (pre ++ y :: suf) (pre.length : Int) = y := by simp [rd]
theorem len_next (pre : List Int) (y : Int) : ((pre ++ [y]).length : Int) = (pre.length : Int) + 1 := by simp

/-- What the checks of values tell of values that are not too many. -/
def fl : List Int → Int
  | [] => 0
  | y :: ys => if y < -1099511627776 then 1 else if y > 1099511627776 then 1 else fl ys
theorem fl_cons (y : Int) (ys : List Int) : fl (y :: ys) = if y < -1099511627776 then 1 else if y > 1099511627776 then 1 else fl ys := rfl
theorem fl_ok : ∀ {l : List Int}, fl l = 0 → ∀ x ∈ l, -1099511627776 ≤ x ∧ x ≤ 1099511627776
  | [], _, x, hx => by cases hx
  | y :: ys, h, x, hx => by
    rw [fl_cons] at h
    by_cases c : y < -1099511627776
    · rw [if_pos c] at h; omega
    · rw [if_neg c] at h
      by_cases d : y > 1099511627776
      · rw [if_pos d] at h; omega
      · rw [if_neg d] at h
        rcases List.mem_cons.1 hx with e | hx
        · omega
        · exact fl_ok h x hx
theorem fl_cases : ∀ (l : List Int), fl l = 0 ∨ fl l = 1
  | [] => .inl rfl
  | y :: ys => by rw [fl_cons]; split; exact .inr rfl; split; exact .inr rfl; exact fl_cases ys

theorem check_l0 (suf : List Int) : ∀ pre : List Int, pre.length + suf.length ≤ 1000 → Ev (fun k => group_Check.l0 k (pre ++ suf) ((pre ++ suf).length : Int) (pre.length : Int)) (fl suf) := by
  induction suf with
  | nil =>
    intro pre hl
    refine ⟨1, fun k hk => ?_⟩
    obtain ⟨k, rfl⟩ : ∃ m, k = m + 1 := ⟨k - 1, by omega⟩
    simp only [group_Check.l0]
    rw [if_neg (by simp)]
    rfl
  | cons y ys ih =>
    intro pre hl
    have hl' : pre.length + (ys.length + 1) ≤ 1000 := hl
    have hlt : (pre.length : Int) < ((pre ++ y :: ys).length : Int) := by simp; omega
    rw [fl_cons]
    by_cases c : y < -1099511627776
    · refine ⟨1, fun k hk => ?_⟩
      obtain ⟨k, rfl⟩ : ∃ m, k = m + 1 := ⟨k - 1, by omega⟩
      simp only [group_Check.l0, rd_at]
      rw [if_pos hlt, if_pos (by omega), if_pos hlt, if_pos c, if_pos c]
    · by_cases d : y > 1099511627776
      · refine ⟨1, fun k hk => ?_⟩
        obtain ⟨k, rfl⟩ : ∃ m, k = m + 1 := ⟨k - 1, by omega⟩
        simp only [group_Check.l0, rd_at]
        rw [if_pos hlt, if_pos (by omega), if_pos hlt, if_neg c, if_pos d, if_neg c, if_pos d]
      · rw [if_neg c, if_neg d]
        refine Ev.step (fun k => ?_) (ih (pre ++ [y]) (by simp; omega))
        simp only [group_Check.l0, rd_at]
        rw [if_pos hlt, if_pos (by omega), if_pos hlt, if_neg c, if_neg d, w64 (by omega) (by omega), len_next]
        simp
theorem check_small (l : List Int) (h : l.length ≤ 1000) : Ev (fun k => group_Check.f k l) (fl l) := by
  refine Ev.congr (fun k => ?_) (check_l0 l [] (by simpa using h))
  unfold group_Check.f
  rw [if_neg (by omega)]
  rfl
theorem check_large (l : List Int) (h : ¬ l.length ≤ 1000) : Ev (fun k => group_Check.f k l) 2 := by
  refine Ev.congr (fun k => ?_) (Ev.now 2)
  unfold group_Check.f
  rw [if_pos (by omega)]

theorem sorted_eq : ∀ (a b : List Int), a.Pairwise (fun x y => x ≤ y) → b.Pairwise (fun x y => x ≤ y) → a.Perm b → a = b
  | [], b, _, _, h => by rw [List.nil_perm.1 h]
  | x :: xs, [], _, _, h => by have := h.length_eq; simp at this
  | x :: xs, y :: ys, ha, hb, h => by
    have h1 := List.pairwise_cons.1 ha
    have h2 := List.pairwise_cons.1 hb
    have hx : x ∈ y :: ys := h.mem_iff.1 (by simp)
    have hy : y ∈ x :: xs := h.mem_iff.2 (by simp)
    have e : x = y := by
      rcases List.mem_cons.1 hx with e | hx
      · exact e
      · rcases List.mem_cons.1 hy with e | hy
        · exact e.symm
        · have := h1.1 y hy
          have := h2.1 x hx
          omega
    subst e
    rw [sorted_eq xs ys h1.2 h2.2 (List.perm_cons x |>.1 h)]
theorem sort_perm (l : List Int) : (sortInts.s l).Perm l := List.mergeSort_perm l _
theorem sort_sorted (l : List Int) : (sortInts.s l).Pairwise (fun x y => x ≤ y) := by
  have := List.pairwise_mergeSort (le := fun (x y : Int) => decide (x ≤ y)) (by intro a b c; simp; omega) (by intro a b; simp; omega) l
  exact this.imp (by simp)
theorem sort_len (l : List Int) : (sortInts.s l).length = l.length := (sort_perm l).length_eq
theorem sort_is (l m : List Int) (h : m.Pairwise (fun x y => x ≤ y)) (hp : m.Perm l) : sortInts.s l = m := sorted_eq _ _ (sort_sorted l) h ((sort_perm l).trans hp.symm)
theorem seq_small (l : List Int) (h : l.length ≤ 1000) : sortedSeq.f l = some (sortInts.s l) := by
  unfold sortedSeq.f
  rw [if_pos (by omega)]

theorem gcd_l0 (b : Nat) : ∀ a : Nat, Ev (fun k => group_gcd.l0 k (a : Int) (b : Int)) (Nat.gcd a b : Nat) := by
  induction b using Nat.strongRecOn with
  | _ b ih =>
    intro a
    by_cases h : b = 0
    · subst h
      refine ⟨1, fun k hk => ?_⟩
      obtain ⟨k, rfl⟩ : ∃ m, k = m + 1 := ⟨k - 1, by omega⟩
      simp only [group_gcd.l0]
      rw [if_neg (by omega)]
      simp
    · have := ih (a % b) (Nat.mod_lt _ (by omega)) b
      rw [Nat.gcd_comm b (a % b), ← Nat.gcd_rec b a, Nat.gcd_comm b a] at this
      refine Ev.step (fun k => ?_) this
      simp only [group_gcd.l0]
      rw [if_pos (by omega), if_neg (by omega), Int.tmod_eq_emod_of_nonneg (by omega)]
      rfl

def sm : List Int → Int
  | [] => 0
  | y :: ys => y + sm ys
def dv (x : Int) : List Int → Int
  | [] => 0
  | y :: ys => mx (x - y) (y - x) + dv x ys
def pr : List Int → Int
  | [] => 0
  | y :: ys => dv y ys + pr ys
def Bd (l : List Int) : Prop := ∀ x ∈ l, 0 ≤ x ∧ x ≤ 1099511627776
theorem Bd.tail {y : Int} {ys : List Int} (h : Bd (y :: ys)) : Bd ys := fun x hx => h x (List.mem_cons_of_mem _ hx)
theorem Bd.head {y : Int} {ys : List Int} (h : Bd (y :: ys)) : 0 ≤ y ∧ y ≤ 1099511627776 := h y (by simp)
theorem mx_abs (a b : Int) : mx (a - b) (b - a) = mx (b - a) (a - b) := by unfold mx; omega
theorem mx_nn (a b : Int) : 0 ≤ mx (a - b) (b - a) := by unfold mx; omega
theorem sm_perm {a b : List Int} (h : a.Perm b) : sm a = sm b := by
  induction h with
  | nil => rfl
  | cons x _ ih => simp only [sm]; omega
  | swap x y l => simp only [sm]; omega
  | trans _ _ i j => exact i.trans j
theorem dv_perm (z : Int) {a b : List Int} (h : a.Perm b) : dv z a = dv z b := by
  induction h with
  | nil => rfl
  | cons x _ ih => simp only [dv]; omega
  | swap x y l => simp only [dv]; omega
  | trans _ _ i j => exact i.trans j
theorem pr_perm {a b : List Int} (h : a.Perm b) : pr a = pr b := by
  induction h with
  | nil => rfl
  | cons x h ih => simp only [pr]; rw [dv_perm x h]; omega
  | swap x y l => simp only [pr, dv]; rw [mx_abs x y]; omega
  | trans _ _ i j => exact i.trans j
theorem sm_last (l : List Int) (x : Int) : sm (l ++ [x]) = sm l + x := by
  rw [sm_perm (List.perm_append_comm : (l ++ [x]).Perm ([x] ++ l))]; simp [sm]; omega
theorem pr_last (l : List Int) (x : Int) : pr (l ++ [x]) = pr l + dv x l := by
  rw [pr_perm (List.perm_append_comm : (l ++ [x]).Perm ([x] ++ l))]; simp [pr]; omega
theorem dv_nn (x : Int) : ∀ l : List Int, 0 ≤ dv x l
  | [] => by simp [dv]
  | y :: ys => by have := dv_nn x ys; have := mx_nn x y; simp only [dv]; omega
theorem sm_bd : ∀ {l : List Int}, Bd l → 0 ≤ sm l ∧ sm l ≤ (l.length : Int) * 1099511627776
  | [], _ => by simp [sm]
  | y :: ys, h => by have := sm_bd h.tail; have := h.head; simp only [sm, List.length_cons]; omega
theorem dv_bd {x : Int} (hx : 0 ≤ x ∧ x ≤ 1099511627776) : ∀ {l : List Int}, Bd l → dv x l ≤ (l.length : Int) * 1099511627776
  | [], _ => by simp [dv]
  | y :: ys, h => by
    have := dv_bd hx h.tail
    have := h.head
    have : mx (x - y) (y - x) ≤ 1099511627776 := by unfold mx; omega
    simp only [dv, List.length_cons]; omega
theorem pr_bd : ∀ {l : List Int}, Bd l → l.length ≤ 1000 → 0 ≤ pr l ∧ pr l ≤ (l.length : Int) * 1099511627776000
  | [], _, _ => by simp [pr]
  | y :: ys, h, hl => by
    have hl' : ys.length + 1 ≤ 1000 := hl
    have := pr_bd h.tail (by omega)
    have := dv_bd h.head h.tail
    have := dv_nn y ys
    simp only [pr, List.length_cons]; omega
theorem dv_sorted (x : Int) : ∀ l : List Int, (∀ y ∈ l, y ≤ x) → dv x l = (l.length : Int) * x - sm l
  | [], _ => by simp [dv, sm]
  | y :: ys, h => by
    have h1 := dv_sorted x ys (fun z hz => h z (by simp [hz]))
    have h2 := h y (by simp)
    have h3 : mx (x - y) (y - x) = x - y := by unfold mx; omega
    simp only [dv, sm, List.length_cons]
    rw [h1, h3, Int.natCast_add, Int.add_mul]
    omega

def gini (l : List Int) : Int × Int × Int :=
  if sm l = 0 then (0, 0, 11) else (wrap64 (Int.tdiv (pr l) (Nat.gcd (pr l).toNat (sm l * l.length).toNat : Nat)), wrap64 (Int.tdiv (sm l * l.length) (Nat.gcd (pr l).toNat (sm l * l.length).toNat : Nat)), 0)
theorem prod_bd {l : List Int} (h : Bd l) (hl : l.length ≤ 1000) : 0 ≤ sm l * (l.length : Int) ∧ sm l * (l.length : Int) ≤ 1099511627776000000 := by
  have h1 := sm_bd h
  have h2 : sm l * (l.length : Int) ≤ sm l * 1000 := Int.mul_le_mul_of_nonneg_left (by omega) h1.1
  exact ⟨Int.mul_nonneg h1.1 (by omega), by omega⟩
theorem gini_l0 (s : List Int) (hs : Bd s) (hl : s.length ≤ 1000) (hp : s.Pairwise (fun x y => x ≤ y)) (suf : List Int) : ∀ pre : List Int, s = pre ++ suf →
    Ev (fun k => group_Gini.l0 k s (sm pre) (pr pre - ((s.length : Int) - pre.length) * sm pre) s (s.length : Int) (pre.length : Int)) (gini s) := by
  induction suf with
  | nil =>
    intro pre e
    obtain rfl : s = pre := by simpa using e
    have hb := prod_bd hs hl
    have hb1 := pr_bd hs hl
    by_cases c : sm s = 0
    · refine Ev.step (fun k => ?_) (Ev.now _)
      simp only [group_Gini.l0]
      rw [if_neg (by omega), if_pos c]
      unfold gini
      rw [if_pos c]
    · have hn0 : s ≠ [] := fun e => c (by rw [e]; rfl)
      have hn : 0 < s.length := List.length_pos_iff.2 hn0
      have h1 := sm_bd hs
      have hpos : 0 < sm s * (s.length : Int) := Int.mul_pos (by omega) (by omega)
      have hg := gcd_l0 (sm s * (s.length : Int)).toNat (pr s).toNat
      rw [Int.toNat_of_nonneg hb.1, Int.toNat_of_nonneg hb1.1] at hg
      have hgp : 0 < Nat.gcd (pr s).toNat (sm s * (s.length : Int)).toNat := Nat.gcd_pos_of_pos_right _ (by omega)
      refine Ev.step (fun k => ?_) (Ev.bind hg (f := fun _ (t108 : Int) => (if t108 = 0 then (none) else (some (wrap64 (Int.tdiv (pr s) t108), wrap64 (Int.tdiv (sm s * (s.length : Int)) t108), (0 : Int))))) ?_)
      · simp only [group_Gini.l0]
        rw [if_neg (by omega), if_neg c, w64 (x := sm s * (s.length : Int)) (by omega) (by omega), show (s.length : Int) - s.length = 0 from by omega, Int.zero_mul, Int.sub_zero]
        rfl
      · refine Ev.congr (fun k => ?_) (Ev.now _)
        unfold gini
        rw [if_neg c, if_neg (by omega)]
  | cons y ys ih =>
    intro pre e
    have hlen : s.length = pre.length + (ys.length + 1) := by rw [e]; simp
    have hbp : Bd pre := fun x hx => hs x (by rw [e]; simp [hx])
    have hy : 0 ≤ y ∧ y ≤ 1099511627776 := hs y (by rw [e]; simp)
    have h1 := sm_bd hbp
    have h2 := pr_bd hbp (by omega)
    have hd : dv y pre = (pre.length : Int) * y - sm pre := dv_sorted y pre (fun z hz => by
      rw [e] at hp
      exact (List.pairwise_append.1 hp).2.2 z hz y (by simp))
    have ihs := ih (pre ++ [y]) (by rw [e]; simp)
    have hrd : rd s (pre.length : Int) = y := by rw [e]; exact rd_at pre y ys
    have hlt : (pre.length : Int) < (s.length : Int) := by omega
    have b1 : ((s.length : Int) - pre.length) * sm pre ≤ 1000 * sm pre := Int.mul_le_mul_of_nonneg_right (by omega) h1.1
    have b2 : 0 ≤ ((s.length : Int) - pre.length) * sm pre := Int.mul_nonneg (by omega) h1.1
    have b3 : (2 * (pre.length : Int) + 1 - s.length) * y ≤ 2001 * y := Int.mul_le_mul_of_nonneg_right (by omega) hy.1
    have b4 : (-1000) * y ≤ (2 * (pre.length : Int) + 1 - s.length) * y := Int.mul_le_mul_of_nonneg_right (by omega) hy.1
    refine Ev.step (fun k => ?_) ihs
    simp only [group_Gini.l0, hrd]
    rw [if_pos hlt, if_pos (by omega), if_pos hlt, w64 (x := sm pre + y) (by omega) (by omega), w64 (x := 2 * (pre.length : Int)) (by omega) (by omega),
      w64 (x := 2 * (pre.length : Int) + 1) (by omega) (by omega), w64 (x := 2 * (pre.length : Int) + 1 - s.length) (by omega) (by omega),
      w64 (x := (2 * (pre.length : Int) + 1 - s.length) * y) (by omega) (by omega), w64 (x := (pre.length : Int) + 1) (by omega) (by omega),
      w64 (x := pr pre - ((s.length : Int) - pre.length) * sm pre + (2 * (pre.length : Int) + 1 - s.length) * y) (by omega) (by omega), sm_last, pr_last, hd, len_next]
    congr 1
    simp only [Int.sub_mul, Int.add_mul, Int.mul_add, Int.mul_assoc, Int.one_mul, ← Int.sub_sub]
    omega
theorem gini_ok (l : List Int) (hb : Bd l) (hl : l.length ≤ 1000) (hf : fl l = 0) : Ev (fun k => group_Gini.f k l) (gini l) := by
  have hs := sort_perm l
  have hn : (sortInts.s l).length = l.length := sort_len l
  have hbs : Bd (sortInts.s l) := fun x hx => hb x (hs.mem_iff.1 hx)
  have c := check_small l hl
  rw [hf] at c
  have h0 := gini_l0 (sortInts.s l) hbs (by omega) (sort_sorted l) (sortInts.s l) [] (by simp)
  have eg : gini (sortInts.s l) = gini l := by
    unfold gini
    rw [sm_perm hs, pr_perm hs, hn]
  rw [eg] at h0
  unfold group_Gini.f
  refine Ev.bind c ?_
  refine Ev.congr (f := fun k => group_Gini.j0 k (sortInts.s l) false) (fun k => ?_) (Ev.step (fun k => ?_) h0)
  · rw [if_pos rfl, seq_small l hl]
    show (if _ then _ else _) = _
    by_cases d : ((sortInts.s l).length : Int) > 0
    · rw [if_pos d, if_pos d]
      have : 0 ≤ rd (sortInts.s l) 0 := by
        cases e : sortInts.s l with
        | nil => rw [e] at d; simp at d
        | cons y ys => rw [e] at hbs; simpa [rd] using hbs.head.1
      rw [show decide (rd (sortInts.s l) 0 < 0) = false from by simpa using this]
    · rw [if_neg d]
  · simp only [group_Gini.j0]
    rw [if_neg (by decide)]
    simp [sm, pr]
theorem gini_neg (l : List Int) (hl : l.length ≤ 1000) (hf : fl l = 0) (h : ∃ x ∈ l, x < 0) : Ev (fun k => group_Gini.f k l) (0, 0, 1) := by
  obtain ⟨x, hx, h⟩ := h
  have hs := sort_perm l
  have c := check_small l hl
  rw [hf] at c
  unfold group_Gini.f
  refine Ev.bind c ?_
  refine Ev.congr (f := fun k => group_Gini.j0 k (sortInts.s l) true) (fun k => ?_) (Ev.step (fun k => ?_) (Ev.now _))
  · rw [if_pos rfl, seq_small l hl]
    show (if _ then _ else _) = _
    have hx' := hs.mem_iff.2 hx
    have hp := sort_sorted l
    have d : ((sortInts.s l).length : Int) > 0 := by
      have := List.length_pos_iff.2 (List.ne_nil_of_mem hx')
      omega
    rw [if_pos d, if_pos d]
    have : rd (sortInts.s l) 0 < 0 := by
      cases e : sortInts.s l with
      | nil => rw [e] at d; simp at d
      | cons y ys =>
        rw [e] at hx' hp
        have : y < 0 := by
          rcases List.mem_cons.1 hx' with e | hx'
          · omega
          · have := (List.pairwise_cons.1 hp).1 x hx'
            omega
        simpa [rd] using this
    rw [show decide (rd (sortInts.s l) 0 < 0) = true from by simpa using this]
  · simp only [group_Gini.j0]
    rw [if_pos trivial]
theorem gini_small (l : List Int) (hl : l.length ≤ 1000) (hf : fl l = 1) : Ev (fun k => group_Gini.f k l) (0, 0, 1) := by
  have c := check_small l hl
  rw [hf] at c
  unfold group_Gini.f
  refine Ev.bind c ?_
  refine Ev.congr (fun k => ?_) (Ev.now _)
  rw [if_neg (by decide)]
theorem gini_large (l : List Int) (hl : ¬ l.length ≤ 1000) : Ev (fun k => group_Gini.f k l) (0, 0, 2) := by
  unfold group_Gini.f
  refine Ev.bind (check_large l hl) ?_
  refine Ev.congr (fun k => ?_) (Ev.now _)
  rw [if_neg (by decide)]


theorem tmod_bd (x n : Int) (h : 0 < n) : -n < Int.tmod x n ∧ Int.tmod x n < n := by
  have e1 := Int.emod_lt_of_pos x h
  have e2 := Int.emod_nonneg x (show n ≠ 0 by omega)
  have e3 := Int.emod_lt_of_pos (-x) h
  have e4 := Int.emod_nonneg (-x) (show n ≠ 0 by omega)
  by_cases c : 0 ≤ x
  · rw [Int.tmod_eq_emod_of_nonneg c]; omega
  · rw [show x = -(-x) from by omega, Int.neg_tmod, Int.tmod_eq_emod_of_nonneg (by omega)]; omega
/-- A number below n. -/
def bl (x n : Int) : Int := if Int.tmod x n < 0 then Int.tmod x n + n else Int.tmod x n
theorem bl_bd (x n : Int) (h : 0 < n) : 0 ≤ bl x n ∧ bl x n < n := by
  have := tmod_bd x n h
  unfold bl
  split <;> omega
theorem below_is (x n : Int) (h : 0 < n) (h1 : n ≤ 4611686018427387904) : mootmake_Below.f x n = some (bl x n) := by
  have := tmod_bd x n h
  unfold mootmake_Below.f bl
  rw [if_neg (by omega)]
  by_cases c : Int.tmod x n < 0
  · rw [if_pos c, if_pos c, w64 (by omega) (by omega)]
  · rw [if_neg c, if_neg c]

theorem shared_keep : Ev (fun k => mootkeep5_shared.f k) true := by
  have g := gini_ok [0, 4] (fun x hx => by simp at hx; omega) (by simp) rfl
  rw [show gini [0, 4] = (1, 2, 0) from by decide +kernel] at g
  unfold mootkeep5_shared.f
  refine Ev.bind g ?_
  exact Ev.now true
theorem fl_bd : ∀ {l : List Int}, Bd l → fl l = 0
  | [], _ => rfl
  | y :: ys, h => by
    have := h.head
    rw [fl_cons, if_neg (by omega), if_neg (by omega)]
    exact fl_bd h.tail
theorem sm_scale (t : Int) : ∀ l : List Int, sm (l.map (· * t)) = sm l * t
  | [] => by simp [sm]
  | y :: ys => by simp only [List.map_cons, sm, sm_scale t ys, Int.add_mul]
theorem dv_scale (t : Int) (ht : 0 ≤ t) (x : Int) : ∀ l : List Int, dv (x * t) (l.map (· * t)) = dv x l * t
  | [] => by simp [dv]
  | y :: ys => by
    have e : mx (x * t - y * t) (y * t - x * t) = mx (x - y) (y - x) * t := by
      rw [← Int.sub_mul, ← Int.sub_mul]
      unfold mx
      by_cases c : x - y < y - x
      · have : (x - y) * t ≤ (y - x) * t := Int.mul_le_mul_of_nonneg_right (by omega) ht
        rw [if_pos c]
        split
        · rfl
        · omega
      · have : (y - x) * t ≤ (x - y) * t := Int.mul_le_mul_of_nonneg_right (by omega) ht
        rw [if_neg c]
        split
        · omega
        · rfl
    simp only [List.map_cons, dv, dv_scale t ht x ys, Int.add_mul, e]
theorem pr_scale (t : Int) (ht : 0 ≤ t) : ∀ l : List Int, pr (l.map (· * t)) = pr l * t
  | [] => by simp [pr]
  | y :: ys => by simp only [List.map_cons, pr, pr_scale t ht ys, dv_scale t ht, Int.add_mul]
theorem dv_le (x : Int) (hx : 0 ≤ x) : ∀ {l : List Int}, Bd l → dv x l ≤ (l.length : Int) * x + sm l
  | [], _ => by simp [dv, sm]
  | y :: ys, h => by
    have h1 := dv_le x hx h.tail
    have h2 := h.head
    have h3 : mx (x - y) (y - x) ≤ x + y := by unfold mx; split <;> omega
    simp only [dv, sm, List.length_cons, Int.natCast_add, Int.add_mul]; omega
theorem pr_le : ∀ {l : List Int}, Bd l → pr l + sm l ≤ sm l * (l.length : Int)
  | [], _ => by simp [pr, sm]
  | y :: ys, h => by
    have h1 := pr_le h.tail
    have h2 := dv_le y h.head.1 h.tail
    simp only [pr, sm, List.length_cons, Int.natCast_add, Int.add_mul, Int.mul_add]
    rw [Int.mul_comm y]
    omega
/-- The ratio, in natural numbers. -/
theorem gini_nat (l : List Int) (hb : Bd l) (hl : l.length ≤ 1000) (h : sm l ≠ 0) (P Q : Nat) (hP : pr l = P) (hQ : sm l * (l.length : Int) = Q) :
    gini l = (((P / Nat.gcd P Q : Nat) : Int), ((Q / Nat.gcd P Q : Nat) : Int), 0) := by
  have h1 := prod_bd hb hl
  have h2 := pr_bd hb hl
  have e1 : P / Nat.gcd P Q ≤ P := Nat.div_le_self _ _
  have e2 : Q / Nat.gcd P Q ≤ Q := Nat.div_le_self _ _
  unfold gini
  rw [if_neg h, hP, hQ, Int.toNat_natCast, Int.toNat_natCast]
  rw [show Int.tdiv (P : Int) (Nat.gcd P Q : Nat) = ((P / Nat.gcd P Q : Nat) : Int) from rfl, show Int.tdiv (Q : Int) (Nat.gcd P Q : Nat) = ((Q / Nat.gcd P Q : Nat) : Int) from rfl]
  generalize P / Nat.gcd P Q = p at e1
  generalize Q / Nat.gcd P Q = q at e2
  rw [w64 (by omega) (by omega), w64 (by omega) (by omega)]
theorem gini_scale (l : List Int) (t : Nat) (ht : 0 < t) (hb : Bd l) (hb2 : Bd (l.map (· * (t : Int)))) (hl : l.length ≤ 1000) : gini (l.map (· * (t : Int))) = gini l := by
  have es := sm_scale (t : Int) l
  have ep := pr_scale (t : Int) (by omega) l
  by_cases c : sm l = 0
  · unfold gini
    rw [if_pos c, if_pos (by rw [es, c, Int.zero_mul])]
  · have h1 := prod_bd hb hl
    have h2 := pr_bd hb hl
    obtain ⟨P, hP⟩ : ∃ P : Nat, pr l = P := ⟨(pr l).toNat, by omega⟩
    obtain ⟨Q, hQ⟩ : ∃ Q : Nat, sm l * (l.length : Int) = Q := ⟨(sm l * (l.length : Int)).toNat, by omega⟩
    rw [gini_nat l hb hl c P Q hP hQ, gini_nat (l.map (· * (t : Int))) hb2 (by simpa using hl) (by
      rw [es]
      intro h
      rcases Int.mul_eq_zero.1 h with h | h
      · exact c h
      · omega) (P * t) (Q * t) (by rw [ep, hP, Int.natCast_mul]) (by rw [es, List.length_map, Int.mul_assoc, Int.mul_comm (t : Int), ← Int.mul_assoc, hQ, Int.natCast_mul])]
    rw [Nat.gcd_mul_right, Nat.mul_div_mul_right _ _ ht, Nat.mul_div_mul_right _ _ ht]
theorem gini_fair (l : List Int) (hb : Bd l) (hl : l.length ≤ 1000) (h : (gini l).2.2 ≠ 11) : (gini l).2.2 = 0 ∧ 0 ≤ (gini l).1 ∧ (gini l).1 < (gini l).2.1 := by
  have c : sm l ≠ 0 := fun e => h (by unfold gini; rw [if_pos e])
  have h1 := prod_bd hb hl
  have h2 := pr_bd hb hl
  have h3 := pr_le hb
  have h4 := sm_bd hb
  obtain ⟨P, hP⟩ : ∃ P : Nat, pr l = P := ⟨(pr l).toNat, by omega⟩
  obtain ⟨Q, hQ⟩ : ∃ Q : Nat, sm l * (l.length : Int) = Q := ⟨(sm l * (l.length : Int)).toNat, by omega⟩
  have hlt : P < Q := by omega
  have hg : 0 < Nat.gcd P Q := Nat.gcd_pos_of_pos_right _ (by omega)
  have hd : Q / Nat.gcd P Q * Nat.gcd P Q = Q := Nat.div_mul_cancel (Nat.gcd_dvd_right _ _)
  have : P / Nat.gcd P Q < Q / Nat.gcd P Q := (Nat.div_lt_iff_lt_mul hg).2 (by omega)
  rw [gini_nat l hb hl c P Q hP hQ]
  refine ⟨rfl, Int.natCast_nonneg _, ?_⟩
  show ((P / Nat.gcd P Q : Nat) : Int) < ((Q / Nat.gcd P Q : Nat) : Int)
  exact Int.ofNat_lt.2 this
theorem gini_same (v : Int) (c : Nat) (h1 : 1 ≤ v) (h2 : v ≤ 99) (h3 : 1 ≤ c) (h4 : c ≤ 7) : gini (List.replicate c v) = (0, 1, 0) := by
  have d : ∀ k : Nat, dv v (List.replicate k v) = 0 := fun k => by
    induction k with
    | zero => rfl
    | succ k ih => simp only [List.replicate_succ, dv, ih]; unfold mx; simp
  have p : pr (List.replicate c v) = ((0 : Nat) : Int) := by
    clear h3 h4
    induction c with
    | zero => rfl
    | succ k ih => simp only [List.replicate_succ, pr, ih, d]; rfl
  have s : ∀ k : Nat, sm (List.replicate k v) = (k : Int) * v := fun k => by
    induction k with
    | zero => simp [sm]
    | succ k ih => simp only [List.replicate_succ, sm, ih, Int.natCast_add, Int.add_mul]; omega
  have hb : Bd (List.replicate c v) := fun x hx => by rw [(List.mem_replicate.1 hx).2]; omega
  have hs : 0 < sm (List.replicate c v) := by rw [s]; exact Int.mul_pos (by omega) (by omega)
  have hp : 0 < sm (List.replicate c v) * ((List.replicate c v).length : Int) := Int.mul_pos hs (by rw [List.length_replicate]; omega)
  obtain ⟨Q, hQ⟩ : ∃ Q : Nat, sm (List.replicate c v) * ((List.replicate c v).length : Int) = Q := ⟨(sm (List.replicate c v) * ((List.replicate c v).length : Int)).toNat, by omega⟩
  rw [gini_nat (List.replicate c v) hb (by rw [List.length_replicate]; omega) (by omega) 0 Q p hQ, Nat.gcd_zero_left, Nat.zero_div, Nat.div_self (by omega)]
  rfl

def rv (x : Int) : Int := bl x 500
theorem rv_bd (x : Int) : 0 ≤ rv x ∧ rv x < 500 := bl_bd x 500 (by omega)
theorem ratios_l0 (n times : Int) (suf : List Int) : ∀ (pre : List Int) (r : Bool), (pre ++ suf).length ≤ 500 →
    Ev (fun k => mootkeep5_GroupRatios.l0 k n times ((pre ++ suf).map rv) (((pre ++ suf).map rv).map (· * (1 + bl times 9))) (pre ++ suf) ((pre ++ suf).length : Int) ((pre ++ suf).length : Int)) r →
    Ev (fun k => mootkeep5_GroupRatios.l0 k n times (pre.map rv) ((pre.map rv).map (· * (1 + bl times 9))) (pre ++ suf) ((pre ++ suf).length : Int) (pre.length : Int)) r := by
  induction suf with
  | nil =>
    intro pre r hl h
    simpa using h
  | cons y ys ih =>
    intro pre r hl h
    have hl' : pre.length + (ys.length + 1) ≤ 500 := by simpa using hl
    have hlt : (pre.length : Int) < ((pre ++ y :: ys).length : Int) := by simp; omega
    have b1 := rv_bd y
    have b2 := bl_bd times 9 (by omega)
    have i := ih (pre ++ [y]) r (by simpa using hl) (by simpa using h)
    have b3 : 0 ≤ rv y * (1 + bl times 9) := Int.mul_nonneg b1.1 (by omega)
    have b4 : rv y * (1 + bl times 9) ≤ 500 * (1 + bl times 9) := Int.mul_le_mul_of_nonneg_right (by omega) (by omega)
    refine Ev.step (fun k => ?_) i
    simp only [mootkeep5_GroupRatios.l0, rd_at, below_is y 500 (by omega) (by omega), below_is times 9 (by omega) (by omega), Option.bind_some]
    rw [if_pos hlt, if_pos (by omega), if_pos hlt, if_pos (by simp; omega), if_pos (by simp; omega), w64 (x := 1 + bl times 9) (by omega) (by omega), show bl y 500 = rv y from rfl,
      w64 (x := rv y * (1 + bl times 9)) (by omega) (by omega), w64 (x := (pre.length : Int) + 1) (by omega) (by omega), len_next]
    simp
theorem GroupRatios : mootkeep5_GroupRatios.Pure := by
  intro l n times _ _ _ _ _
  refine Ev.rounds ?_
  have e : mn (l.length : Int) 500 = ((min l.length 500 : Nat) : Int) := by unfold mn; split <;> omega
  have e2 : l.take (min l.length 500) = l.take 500 := by
    rcases Nat.le_total l.length 500 with h | h
    · rw [Nat.min_eq_left h, List.take_of_length_le (Nat.le_refl _), List.take_of_length_le h]
    · rw [Nat.min_eq_right h]
  have hl : (l.take 500).length ≤ 500 := by simp; omega
  refine Ev.congr (f := fun k => mootkeep5_GroupRatios.l0 k n times [] [] (l.take 500) ((l.take 500).length : Int) 0) (fun k => ?_) ?_
  · unfold mootkeep5_GroupRatios.f
    rw [e, if_pos (by omega), if_pos (by omega), Int.toNat_natCast, e2]
  · generalize l.take 500 = v at hl
    refine ratios_l0 n times v [] true hl ?_
    rw [List.nil_append]
    have b2 := bl_bd times 9 (by omega)
    have b3 := bl_bd n 99 (by omega)
    have b4 := bl_bd n 7 (by omega)
    obtain ⟨t, ht⟩ : ∃ t : Nat, 1 + bl times 9 = (t : Int) := ⟨(1 + bl times 9).toNat, by omega⟩
    rw [ht]
    have hb1 : Bd (v.map rv) := fun x hx => by
      obtain ⟨y, _, rfl⟩ := List.mem_map.1 hx
      have := rv_bd y
      omega
    have hb2 : Bd ((v.map rv).map (· * (t : Int))) := fun x hx => by
      obtain ⟨y, hy, rfl⟩ := List.mem_map.1 hx
      obtain ⟨z, _, rfl⟩ := List.mem_map.1 hy
      have b := rv_bd z
      have c1 : 0 ≤ rv z * (t : Int) := Int.mul_nonneg b.1 (by omega)
      have c2 : rv z * (t : Int) ≤ 500 * (t : Int) := Int.mul_le_mul_of_nonneg_right (by omega) (by omega)
      omega
    have hlv : (v.map rv).length ≤ 1000 := by simp; omega
    have g1 := gini_ok (v.map rv) hb1 hlv (fl_bd hb1)
    have g2 := gini_ok ((v.map rv).map (· * (t : Int))) hb2 (by simp; omega) (fl_bd hb2)
    rw [gini_scale (v.map rv) t (by omega) hb1 hb2 hlv] at g2
    have hb3 : Bd (List.replicate (1 + bl n 7).toNat (1 + bl n 99)) := fun x hx => by rw [(List.mem_replicate.1 hx).2]; omega
    have g3 := gini_ok (List.replicate (1 + bl n 7).toNat (1 + bl n 99)) hb3 (by simp; omega) (fl_bd hb3)
    rw [gini_same (1 + bl n 99) (1 + bl n 7).toNat (by omega) (by omega) (by omega) (by omega)] at g3
    have hfair := gini_fair (v.map rv) hb1 hlv
    generalize gini (v.map rv) = q at g1 g2 hfair
    obtain ⟨a, b, e⟩ := q
    have hrep : repOne.f [1 + bl n 99] (1 + bl n 7) = some (List.replicate (1 + bl n 7).toNat (1 + bl n 99)) := by
      unfold repOne.f
      rw [if_pos ⟨rfl, by omega, by omega⟩]
      rfl
    refine Ev.step (f := fun k => (group_Gini.f k (v.map rv)).bind fun bt128 => ((group_Gini.f k ((v.map rv).map (· * (t : Int)))).bind fun bt131 => ((group_Gini.f k (List.replicate (1 + bl n 7).toNat (1 + bl n 99))).bind fun bt142 => ((mootkeep5_shared.f k).bind fun t145 => (if t145 = true then (if bt142.2.2 = 0 then (if bt142.1 = 0 then (if bt142.2.1 = 1 then (if bt128.2.2 = bt131.2.2 then (if bt128.1 = bt131.1 then (if bt128.2.1 = bt131.2.1 then (if bt128.2.2 = 11 then (some true) else (if bt128.2.2 = 0 then (if bt128.1 ≥ 0 then (some (decide (bt128.1 < bt128.2.1))) else (some false)) else (some false))) else (some false)) else (some false)) else (some false)) else (some false)) else (some false)) else (some false)) else (some false)))))) (fun k => ?_) (Ev.bind g1 (Ev.bind g2 (Ev.bind g3 (Ev.bind shared_keep (Ev.congr (fun k => ?_) (Ev.now true))))))
    · simp only [mootkeep5_GroupRatios.l0, below_is n 99 (by omega) (by omega), below_is n 7 (by omega) (by omega), Option.bind_some]
      rw [if_neg (by omega), w64 (x := 1 + bl n 99) (by omega) (by omega), w64 (x := 1 + bl n 7) (by omega) (by omega), hrep]
      rfl
    · rw [if_pos rfl, if_pos rfl, if_pos rfl, if_pos rfl, if_pos rfl, if_pos rfl, if_pos rfl]
      by_cases c : e = 11
      · rw [if_pos c]
      · have f := hfair c
        rw [if_neg c, if_pos f.1, if_pos f.2.1, decide_eq_true f.2.2]
end Go.Proofs.Ytihmanjgkjenbaa.Pure
