/- Chapter 53: the mean lies between the least and the greatest value, and parts of all values are these. -/
import Derived.Test.YtihmanjgkjenbaaPGroupMeansx3
import Derived.Lib.Mul64
import Derived.OpenShut
import Derived.Laws.Bits64b
namespace Go.Proofs.Ytihmanjgkjenbaa.Pure
open Go.RowKit Go.Proofs.Ytihmanjgkjenbaa.PGroupMeans Go.Proofs.YtihmanjgkjenbaaW.PrintWords Go.Proofs.YtihmanjgkjenbaaW.PrintLast Go.Proofs.YtihmanjgkjenbaaW.PrintMore
theorem w64 {x : Int} (h0 : -9223372036854775808 ≤ x) (h1 : x < 9223372036854775808) : wrap64 x = x := by unfold wrap64; omega
theorem rd_at (pre : List Int) (y : Int) (suf : List Int) : rd (pre ++ y :: suf) (pre.length : Int) = y := by simp [rd]
theorem len_next (pre : List Int) (y : Int) : ((pre ++ [y]).length : Int) = (pre.length : Int) + 1 := by simp

/-- What the checks of values tell of values that are not too many. -/
def fl : List Int → Int
  | [] => 0
  | y :: ys => if y < -1099511627776 then 1 else if y > 1099511627776 then 1 else fl ys
theorem fl_cons (y : Int) (ys : List Int) : fl (y :: ys) = if y < -1099511627776 then 1 else if y > 1099511627776 then 1 else fl ys := rfl
theorem fl_ok : ∀ {l : List Int}, fl l = 0 → ∀ x ∈ l, -1099511627776 ≤ x ∧ x ≤ 1099511627776
  | [], _, x, hx => by cases hx
  | y :: ys, h, x, hx => by
    rw [fl_cons] at h
    by_cases c : y < -1099511627776
    · rw [if_pos c] at h; omega
    · rw [if_neg c] at h
      by_cases d : y > 1099511627776
      · rw [if_pos d] at h; omega
      · rw [if_neg d] at h
        rcases List.mem_cons.1 hx with e | hx
        · omega
        · exact fl_ok h x hx
theorem fl_cases : ∀ (l : List Int), fl l = 0 ∨ fl l = 1
  | [] => .inl rfl
  | y :: ys => by rw [fl_cons]; split; exact .inr rfl; split; exact .inr rfl; exact fl_cases ys

theorem check_l0 (suf : List Int) : ∀ pre : List Int, pre.length + suf.length ≤ 1000 → Ev (fun k => group_Check.l0 k (pre ++ suf) ((pre ++ suf).length : Int) (pre.length : Int)) (fl suf) := by
  induction suf with
  | nil =>
    intro pre hl
    refine ⟨1, fun k hk => ?_⟩
    obtain ⟨k, rfl⟩ : ∃ m, k = m + 1 := ⟨k - 1, by omega⟩
    simp only [group_Check.l0]
    rw [if_neg (by simp)]
    rfl
  | cons y ys ih =>
    intro pre hl
    have hl' : pre.length + (ys.length + 1) ≤ 1000 := hl
    have hlt : (pre.length : Int) < ((pre ++ y :: ys).length : Int) := by simp; omega
    rw [fl_cons]
    by_cases c : y < -1099511627776
    · refine ⟨1, fun k hk => ?_⟩
      obtain ⟨k, rfl⟩ : ∃ m, k = m + 1 := ⟨k - 1, by omega⟩
      simp only [group_Check.l0, rd_at]
      rw [if_pos hlt, if_pos (by omega), if_pos hlt, if_pos c, if_pos c]
    · by_cases d : y > 1099511627776
      · refine ⟨1, fun k hk => ?_⟩
        obtain ⟨k, rfl⟩ : ∃ m, k = m + 1 := ⟨k - 1, by omega⟩
        simp only [group_Check.l0, rd_at]
        rw [if_pos hlt, if_pos (by omega), if_pos hlt, if_neg c, if_pos d, if_neg c, if_pos d]
      · rw [if_neg c, if_neg d]
        refine Ev.step (fun k => ?_) (ih (pre ++ [y]) (by simp; omega))
        simp only [group_Check.l0, rd_at]
        rw [if_pos hlt, if_pos (by omega), if_pos hlt, if_neg c, if_neg d, w64 (by omega) (by omega), len_next]
        simp
theorem check_small (l : List Int) (h : l.length ≤ 1000) : Ev (fun k => group_Check.f k l) (fl l) := by
  refine Ev.congr (fun k => ?_) (check_l0 l [] (by simpa using h))
  unfold group_Check.f
  rw [if_neg (by omega)]
  rfl
theorem check_large (l : List Int) (h : ¬ l.length ≤ 1000) : Ev (fun k => group_Check.f k l) 2 := by
  refine Ev.congr (fun k => ?_) (Ev.now 2)
  unfold group_Check.f
  rw [if_pos (by omega)]

theorem sorted_eq : ∀ (a b : List Int), a.Pairwise (fun x y => x ≤ y) → b.Pairwise (fun x y => x ≤ y) → a.Perm b → a = b
  | [], b, _, _, h => by rw [List.nil_perm.1 h]
  | x :: xs, [], _, _, h => by have := h.length_eq; simp at this
  | x :: xs, y :: ys, ha, hb, h => by
    have h1 := List.pairwise_cons.1 ha
    have h2 := List.pairwise_cons.1 hb
    have hx : x ∈ y :: ys := h.mem_iff.1 (by simp)
    have hy : y ∈ x :: xs := h.mem_iff.2 (by simp)
    have e : x = y := by
      rcases List.mem_cons.1 hx with e | hx
      · exact e
      · rcases List.mem_cons.1 hy with e | hy
        · exact e.symm
        · have := h1.1 y hy
          have := h2.1 x hx
          omega
    subst e
    rw [sorted_eq xs ys h1.2 h2.2 (List.perm_cons x |>.1 h)]
theorem sort_perm (l : List Int) : (sortInts.s l).Perm l := List.mergeSort_perm l _
theorem sort_sorted (l : List Int) : (sortInts.s l).Pairwise (fun x y => x ≤ y) := by
  have := List.pairwise_mergeSort (le := fun (x y : Int) => decide (x ≤ y)) (by intro a b c; simp; omega) (by intro a b; simp; omega) l
  exact this.imp (by simp)
theorem sort_len (l : List Int) : (sortInts.s l).length = l.length := (sort_perm l).length_eq
theorem sort_is (l m : List Int) (h : m.Pairwise (fun x y => x ≤ y)) (hp : m.Perm l) : sortInts.s l = m := sorted_eq _ _ (sort_sorted l) h ((sort_perm l).trans hp.symm)
theorem seq_small (l : List Int) (h : l.length ≤ 1000) : sortedSeq.f l = some (sortInts.s l) := by
  unfold sortedSeq.f
  rw [if_pos (by omega)]

theorem gcd_l0 (b : Nat) : ∀ a : Nat, Ev (fun k => group_gcd.l0 k (a : Int) (b : Int)) (Nat.gcd a b : Nat) := by
  induction b using Nat.strongRecOn with
  | _ b ih =>
    intro a
    by_cases h : b = 0
    · subst h
      refine ⟨1, fun k hk => ?_⟩
      obtain ⟨k, rfl⟩ : ∃ m, k = m + 1 := ⟨k - 1, by omega⟩
      simp only [group_gcd.l0]
      rw [if_neg (by omega)]
      simp
    · have := ih (a % b) (Nat.mod_lt _ (by omega)) b
      rw [Nat.gcd_comm b (a % b), ← Nat.gcd_rec b a, Nat.gcd_comm b a] at this
      refine Ev.step (fun k => ?_) this
      simp only [group_gcd.l0]
      rw [if_pos (by omega), if_neg (by omega), Int.tmod_eq_emod_of_nonneg (by omega)]
      rfl

def sm : List Int → Int
  | [] => 0
  | y :: ys => y + sm ys
def dv (x : Int) : List Int → Int
  | [] => 0
  | y :: ys => mx (x - y) (y - x) + dv x ys
def pr : List Int → Int
  | [] => 0
  | y :: ys => dv y ys + pr ys
def Bd (l : List Int) : Prop := ∀ x ∈ l, 0 ≤ x ∧ x ≤ 1099511627776
theorem Bd.tail {y : Int} {ys : List Int} (h : Bd (y :: ys)) : Bd ys := fun x hx => h x (List.mem_cons_of_mem _ hx)
theorem Bd.head {y : Int} {ys : List Int} (h : Bd (y :: ys)) : 0 ≤ y ∧ y ≤ 1099511627776 := h y (by simp)
theorem mx_abs (a b : Int) : mx (a - b) (b - a) = mx (b - a) (a - b) := by unfold mx; omega
theorem mx_nn (a b : Int) : 0 ≤ mx (a - b) (b - a) := by unfold mx; omega
theorem sm_perm {a b : List Int} (h : a.Perm b) : sm a = sm b := by
  induction h with
  | nil => rfl
  | cons x _ ih => simp only [sm]; omega
  | swap x y l => simp only [sm]; omega
  | trans _ _ i j => exact i.trans j
theorem dv_perm (z : Int) {a b : List Int} (h : a.Perm b) : dv z a = dv z b := by
  induction h with
  | nil => rfl
  | cons x _ ih => simp only [dv]; omega
  | swap x y l => simp only [dv]; omega
  | trans _ _ i j => exact i.trans j
theorem pr_perm {a b : List Int} (h : a.Perm b) : pr a = pr b := by
  induction h with
  | nil => rfl
  | cons x h ih => simp only [pr]; rw [dv_perm x h]; omega
  | swap x y l => simp only [pr, dv]; rw [mx_abs x y]; omega
  | trans _ _ i j => exact i.trans j
theorem sm_last (l : List Int) (x : Int) : sm (l ++ [x]) = sm l + x := by
  rw [sm_perm (List.perm_append_comm : (l ++ [x]).Perm ([x] ++ l))]; simp [sm]; omega
theorem pr_last (l : List Int) (x : Int) : pr (l ++ [x]) = pr l + dv x l := by
  rw [pr_perm (List.perm_append_comm : (l ++ [x]).Perm ([x] ++ l))]; simp [pr]; omega
theorem dv_nn (x : Int) : ∀ l : List Int, 0 ≤ dv x l
  | [] => by simp [dv]
  | y :: ys => by have := dv_nn x ys; have := mx_nn x y; simp only [dv]; omega
theorem sm_bd : ∀ {l : List Int}, Bd l → 0 ≤ sm l ∧ sm l ≤ (l.length : Int) * 1099511627776
  | [], _ => by simp [sm]
  | y :: ys, h => by have := sm_bd h.tail; have := h.head; simp only [sm, List.length_cons]; omega
theorem dv_bd {x : Int} (hx : 0 ≤ x ∧ x ≤ 1099511627776) : ∀ {l : List Int}, Bd l → dv x l ≤ (l.length : Int) * 1099511627776
  | [], _ => by simp [dv]
  | y :: ys, h => by
    have := dv_bd hx h.tail
    have := h.head
    have : mx (x - y) (y - x) ≤ 1099511627776 := by unfold mx; omega
    simp only [dv, List.length_cons]; omega
theorem pr_bd : ∀ {l : List Int}, Bd l → l.length ≤ 1000 → 0 ≤ pr l ∧ pr l ≤ (l.length : Int) * 1099511627776000
  | [], _, _ => by simp [pr]
  | y :: ys, h, hl => by
    have hl' : ys.length + 1 ≤ 1000 := hl
    have := pr_bd h.tail (by omega)
    have := dv_bd h.head h.tail
    have := dv_nn y ys
    simp only [pr, List.length_cons]; omega
theorem dv_sorted (x : Int) : ∀ l : List Int, (∀ y ∈ l, y ≤ x) → dv x l = (l.length : Int) * x - sm l
  | [], _ => by simp [dv, sm]
  | y :: ys, h => by
    have h1 := dv_sorted x ys (fun z hz => h z (by simp [hz]))
    have h2 := h y (by simp)
    have h3 : mx (x - y) (y - x) = x - y := by unfold mx; omega
    simp only [dv, sm, List.length_cons]
    rw [h1, h3, Int.natCast_add, Int.add_mul]
    omega

def gini (l : List Int) : Int × Int × Int :=
  if sm l = 0 then (0, 0, 11) else (wrap64 (Int.tdiv (pr l) (Nat.gcd (pr l).toNat (sm l * l.length).toNat : Nat)), wrap64 (Int.tdiv (sm l * l.length) (Nat.gcd (pr l).toNat (sm l * l.length).toNat : Nat)), 0)
theorem prod_bd {l : List Int} (h : Bd l) (hl : l.length ≤ 1000) : 0 ≤ sm l * (l.length : Int) ∧ sm l * (l.length : Int) ≤ 1099511627776000000 := by
  have h1 := sm_bd h
  have h2 : sm l * (l.length : Int) ≤ sm l * 1000 := Int.mul_le_mul_of_nonneg_left (by omega) h1.1
  exact ⟨Int.mul_nonneg h1.1 (by omega), by omega⟩
theorem gini_l0 (s : List Int) (hs : Bd s) (hl : s.length ≤ 1000) (hp : s.Pairwise (fun x y => x ≤ y)) (suf : List Int) : ∀ pre : List Int, s = pre ++ suf →
    Ev (fun k => group_Gini.l0 k s (sm pre) (pr pre - ((s.length : Int) - pre.length) * sm pre) s (s.length : Int) (pre.length : Int)) (gini s) := by
  induction suf with
  | nil =>
    intro pre e
    obtain rfl : s = pre := by simpa using e
    have hb := prod_bd hs hl
    have hb1 := pr_bd hs hl
    by_cases c : sm s = 0
    · refine Ev.step (fun k => ?_) (Ev.now _)
      simp only [group_Gini.l0]
      rw [if_neg (by omega), if_pos c]
      unfold gini
      rw [if_pos c]
    · have hn0 : s ≠ [] := fun e => c (by rw [e]; rfl)
      have hn : 0 < s.length := List.length_pos_iff.2 hn0
      have h1 := sm_bd hs
      have hpos : 0 < sm s * (s.length : Int) := Int.mul_pos (by omega) (by omega)
      have hg := gcd_l0 (sm s * (s.length : Int)).toNat (pr s).toNat
      rw [Int.toNat_of_nonneg hb.1, Int.toNat_of_nonneg hb1.1] at hg
      have hgp : 0 < Nat.gcd (pr s).toNat (sm s * (s.length : Int)).toNat := Nat.gcd_pos_of_pos_right _ (by omega)
      refine Ev.step (fun k => ?_) (Ev.bind hg (f := fun _ (t108 : Int) => (if t108 = 0 then (none) else (some (wrap64 (Int.tdiv (pr s) t108), wrap64 (Int.tdiv (sm s * (s.length : Int)) t108), (0 : Int))))) ?_)
      · simp only [group_Gini.l0]
        rw [if_neg (by omega), if_neg c, w64 (x := sm s * (s.length : Int)) (by omega) (by omega), show (s.length : Int) - s.length = 0 from by omega, Int.zero_mul, Int.sub_zero]
        rfl
      · refine Ev.congr (fun k => ?_) (Ev.now _)
        unfold gini
        rw [if_neg c, if_neg (by omega)]
  | cons y ys ih =>
    intro pre e
    have hlen : s.length = pre.length + (ys.length + 1) := by rw [e]; simp
    have hbp : Bd pre := fun x hx => hs x (by rw [e]; simp [hx])
    have hy : 0 ≤ y ∧ y ≤ 1099511627776 := hs y (by rw [e]; simp)
    have h1 := sm_bd hbp
    have h2 := pr_bd hbp (by omega)
    have hd : dv y pre = (pre.length : Int) * y - sm pre := dv_sorted y pre (fun z hz => by
      rw [e] at hp
      exact (List.pairwise_append.1 hp).2.2 z hz y (by simp))
    have ihs := ih (pre ++ [y]) (by rw [e]; simp)
    have hrd : rd s (pre.length : Int) = y := by rw [e]; exact rd_at pre y ys
    have hlt : (pre.length : Int) < (s.length : Int) := by omega
    have b1 : ((s.length : Int) - pre.length) * sm pre ≤ 1000 * sm pre := Int.mul_le_mul_of_nonneg_right (by omega) h1.1
    have b2 : 0 ≤ ((s.length : Int) - pre.length) * sm pre := Int.mul_nonneg (by omega) h1.1
    have b3 : (2 * (pre.length : Int) + 1 - s.length) * y ≤ 2001 * y := Int.mul_le_mul_of_nonneg_right (by omega) hy.1
    have b4 : (-1000) * y ≤ (2 * (pre.length : Int) + 1 - s.length) * y := Int.mul_le_mul_of_nonneg_right (by omega) hy.1
    refine Ev.step (fun k => ?_) ihs
    simp only [group_Gini.l0, hrd]
    rw [if_pos hlt, if_pos (by omega), if_pos hlt, w64 (x := sm pre + y) (by omega) (by omega), w64 (x := 2 * (pre.length : Int)) (by omega) (by omega),
      w64 (x := 2 * (pre.length : Int) + 1) (by omega) (by omega), w64 (x := 2 * (pre.length : Int) + 1 - s.length) (by omega) (by omega),
      w64 (x := (2 * (pre.length : Int) + 1 - s.length) * y) (by omega) (by omega), w64 (x := (pre.length : Int) + 1) (by omega) (by omega),
      w64 (x := pr pre - ((s.length : Int) - pre.length) * sm pre + (2 * (pre.length : Int) + 1 - s.length) * y) (by omega) (by omega), sm_last, pr_last, hd, len_next]
    congr 1
    simp only [Int.sub_mul, Int.add_mul, Int.mul_add, Int.mul_assoc, Int.one_mul, ← Int.sub_sub]
    omega
theorem gini_ok (l : List Int) (hb : Bd l) (hl : l.length ≤ 1000) (hf : fl l = 0) : Ev (fun k => group_Gini.f k l) (gini l) := by
  have hs := sort_perm l
  have hn : (sortInts.s l).length = l.length := sort_len l
  have hbs : Bd (sortInts.s l) := fun x hx => hb x (hs.mem_iff.1 hx)
  have c := check_small l hl
  rw [hf] at c
  have h0 := gini_l0 (sortInts.s l) hbs (by omega) (sort_sorted l) (sortInts.s l) [] (by simp)
  have eg : gini (sortInts.s l) = gini l := by
    unfold gini
    rw [sm_perm hs, pr_perm hs, hn]
  rw [eg] at h0
  unfold group_Gini.f
  refine Ev.bind c ?_
  refine Ev.congr (f := fun k => group_Gini.j0 k (sortInts.s l) false) (fun k => ?_) (Ev.step (fun k => ?_) h0)
  · rw [if_pos rfl, seq_small l hl]
    show (if _ then _ else _) = _
    by_cases d : ((sortInts.s l).length : Int) > 0
    · rw [if_pos d, if_pos d]
      have : 0 ≤ rd (sortInts.s l) 0 := by
        cases e : sortInts.s l with
        | nil => rw [e] at d; simp at d
        | cons y ys => rw [e] at hbs; simpa [rd] using hbs.head.1
      rw [show decide (rd (sortInts.s l) 0 < 0) = false from by simpa using this]
    · rw [if_neg d]
  · simp only [group_Gini.j0]
    rw [if_neg (by decide)]
    simp [sm, pr]
theorem gini_neg (l : List Int) (hl : l.length ≤ 1000) (hf : fl l = 0) (h : ∃ x ∈ l, x < 0) : Ev (fun k => group_Gini.f k l) (0, 0, 1) := by
  obtain ⟨x, hx, h⟩ := h
  have hs := sort_perm l
  have c := check_small l hl
  rw [hf] at c
  unfold group_Gini.f
  refine Ev.bind c ?_
  refine Ev.congr (f := fun k => group_Gini.j0 k (sortInts.s l) true) (fun k => ?_) (Ev.step (fun k => ?_) (Ev.now _))
  · rw [if_pos rfl, seq_small l hl]
    show (if _ then _ else _) = _
    have hx' := hs.mem_iff.2 hx
    have hp := sort_sorted l
    have d : ((sortInts.s l).length : Int) > 0 := by
      have := List.length_pos_iff.2 (List.ne_nil_of_mem hx')
      omega
    rw [if_pos d, if_pos d]
    have : rd (sortInts.s l) 0 < 0 := by
      cases e : sortInts.s l with
      | nil => rw [e] at d; simp at d
      | cons y ys =>
        rw [e] at hx' hp
        have : y < 0 := by
          rcases List.mem_cons.1 hx' with e | hx'
          · omega
          · have := (List.pairwise_cons.1 hp).1 x hx'
            omega
        simpa [rd] using this
    rw [show decide (rd (sortInts.s l) 0 < 0) = true from by simpa using this]
  · simp only [group_Gini.j0]
    rw [if_pos trivial]
theorem gini_small (l : List Int) (hl : l.length ≤ 1000) (hf : fl l = 1) : Ev (fun k => group_Gini.f k l) (0, 0, 1) := by
  have c := check_small l hl
  rw [hf] at c
  unfold group_Gini.f
  refine Ev.bind c ?_
  refine Ev.congr (fun k => ?_) (Ev.now _)
  rw [if_neg (by decide)]
theorem gini_large (l : List Int) (hl : ¬ l.length ≤ 1000) : Ev (fun k => group_Gini.f k l) (0, 0, 2) := by
  unfold group_Gini.f
  refine Ev.bind (check_large l hl) ?_
  refine Ev.congr (fun k => ?_) (Ev.now _)
  rw [if_neg (by decide)]

theorem part_bad (l : List Int) (num den f : Int) (hf : f ≠ 0) (c : Ev (fun k => group_Check.f k l) f) : Ev (fun k => group_Part.f k l num den) (0, f) := by
  unfold group_Part.f
  refine Ev.bind c ?_
  refine Ev.congr (fun k => ?_) (Ev.now _)
  rw [if_neg hf]

/-- The place of the part: the least. -/
theorem part_at (num den : Int) (N : Nat) (h1 : 1 ≤ num) (h2 : num ≤ den) (h3 : den ≤ 1000) (h4 : 0 < N) (h5 : N ≤ 1000) :
    ∃ K : Nat, K < N ∧ (K : Int) * den < num * N ∧ num * N ≤ ((K : Int) + 1) * den ∧ (num * N + den - 1) / den - 1 = (K : Int) ∧ 0 ≤ num * N ∧ num * N ≤ 1000000 := by
  have p1 : 1 * (N : Int) ≤ num * N := Int.mul_le_mul_of_nonneg_right h1 (by omega)
  have p2 : num * (N : Int) ≤ den * N := Int.mul_le_mul_of_nonneg_right h2 (by omega)
  have p3 : num * (N : Int) ≤ 1000 * N := Int.mul_le_mul_of_nonneg_right (by omega) (by omega)
  have e1 := Int.ediv_mul_le (num * N + den - 1) (show den ≠ 0 by omega)
  have e2 := Int.lt_ediv_add_one_mul_self (num * N + den - 1) (show 0 < den by omega)
  generalize hq : (num * (N : Int) + den - 1) / den = q at e1 e2
  have hq1 : 1 ≤ q := by
    refine Int.not_lt.1 fun h => ?_
    have : (q + 1) * den ≤ 1 * den := Int.mul_le_mul_of_nonneg_right (by omega) (by omega)
    omega
  have e4 : (q + 1) * den = q * den + den := by rw [Int.add_mul, Int.one_mul]
  have e3 : (q - 1) * den = q * den - den := by rw [Int.sub_mul, Int.one_mul]
  have hq2 : q - 1 < (N : Int) := by
    refine Int.not_le.1 fun h => ?_
    have : (N : Int) * den ≤ (q - 1) * den := Int.mul_le_mul_of_nonneg_right h (by omega)
    rw [Int.mul_comm] at this
    omega
  refine ⟨(q - 1).toNat, by omega, ?_, ?_, by omega, by omega, by omega⟩
  · rw [Int.toNat_of_nonneg (by omega)]; omega
  · rw [Int.toNat_of_nonneg (by omega), show q - 1 + 1 = q from by omega]; omega
theorem part_ok (l : List Int) (num den : Int) (hl : l.length ≤ 1000) (hf : fl l = 0) (h1 : 1 ≤ num) (h2 : num ≤ den) (h3 : den ≤ 1000) (h4 : l ≠ []) (K : Nat) (k1 : K < l.length) (k2 : (K : Int) * den < num * l.length) (k3 : num * l.length ≤ ((K : Int) + 1) * den) :
    Ev (fun k => group_Part.f k l num den) (rd (sortInts.s l) K, 0) := by
  have c := check_small l hl
  rw [hf] at c
  have hs := sort_len l
  have hpos : 0 < l.length := List.length_pos_iff.2 h4
  obtain ⟨K', q1, q2, q3, q4, q5, q6⟩ := part_at num den (sortInts.s l).length h1 h2 h3 (by omega) (by omega)
  rw [hs] at q1 q2 q3 q4 q5 q6
  have e : K' = K := by
    have a1 : ¬ (K : Int) + 1 ≤ K' := fun h => by
      have : ((K : Int) + 1) * den ≤ (K' : Int) * den := Int.mul_le_mul_of_nonneg_right h (by omega)
      omega
    have a2 : ¬ (K' : Int) + 1 ≤ K := fun h => by
      have : ((K' : Int) + 1) * den ≤ (K : Int) * den := Int.mul_le_mul_of_nonneg_right h (by omega)
      omega
    omega
  subst e
  unfold group_Part.f
  refine Ev.bind c (Ev.congr (f := fun k => group_Part.j0 k l num den false) (fun k => ?_) (Ev.step (fun k => ?_) (Ev.now _)))
  · rw [if_pos rfl, if_neg (by omega), if_neg (by omega), if_neg (by omega), show decide (num > den) = false from by simp; omega]
  · simp only [group_Part.j0]
    rw [if_neg (by decide), if_neg (by omega), seq_small l hl]
    show (if _ then _ else _) = _
    rw [if_neg (by omega), hs, w64 (x := num * (l.length : Int)) (by omega) (by omega), w64 (x := num * (l.length : Int) + den) (by omega) (by omega), w64 (x := num * (l.length : Int) + den - 1) (by omega) (by omega),
      Int.tdiv_eq_ediv_of_nonneg (by omega), w64 (x := (num * (l.length : Int) + den - 1) / den) (by omega) (by omega), q4, w64 (by omega) (by omega), if_pos (by omega), if_pos (by omega)]
theorem part_none (num den : Int) (h1 : 1 ≤ num) (h2 : num ≤ den) (h3 : den ≤ 1000) : Ev (fun k => group_Part.f k [] num den) (0, 11) := by
  have c := check_small [] (by simp)
  rw [show fl [] = 0 from rfl] at c
  unfold group_Part.f
  refine Ev.bind c (Ev.congr (f := fun k => group_Part.j0 k [] num den false) (fun k => ?_) (Ev.step (fun k => ?_) (Ev.now _)))
  · rw [if_pos rfl, if_neg (by omega), if_neg (by omega), if_neg (by omega), show decide (num > den) = false from by simp; omega]
  · simp only [group_Part.j0]
    rw [if_neg (by decide)]
    rfl

theorem tmod_bd (x n : Int) (h : 0 < n) : -n < Int.tmod x n ∧ Int.tmod x n < n := by
  have e1 := Int.emod_lt_of_pos x h
  have e2 := Int.emod_nonneg x (show n ≠ 0 by omega)
  have e3 := Int.emod_lt_of_pos (-x) h
  have e4 := Int.emod_nonneg (-x) (show n ≠ 0 by omega)
  by_cases c : 0 ≤ x
  · rw [Int.tmod_eq_emod_of_nonneg c]; omega
  · rw [show x = -(-x) from by omega, Int.neg_tmod, Int.tmod_eq_emod_of_nonneg (by omega)]; omega
/-- A number below n. -/
def bl (x n : Int) : Int := if Int.tmod x n < 0 then Int.tmod x n + n else Int.tmod x n
theorem bl_bd (x n : Int) (h : 0 < n) : 0 ≤ bl x n ∧ bl x n < n := by
  have := tmod_bd x n h
  unfold bl
  split <;> omega
theorem below_is (x n : Int) (h : 0 < n) (h1 : n ≤ 4611686018427387904) : mootmake_Below.f x n = some (bl x n) := by
  have := tmod_bd x n h
  unfold mootmake_Below.f bl
  rw [if_neg (by omega)]
  by_cases c : Int.tmod x n < 0
  · rw [if_pos c, if_pos c, w64 (by omega) (by omega)]
  · rw [if_neg c, if_neg c]

theorem shared_keep : Ev (fun k => mootkeep5_shared.f k) true := by
  have g := gini_ok [0, 4] (fun x hx => by simp at hx; omega) (by simp) rfl
  rw [show gini [0, 4] = (1, 2, 0) from by decide +kernel] at g
  unfold mootkeep5_shared.f
  refine Ev.bind g ?_
  exact Ev.now true
def am (x : Int) : Int := bl x 5000 - 1000
theorem am_bd (x : Int) : -1000 ≤ am x ∧ am x < 4000 := by have := bl_bd x 5000 (by omega); unfold am; omega
theorem amounts_l0 (suf : List Int) : ∀ (pre out : List Int), (pre ++ suf).length ≤ 500 → out.length = pre.length → Ev (fun k => mootkeep5_amounts.l0 k out (pre ++ suf) ((pre ++ suf).length : Int) (pre.length : Int)) (out ++ suf.map am) := by
  induction suf with
  | nil =>
    intro pre out hl ho
    refine Ev.step (fun k => ?_) (Ev.now _)
    simp only [mootkeep5_amounts.l0]
    rw [if_neg (by simp)]
    simp
  | cons y ys ih =>
    intro pre out hl ho
    have hl' : pre.length + (ys.length + 1) ≤ 500 := by simpa using hl
    have hlt : (pre.length : Int) < ((pre ++ y :: ys).length : Int) := by simp; omega
    have hb := bl_bd y 5000 (by omega)
    have i := ih (pre ++ [y]) (out ++ [am y]) (by simpa using hl) (by simp [ho])
    rw [show out ++ [am y] ++ ys.map am = out ++ (y :: ys).map am from by simp] at i
    refine Ev.step (fun k => ?_) i
    simp only [mootkeep5_amounts.l0, rd_at, below_is y 5000 (by omega) (by omega)]
    rw [if_pos hlt, if_pos (by omega), if_pos hlt]
    show (if _ then _ else _) = _
    rw [if_pos (by omega), w64 (x := bl y 5000 - 1000) (by omega) (by omega), w64 (x := (pre.length : Int) + 1) (by omega) (by omega), len_next]
    simp [am]
def vals (l : List Int) : List Int := (l.take 500).map am
theorem amounts_is (l : List Int) : Ev (fun k => mootkeep5_amounts.f k l) (vals l) := by
  have h := amounts_l0 (l.take 500) [] [] (by simp; omega) rfl
  refine Ev.congr (fun k => ?_) h
  unfold mootkeep5_amounts.f
  have e : mn (l.length : Int) 500 = ((min l.length 500 : Nat) : Int) := by unfold mn; split <;> omega
  rw [e, if_pos (by omega), if_pos (by omega), Int.toNat_natCast]
  have e2 : l.take (min l.length 500) = l.take 500 := by
    rcases Nat.le_total l.length 500 with h | h
    · rw [Nat.min_eq_left h, List.take_of_length_le (Nat.le_refl _), List.take_of_length_le h]
    · rw [Nat.min_eq_right h]
  rw [e2]
  rfl
theorem vals_len (l : List Int) : (vals l).length ≤ 500 := by unfold vals; simp; omega
theorem vals_bd (l : List Int) : ∀ x ∈ vals l, -1000 ≤ x ∧ x < 4000 := by
  intro x hx
  obtain ⟨y, _, rfl⟩ := List.mem_map.1 hx
  exact am_bd y
theorem fl_zero : ∀ {l : List Int}, (∀ x ∈ l, -1000 ≤ x ∧ x < 4000) → fl l = 0
  | [], _ => rfl
  | y :: ys, h => by
    have := h y (by simp)
    rw [fl_cons, if_neg (by omega), if_neg (by omega)]
    exact fl_zero (fun x hx => h x (List.mem_cons_of_mem _ hx))
theorem sm_amount : ∀ {l : List Int}, (∀ x ∈ l, -1000 ≤ x ∧ x < 4000) → -1000 * (l.length : Int) ≤ sm l ∧ sm l ≤ 4000 * (l.length : Int)
  | [], _ => by simp [sm]
  | y :: ys, h => by
    have := h y (by simp)
    have := sm_amount (fun x hx => h x (List.mem_cons_of_mem _ hx) : ∀ x ∈ ys, _)
    simp only [sm, List.length_cons]; omega
theorem total_l0 (suf : List Int) : ∀ pre : List Int, (∀ x ∈ pre ++ suf, -1000 ≤ x ∧ x < 4000) → (pre ++ suf).length ≤ 500 → Ev (fun k => mootkeep5_total.l0 k (sm pre) (pre ++ suf) ((pre ++ suf).length : Int) (pre.length : Int)) (sm (pre ++ suf)) := by
  induction suf with
  | nil =>
    intro pre hb hl
    refine Ev.step (fun k => ?_) (Ev.now _)
    simp only [mootkeep5_total.l0]
    rw [if_neg (by simp)]
    simp
  | cons y ys ih =>
    intro pre hb hl
    have hl' : pre.length + (ys.length + 1) ≤ 500 := by simpa using hl
    have hlt : (pre.length : Int) < ((pre ++ y :: ys).length : Int) := by simp; omega
    have h1 := sm_amount (fun x hx => hb x (List.mem_append_left _ hx) : ∀ x ∈ pre, _)
    have h2 := hb y (by simp)
    have i := ih (pre ++ [y]) (by simpa using hb) (by simpa using hl)
    rw [show pre ++ [y] ++ ys = pre ++ y :: ys from by simp, sm_last] at i
    refine Ev.step (fun k => ?_) i
    simp only [mootkeep5_total.l0, rd_at]
    rw [if_pos hlt, if_pos (by omega), if_pos hlt, w64 (x := sm pre + y) (by omega) (by omega), w64 (x := (pre.length : Int) + 1) (by omega) (by omega), len_next]
theorem total_is (l : List Int) (hb : ∀ x ∈ l, -1000 ≤ x ∧ x < 4000) (hl : l.length ≤ 500) : Ev (fun k => mootkeep5_total.f k l) (sm l) := total_l0 l [] hb hl

theorem mean_l0 (g : Nat) (suf : List Int) : ∀ pre : List Int, (∀ x ∈ pre ++ suf, -1000 ≤ x ∧ x < 4000) → (pre ++ suf).length ≤ 500 → 0 < (pre ++ suf).length → g = Nat.gcd (sm (pre ++ suf)).natAbs (pre ++ suf).length →
    Ev (fun k => group_Mean.l0 k (pre ++ suf) (sm pre) (pre ++ suf) ((pre ++ suf).length : Int) (pre.length : Int)) (wrap64 (Int.tdiv (sm (pre ++ suf)) g), wrap64 (((pre ++ suf).length : Int) / g), 0) := by
  induction suf with
  | nil =>
    intro pre hb hl h0 hg
    rw [List.append_nil] at hb hl h0 hg ⊢
    have h1 := sm_amount hb
    have c := gcd_l0 pre.length (sm pre).natAbs
    rw [← hg] at c
    have hgp : 0 < g := by rw [hg]; exact Nat.gcd_pos_of_pos_right _ h0
    refine Ev.step (f := fun k => (group_gcd.f k ((sm pre).natAbs : Int) (pre.length : Int)).bind fun t128 => (if t128 = 0 then (none) else (some (wrap64 (Int.tdiv (sm pre) t128), wrap64 ((pre.length : Int) / t128), (0 : Int))))) (fun k => ?_) (Ev.bind c (Ev.congr (fun k => ?_) (Ev.now _)))
    · simp only [group_Mean.l0]
      rw [if_neg (by omega), w64 (x := -(sm pre)) (by omega) (by omega), show mx (sm pre) (-(sm pre)) = ((sm pre).natAbs : Int) from by unfold mx; split <;> omega]
    · rw [if_neg (by omega)]
  | cons y ys ih =>
    intro pre hb hl h0 hg
    have hl' : pre.length + (ys.length + 1) ≤ 500 := by simpa using hl
    have hlt : (pre.length : Int) < ((pre ++ y :: ys).length : Int) := by simp; omega
    have h1 := sm_amount (fun x hx => hb x (List.mem_append_left _ hx) : ∀ x ∈ pre, _)
    have h2 := hb y (by simp)
    have i := ih (pre ++ [y]) (by simpa using hb) (by simpa using hl) (by simp; omega) (by simpa using hg)
    rw [show pre ++ [y] ++ ys = pre ++ y :: ys from by simp, sm_last] at i
    refine Ev.step (fun k => ?_) i
    simp only [group_Mean.l0, rd_at]
    rw [if_pos hlt, if_pos (by omega), if_pos hlt, w64 (x := sm pre + y) (by omega) (by omega), w64 (x := (pre.length : Int) + 1) (by omega) (by omega), len_next]
theorem mean_none : Ev (fun k => group_Mean.f k []) (0, 0, 11) := by
  have c := check_small [] (by simp)
  rw [show fl [] = 0 from rfl] at c
  unfold group_Mean.f
  refine Ev.bind c (Ev.now _)
theorem mean_is (l : List Int) (hb : ∀ x ∈ l, -1000 ≤ x ∧ x < 4000) (hl : l.length ≤ 500) (h0 : 0 < l.length) :
    Ev (fun k => group_Mean.f k l) (wrap64 (Int.tdiv (sm l) (Nat.gcd (sm l).natAbs l.length : Nat)), wrap64 ((l.length : Int) / (Nat.gcd (sm l).natAbs l.length : Nat)), 0) := by
  have c := check_small l (by omega)
  rw [fl_zero hb] at c
  have h := mean_l0 _ l [] hb hl h0 rfl
  unfold group_Mean.f
  refine Ev.bind c (Ev.congr (fun k => ?_) h)
  rw [if_pos rfl, if_neg (by omega)]
  rfl
theorem min_l0 (suf : List Int) : ∀ (pre : List Int) (m : Int), (pre ++ suf).length ≤ 500 → m ∈ pre → (∀ x ∈ pre, m ≤ x) → ∃ r, Ev (fun k => slices_Min_int_int.l0 k (pre ++ suf) m (pre.length : Int)) r ∧ r ∈ pre ++ suf ∧ ∀ x ∈ pre ++ suf, r ≤ x := by
  induction suf with
  | nil =>
    intro pre m hl hm hle
    refine ⟨m, Ev.step (fun k => ?_) (Ev.now _), by simpa using hm, by simpa using hle⟩
    simp only [slices_Min_int_int.l0]
    rw [if_neg (by simp)]
  | cons y ys ih =>
    intro pre m hl hm hle
    have hl' : pre.length + (ys.length + 1) ≤ 500 := by simpa using hl
    have hlt : (pre.length : Int) < ((pre ++ y :: ys).length : Int) := by simp; omega
    obtain ⟨r, h1, h2, h3⟩ := ih (pre ++ [y]) (mn m y) (by simpa using hl) (by unfold mn; split <;> simp [hm]) (by
      intro x hx
      rcases List.mem_append.1 hx with h | h
      · have := hle x h; unfold mn; split <;> omega
      · have : x = y := by simpa using h
        unfold mn; split <;> omega)
    rw [show pre ++ [y] ++ ys = pre ++ y :: ys from by simp] at h1 h2 h3
    refine ⟨r, Ev.step (fun k => ?_) h1, h2, h3⟩
    simp only [slices_Min_int_int.l0, rd_at]
    rw [if_pos hlt, if_pos (by omega), w64 (x := (pre.length : Int) + 1) (by omega) (by omega), len_next]
theorem max_l0 (suf : List Int) : ∀ (pre : List Int) (m : Int), (pre ++ suf).length ≤ 500 → m ∈ pre → (∀ x ∈ pre, x ≤ m) → ∃ r, Ev (fun k => slices_Max_int_int.l0 k (pre ++ suf) m (pre.length : Int)) r ∧ r ∈ pre ++ suf ∧ ∀ x ∈ pre ++ suf, x ≤ r := by
  induction suf with
  | nil =>
    intro pre m hl hm hle
    refine ⟨m, Ev.step (fun k => ?_) (Ev.now _), by simpa using hm, by simpa using hle⟩
    simp only [slices_Max_int_int.l0]
    rw [if_neg (by simp)]
  | cons y ys ih =>
    intro pre m hl hm hle
    have hl' : pre.length + (ys.length + 1) ≤ 500 := by simpa using hl
    have hlt : (pre.length : Int) < ((pre ++ y :: ys).length : Int) := by simp; omega
    obtain ⟨r, h1, h2, h3⟩ := ih (pre ++ [y]) (mx m y) (by simpa using hl) (by unfold mx; split <;> simp [hm]) (by
      intro x hx
      rcases List.mem_append.1 hx with h | h
      · have := hle x h; unfold mx; split <;> omega
      · have : x = y := by simpa using h
        unfold mx; split <;> omega)
    rw [show pre ++ [y] ++ ys = pre ++ y :: ys from by simp] at h1 h2 h3
    refine ⟨r, Ev.step (fun k => ?_) h1, h2, h3⟩
    simp only [slices_Max_int_int.l0, rd_at]
    rw [if_pos hlt, if_pos (by omega), w64 (x := (pre.length : Int) + 1) (by omega) (by omega), len_next]
theorem min_is (y : Int) (ys : List Int) (hl : (y :: ys).length ≤ 500) : ∃ r, Ev (fun k => slices_Min_int_int.f k (y :: ys)) r ∧ r ∈ y :: ys ∧ ∀ x ∈ y :: ys, r ≤ x := by
  obtain ⟨r, h1, h2, h3⟩ := min_l0 ys [y] y hl (by simp) (by simp)
  refine ⟨r, Ev.congr (fun k => ?_) h1, h2, h3⟩
  unfold slices_Min_int_int.f
  rw [if_neg (by simp; omega), if_pos (by simp)]
  rfl
theorem max_is (y : Int) (ys : List Int) (hl : (y :: ys).length ≤ 500) : ∃ r, Ev (fun k => slices_Max_int_int.f k (y :: ys)) r ∧ r ∈ y :: ys ∧ ∀ x ∈ y :: ys, x ≤ r := by
  obtain ⟨r, h1, h2, h3⟩ := max_l0 ys [y] y hl (by simp) (by simp)
  refine ⟨r, Ev.congr (fun k => ?_) h1, h2, h3⟩
  unfold slices_Max_int_int.f
  rw [if_neg (by simp; omega), if_pos (by simp)]
  rfl
theorem rd_mem (s : List Int) (K : Nat) (h : K < s.length) : rd s K = s[K] := by simp [rd, h]
theorem sorted_le (s : List Int) (hp : s.Pairwise (fun x y => x ≤ y)) (i j : Nat) (hi : i ≤ j) (hj : j < s.length) : s[i]'(by omega) ≤ s[j] := by
  rcases Nat.lt_or_ge i j with h | h
  · exact List.pairwise_iff_getElem.1 hp i j (by omega) hj h
  · have : i = j := by omega
    subst this
    exact Int.le_refl _
theorem sm_low (m : Int) : ∀ {l : List Int}, (∀ x ∈ l, m ≤ x) → m * (l.length : Int) ≤ sm l
  | [], _ => by simp [sm]
  | y :: ys, h => by
    have := h y (by simp)
    have := sm_low m (fun x hx => h x (List.mem_cons_of_mem _ hx) : ∀ x ∈ ys, _)
    simp only [sm, List.length_cons, Int.natCast_add, Int.mul_add]; omega
theorem sm_high (m : Int) : ∀ {l : List Int}, (∀ x ∈ l, x ≤ m) → sm l ≤ m * (l.length : Int)
  | [], _ => by simp [sm]
  | y :: ys, h => by
    have := h y (by simp)
    have := sm_high m (fun x hx => h x (List.mem_cons_of_mem _ hx) : ∀ x ∈ ys, _)
    simp only [sm, List.length_cons, Int.natCast_add, Int.mul_add]; omega
theorem GroupMeans : mootkeep5_GroupMeans.Pure := by
  intro l _ _ _
  refine Ev.rounds ?_
  unfold mootkeep5_GroupMeans.f
  have hb := vals_bd l
  have hl := vals_len l
  refine Ev.bind (amounts_is l) ?_
  generalize vals l = v at hb hl
  have hf := fl_zero hb
  cases v with
  | nil =>
    refine Ev.bind mean_none (Ev.bind (part_none 1 1000 (by omega) (by omega) (by omega)) (Ev.bind (part_none 1 1 (by omega) (by omega) (by omega)) ?_))
    exact Ev.congr (f := fun k => (mootkeep5_shared.f k).bind fun t => if t = true then some true else some false) (fun k => rfl) (Ev.bind shared_keep (Ev.now true))
  | cons y ys =>
    have h0 : 0 < (y :: ys).length := by simp
    obtain ⟨lo, m1, m2, m3⟩ := min_is y ys hl
    obtain ⟨hi, n1, n2, n3⟩ := max_is y ys hl
    have ht := total_is (y :: ys) hb hl
    have hmean := mean_is (y :: ys) hb hl h0
    have p1 := part_ok (y :: ys) 1 1000 (by omega) hf (by omega) (by omega) (by omega) (by simp) 0 h0 (by omega) (by omega)
    have p2 := part_ok (y :: ys) 1 1 (by omega) hf (by omega) (by omega) (by omega) (by simp) ((y :: ys).length - 1) (by omega) (by omega) (by omega)
    have hs := sort_len (y :: ys)
    have hp := sort_perm (y :: ys)
    have hso := sort_sorted (y :: ys)
    generalize sortInts.s (y :: ys) = s at p1 p2 hs hp hso
    generalize y :: ys = v at *
    have e1 : rd s (0 : Nat) = lo := by
      rw [rd_mem s 0 (by omega)]
      have a1 : s[0]'(by omega) ∈ v := hp.mem_iff.1 (List.getElem_mem _)
      have a2 := m3 _ a1
      obtain ⟨j, hj, e⟩ := List.getElem_of_mem (hp.mem_iff.2 m2)
      have := sorted_le s hso 0 j (by omega) hj
      omega
    have e2 : rd s (v.length - 1 : Nat) = hi := by
      rw [rd_mem s (v.length - 1) (by omega)]
      have a1 : s[v.length - 1]'(by omega) ∈ v := hp.mem_iff.1 (List.getElem_mem _)
      have a2 := n3 _ a1
      obtain ⟨j, hj, e⟩ := List.getElem_of_mem (hp.mem_iff.2 n2)
      have := sorted_le s hso j (v.length - 1) (by omega) (by omega)
      omega
    rw [e1] at p1
    rw [e2] at p2
    have hsm := sm_amount hb
    have hlo := hb lo m2
    have hhi := hb hi n2
    have s1 := sm_low lo m3
    have s2 := sm_high hi n3
    have d1 : Nat.gcd (sm v).natAbs v.length ∣ v.length := Nat.gcd_dvd_right _ _
    have d2 : Nat.gcd (sm v).natAbs v.length ∣ (sm v).natAbs := Nat.gcd_dvd_left _ _
    have hg : 0 < Nat.gcd (sm v).natAbs v.length := Nat.gcd_pos_of_pos_right _ h0
    generalize Nat.gcd (sm v).natAbs v.length = g at hmean d1 d2 hg
    obtain ⟨b, hbq⟩ := d1
    obtain ⟨a, haq⟩ := Int.ofNat_dvd_left.2 d2
    have q1 : Int.tdiv (sm v) (g : Int) = a := by rw [haq]; exact Int.mul_tdiv_cancel_left _ (by omega)
    have q2 : ((v.length : Nat) : Int) / (g : Int) = (b : Int) := by rw [hbq, Int.natCast_mul]; exact Int.mul_ediv_cancel_left _ (by omega)
    have hb0 : 0 < b := by rcases Nat.eq_zero_or_pos b with e | e; rw [e] at hbq; omega; exact e
    have hb5 : b ≤ 500 := by have : 1 * b ≤ g * b := Nat.mul_le_mul_right b hg; omega
    have hbi : ((v.length : Nat) : Int) = (g : Int) * b := by rw [hbq, Int.natCast_mul]
    have f1 : lo * b ≤ a := by
      refine Int.le_of_mul_le_mul_left (a := (g : Int)) ?_ (by omega)
      rw [← haq, ← Int.mul_assoc, Int.mul_comm (g : Int) lo, Int.mul_assoc, ← hbi]; exact s1
    have f2 : a ≤ hi * b := by
      refine Int.le_of_mul_le_mul_left (a := (g : Int)) ?_ (by omega)
      rw [← haq, ← Int.mul_assoc, Int.mul_comm (g : Int) hi, Int.mul_assoc, ← hbi]; exact s2
    have f3 : a * (v.length : Int) = sm v * b := by rw [haq, hbi, ← Int.mul_assoc, Int.mul_comm a (g : Int)]
    have b1 : -1000 * (b : Int) ≤ lo * b := Int.mul_le_mul_of_nonneg_right (by omega) (by omega)
    have b2 : lo * b ≤ 4000 * (b : Int) := Int.mul_le_mul_of_nonneg_right (by omega) (by omega)
    have b3 : -1000 * (b : Int) ≤ hi * b := Int.mul_le_mul_of_nonneg_right (by omega) (by omega)
    have b4 : hi * b ≤ 4000 * (b : Int) := Int.mul_le_mul_of_nonneg_right (by omega) (by omega)
    rw [q1, q2, w64 (by omega) (by omega), w64 (x := (b : Int)) (by omega) (by omega)] at hmean
    refine Ev.bind hmean (Ev.bind p1 (Ev.bind p2 ?_))
    have w1 : wrap64 (lo * (b : Int)) = lo * b := w64 (by omega) (by omega)
    have w2 : wrap64 (hi * (b : Int)) = hi * b := w64 (by omega) (by omega)
    have bp : (b : Int) > 0 := by omega
    have z0 : ¬ ((v.length : Int) = 0) := by omega
    refine Ev.congr (f := fun k => (mootkeep5_shared.f k).bind fun t145 => if t145 = true then (slices_Min_int_int.f k v).bind fun t146 => (if lo = t146 then ((slices_Max_int_int.f k v).bind fun t147 => if hi = t147 then (mootkeep5_total.f k v).bind fun t148 => (some ((wrap64 (a * (v.length : Int))) == (wrap64 (t148 * (b : Int))))) else some false) else some false) else some false) (fun k => ?_) ?_
    · rw [if_neg z0]
      simp only [w1, w2, f1, f2, bp, if_true]
    · refine Ev.bind shared_keep (Ev.congr (f := fun k => (slices_Min_int_int.f k v).bind fun t146 => (if lo = t146 then ((slices_Max_int_int.f k v).bind fun t147 => if hi = t147 then (mootkeep5_total.f k v).bind fun t148 => (some ((wrap64 (a * (v.length : Int))) == (wrap64 (t148 * (b : Int))))) else some false) else some false)) (fun k => by rw [if_pos rfl]) (Ev.bind m1 ?_))
      refine Ev.congr (f := fun k => (slices_Max_int_int.f k v).bind fun t147 => if hi = t147 then (mootkeep5_total.f k v).bind fun t148 => (some ((wrap64 (a * (v.length : Int))) == (wrap64 (t148 * (b : Int))))) else some false) (fun k => by rw [if_pos rfl]) (Ev.bind n1 ?_)
      refine Ev.congr (f := fun k => (mootkeep5_total.f k v).bind fun t148 => (some ((wrap64 (a * (v.length : Int))) == (wrap64 (t148 * (b : Int)))))) (fun k => by rw [if_pos rfl]) (Ev.bind ht ?_)
      refine Ev.congr (fun k => ?_) (Ev.now true)
      rw [f3]
      simp
end Go.Proofs.Ytihmanjgkjenbaa.Pure
