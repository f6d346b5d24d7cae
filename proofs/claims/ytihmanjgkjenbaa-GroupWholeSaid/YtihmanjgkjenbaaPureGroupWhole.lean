/- Chapter 53: the groups, and the parts, have all values and their whole sum. -/
import Derived.Test.YtihmanjgkjenbaaPGroupWholex3
import Derived.Lib.Mul64
import Derived.OpenShut
import Derived.Laws.Bits64b
namespace Go.Proofs.Ytihmanjgkjenbaa.Pure
open Go.RowKit Go.Proofs.Ytihmanjgkjenbaa.PGroupWhole Go.Proofs.YtihmanjgkjenbaaW.PrintWords Go.Proofs.YtihmanjgkjenbaaW.PrintLast Go.Proofs.YtihmanjgkjenbaaW.PrintMore
theorem w64 {x : Int} (h0 : -9223372036854775808 ≤ x) (h1 : x < 9223372036854775808) : wrap64 x = x := by unfold wrap64; omega
theorem rd_at (pre : List Int) (y : Int) (suf : List Int) : rd (pre ++ y :: suf) (pre.length : Int) = y := by simp [rd]
theorem len_next (pre : List Int) (y : Int) : ((pre ++ [y]).length : Int) = (pre.length : Int) + 1 := by simp

/-- What the checks of values tell of values that are not too many. -/
def fl : List Int → Int
  | [] => 0
  | y :: ys => if y < -1099511627776 then 1 else if y > 1099511627776 then 1 else fl ys
theorem fl_cons (y : Int) (ys : List Int) : fl (y :: ys) = if y < -1099511627776 then 1 else if y > 1099511627776 then 1 else fl ys := rfl
theorem fl_ok : ∀ {l : List Int}, fl l = 0 → ∀ x ∈ l, -1099511627776 ≤ x ∧ x ≤ 1099511627776
  | [], _, x, hx => by cases hx
  | y :: ys, h, x, hx => by
    rw [fl_cons] at h
    by_cases c : y < -1099511627776
    · rw [if_pos c] at h; omega
    · rw [if_neg c] at h
      by_cases d : y > 1099511627776
      · rw [if_pos d] at h; omega
      · rw [if_neg d] at h
        rcases List.mem_cons.1 hx with e | hx
        · omega
        · exact fl_ok h x hx
theorem fl_cases : ∀ (l : List Int), fl l = 0 ∨ fl l = 1
  | [] => .inl rfl
  | y :: ys => by rw [fl_cons]; split; exact .inr rfl; split; exact .inr rfl; exact fl_cases ys

theorem check_l0 (suf : List Int) : ∀ pre : List Int, pre.length + suf.length ≤ 1000 → Ev (fun k => group_Check.l0 k (pre ++ suf) ((pre ++ suf).length : Int) (pre.length : Int)) (fl suf) := by
  induction suf with
  | nil =>
    intro pre hl
    refine ⟨1, fun k hk => ?_⟩
    obtain ⟨k, rfl⟩ : ∃ m, k = m + 1 := ⟨k - 1, by omega⟩
    simp only [group_Check.l0]
    rw [if_neg (by simp)]
    rfl
  | cons y ys ih =>
    intro pre hl
    have hl' : pre.length + (ys.length + 1) ≤ 1000 := hl
    have hlt : (pre.length : Int) < ((pre ++ y :: ys).length : Int) := by simp; omega
    rw [fl_cons]
    by_cases c : y < -1099511627776
    · refine ⟨1, fun k hk => ?_⟩
      obtain ⟨k, rfl⟩ : ∃ m, k = m + 1 := ⟨k - 1, by omega⟩
      simp only [group_Check.l0, rd_at]
      rw [if_pos hlt, if_pos (by omega), if_pos hlt, if_pos c, if_pos c]
    · by_cases d : y > 1099511627776
      · refine ⟨1, fun k hk => ?_⟩
        obtain ⟨k, rfl⟩ : ∃ m, k = m + 1 := ⟨k - 1, by omega⟩
        simp only [group_Check.l0, rd_at]
        rw [if_pos hlt, if_pos (by omega), if_pos hlt, if_neg c, if_pos d, if_neg c, if_pos d]
      · rw [if_neg c, if_neg d]
        refine Ev.step (fun k => ?_) (ih (pre ++ [y]) (by simp; omega))
        simp only [group_Check.l0, rd_at]
        rw [if_pos hlt, if_pos (by omega), if_pos hlt, if_neg c, if_neg d, w64 (by omega) (by omega), len_next]
        simp
theorem check_small (l : List Int) (h : l.length ≤ 1000) : Ev (fun k => group_Check.f k l) (fl l) := by
  refine Ev.congr (fun k => ?_) (check_l0 l [] (by simpa using h))
  unfold group_Check.f
  rw [if_neg (by omega)]
  rfl
theorem check_large (l : List Int) (h : ¬ l.length ≤ 1000) : Ev (fun k => group_Check.f k l) 2 := by
  refine Ev.congr (fun k => ?_) (Ev.now 2)
  unfold group_Check.f
  rw [if_pos (by omega)]

theorem sorted_eq : ∀ (a b : List Int), a.Pairwise (fun x y => x ≤ y) → b.Pairwise (fun x y => x ≤ y) → a.Perm b → a = b
  | [], b, _, _, h => by rw [List.nil_perm.1 h]
  | x :: xs, [], _, _, h => by have := h.length_eq; simp at this
  | x :: xs, y :: ys, ha, hb, h => by
    have h1 := List.pairwise_cons.1 ha
    have h2 := List.pairwise_cons.1 hb
    have hx : x ∈ y :: ys := h.mem_iff.1 (by simp)
    have hy : y ∈ x :: xs := h.mem_iff.2 (by simp)
    have e : x = y := by
      rcases List.mem_cons.1 hx with e | hx
      · exact e
      · rcases List.mem_cons.1 hy with e | hy
        · exact e.symm
        · have := h1.1 y hy
          have := h2.1 x hx
          omega
    subst e
    rw [sorted_eq xs ys h1.2 h2.2 (List.perm_cons x |>.1 h)]
theorem sort_perm (l : List Int) : (sortInts.s l).Perm l := List.mergeSort_perm l _
theorem sort_sorted (l : List Int) : (sortInts.s l).Pairwise (fun x y => x ≤ y) := by
  have := List.pairwise_mergeSort (le := fun (x y : Int) => decide (x ≤ y)) (by intro a b c; simp; omega) (by intro a b; simp; omega) l
  exact this.imp (by simp)
theorem sort_len (l : List Int) : (sortInts.s l).length = l.length := (sort_perm l).length_eq
theorem sort_is (l m : List Int) (h : m.Pairwise (fun x y => x ≤ y)) (hp : m.Perm l) : sortInts.s l = m := sorted_eq _ _ (sort_sorted l) h ((sort_perm l).trans hp.symm)
theorem seq_small (l : List Int) (h : l.length ≤ 1000) : sortedSeq.f l = some (sortInts.s l) := by
  unfold sortedSeq.f
  rw [if_pos (by omega)]

theorem gcd_l0 (b : Nat) : ∀ a : Nat, Ev (fun k => group_gcd.l0 k (a : Int) (b : Int)) (Nat.gcd a b : Nat) := by
  induction b using Nat.strongRecOn with
  | _ b ih =>
    intro a
    by_cases h : b = 0
    · subst h
      refine ⟨1, fun k hk => ?_⟩
      obtain ⟨k, rfl⟩ : ∃ m, k = m + 1 := ⟨k - 1, by omega⟩
      simp only [group_gcd.l0]
      rw [if_neg (by omega)]
      simp
    · have := ih (a % b) (Nat.mod_lt _ (by omega)) b
      rw [Nat.gcd_comm b (a % b), ← Nat.gcd_rec b a, Nat.gcd_comm b a] at this
      refine Ev.step (fun k => ?_) this
      simp only [group_gcd.l0]
      rw [if_pos (by omega), if_neg (by omega), Int.tmod_eq_emod_of_nonneg (by omega)]
      rfl

def sm : List Int → Int
  | [] => 0
  | y :: ys => y + sm ys
def dv (x : Int) : List Int → Int
  | [] => 0
  | y :: ys => mx (x - y) (y - x) + dv x ys
def pr : List Int → Int
  | [] => 0
  | y :: ys => dv y ys + pr ys
def Bd (l : List Int) : Prop := ∀ x ∈ l, 0 ≤ x ∧ x ≤ 1099511627776
theorem Bd.tail {y : Int} {ys : List Int} (h : Bd (y :: ys)) : Bd ys := fun x hx => h x (List.mem_cons_of_mem _ hx)
theorem Bd.head {y : Int} {ys : List Int} (h : Bd (y :: ys)) : 0 ≤ y ∧ y ≤ 1099511627776 := h y (by simp)
theorem mx_abs (a b : Int) : mx (a - b) (b - a) = mx (b - a) (a - b) := by unfold mx; omega
theorem mx_nn (a b : Int) : 0 ≤ mx (a - b) (b - a) := by unfold mx; omega
theorem sm_perm {a b : List Int} (h : a.Perm b) : sm a = sm b := by
  induction h with
  | nil => rfl
  | cons x _ ih => simp only [sm]; omega
  | swap x y l => simp only [sm]; omega
  | trans _ _ i j => exact i.trans j
theorem dv_perm (z : Int) {a b : List Int} (h : a.Perm b) : dv z a = dv z b := by
  induction h with
  | nil => rfl
  | cons x _ ih => simp only [dv]; omega
  | swap x y l => simp only [dv]; omega
  | trans _ _ i j => exact i.trans j
theorem pr_perm {a b : List Int} (h : a.Perm b) : pr a = pr b := by
  induction h with
  | nil => rfl
  | cons x h ih => simp only [pr]; rw [dv_perm x h]; omega
  | swap x y l => simp only [pr, dv]; rw [mx_abs x y]; omega
  | trans _ _ i j => exact i.trans j
theorem sm_last (l : List Int) (x : Int) : sm (l ++ [x]) = sm l + x := by
  rw [sm_perm (List.perm_append_comm : (l ++ [x]).Perm ([x] ++ l))]; simp [sm]; omega
theorem pr_last (l : List Int) (x : Int) : pr (l ++ [x]) = pr l + dv x l := by
  rw [pr_perm (List.perm_append_comm : (l ++ [x]).Perm ([x] ++ l))]; simp [pr]; omega
theorem dv_nn (x : Int) : ∀ l : List Int, 0 ≤ dv x l
  | [] => by simp [dv]
  | y :: ys => by have := dv_nn x ys; have := mx_nn x y; simp only [dv]; omega
theorem sm_bd : ∀ {l : List Int}, Bd l → 0 ≤ sm l ∧ sm l ≤ (l.length : Int) * 1099511627776
  | [], _ => by simp [sm]
  | y :: ys, h => by have := sm_bd h.tail; have := h.head; simp only [sm, List.length_cons]; omega
theorem dv_bd {x : Int} (hx : 0 ≤ x ∧ x ≤ 1099511627776) : ∀ {l : List Int}, Bd l → dv x l ≤ (l.length : Int) * 1099511627776
  | [], _ => by simp [dv]
  | y :: ys, h => by
    have := dv_bd hx h.tail
    have := h.head
    have : mx (x - y) (y - x) ≤ 1099511627776 := by unfold mx; omega
    simp only [dv, List.length_cons]; omega
theorem pr_bd : ∀ {l : List Int}, Bd l → l.length ≤ 1000 → 0 ≤ pr l ∧ pr l ≤ (l.length : Int) * 1099511627776000
  | [], _, _ => by simp [pr]
  | y :: ys, h, hl => by
    have hl' : ys.length + 1 ≤ 1000 := hl
    have := pr_bd h.tail (by omega)
    have := dv_bd h.head h.tail
    have := dv_nn y ys
    simp only [pr, List.length_cons]; omega
theorem dv_sorted (x : Int) : ∀ l : List Int, (∀ y ∈ l, y ≤ x) → dv x l = (l.length : Int) * x - sm l
  | [], _ => by simp [dv, sm]
  | y :: ys, h => by
    have h1 := dv_sorted x ys (fun z hz => h z (by simp [hz]))
    have h2 := h y (by simp)
    have h3 : mx (x - y) (y - x) = x - y := by unfold mx; omega
    simp only [dv, sm, List.length_cons]
    rw [h1, h3, Int.natCast_add, Int.add_mul]
    omega

def gini (l : List Int) : Int × Int × Int :=
  if sm l = 0 then (0, 0, 11) else (wrap64 (Int.tdiv (pr l) (Nat.gcd (pr l).toNat (sm l * l.length).toNat : Nat)), wrap64 (Int.tdiv (sm l * l.length) (Nat.gcd (pr l).toNat (sm l * l.length).toNat : Nat)), 0)
theorem prod_bd {l : List Int} (h : Bd l) (hl : l.length ≤ 1000) : 0 ≤ sm l * (l.length : Int) ∧ sm l * (l.length : Int) ≤ 1099511627776000000 := by
  have h1 := sm_bd h
  have h2 : sm l * (l.length : Int) ≤ sm l * 1000 := Int.mul_le_mul_of_nonneg_left (by omega) h1.1
  exact ⟨Int.mul_nonneg h1.1 (by omega), by omega⟩
theorem gini_l0 (s : List Int) (hs : Bd s) (hl : s.length ≤ 1000) (hp : s.Pairwise (fun x y => x ≤ y)) (suf : List Int) : ∀ pre : List Int, s = pre ++ suf →
    Ev (fun k => group_Gini.l0 k s (sm pre) (pr pre - ((s.length : Int) - pre.length) * sm pre) s (s.length : Int) (pre.length : Int)) (gini s) := by
  induction suf with
  | nil =>
    intro pre e
    obtain rfl : s = pre := by simpa using e
    have hb := prod_bd hs hl
    have hb1 := pr_bd hs hl
    by_cases c : sm s = 0
    · refine Ev.step (fun k => ?_) (Ev.now _)
      simp only [group_Gini.l0]
      rw [if_neg (by omega), if_pos c]
      unfold gini
      rw [if_pos c]
    · have hn0 : s ≠ [] := fun e => c (by rw [e]; rfl)
      have hn : 0 < s.length := List.length_pos_iff.2 hn0
      have h1 := sm_bd hs
      have hpos : 0 < sm s * (s.length : Int) := Int.mul_pos (by omega) (by omega)
      have hg := gcd_l0 (sm s * (s.length : Int)).toNat (pr s).toNat
      rw [Int.toNat_of_nonneg hb.1, Int.toNat_of_nonneg hb1.1] at hg
      have hgp : 0 < Nat.gcd (pr s).toNat (sm s * (s.length : Int)).toNat := Nat.gcd_pos_of_pos_right _ (by omega)
      refine Ev.step (fun k => ?_) (Ev.bind hg (f := fun _ (t108 : Int) => (if t108 = 0 then (none) else (some (wrap64 (Int.tdiv (pr s) t108), wrap64 (Int.tdiv (sm s * (s.length : Int)) t108), (0 : Int))))) ?_)
      · simp only [group_Gini.l0]
        rw [if_neg (by omega), if_neg c, w64 (x := sm s * (s.length : Int)) (by omega) (by omega), show (s.length : Int) - s.length = 0 from by omega, Int.zero_mul, Int.sub_zero]
        rfl
      · refine Ev.congr (fun k => ?_) (Ev.now _)
        unfold gini
        rw [if_neg c, if_neg (by omega)]
  | cons y ys ih =>
    intro pre e
    have hlen : s.length = pre.length + (ys.length + 1) := by rw [e]; simp
    have hbp : Bd pre := fun x hx => hs x (by rw [e]; simp [hx])
    have hy : 0 ≤ y ∧ y ≤ 1099511627776 := hs y (by rw [e]; simp)
    have h1 := sm_bd hbp
    have h2 := pr_bd hbp (by omega)
    have hd : dv y pre = (pre.length : Int) * y - sm pre := dv_sorted y pre (fun z hz => by
      rw [e] at hp
      exact (List.pairwise_append.1 hp).2.2 z hz y (by simp))
    have ihs := ih (pre ++ [y]) (by rw [e]; simp)
    have hrd : rd s (pre.length : Int) = y := by rw [e]; exact rd_at pre y ys
    have hlt : (pre.length : Int) < (s.length : Int) := by omega
    have b1 : ((s.length : Int) - pre.length) * sm pre ≤ 1000 * sm pre := Int.mul_le_mul_of_nonneg_right (by omega) h1.1
    have b2 : 0 ≤ ((s.length : Int) - pre.length) * sm pre := Int.mul_nonneg (by omega) h1.1
    have b3 : (2 * (pre.length : Int) + 1 - s.length) * y ≤ 2001 * y := Int.mul_le_mul_of_nonneg_right (by omega) hy.1
    have b4 : (-1000) * y ≤ (2 * (pre.length : Int) + 1 - s.length) * y := Int.mul_le_mul_of_nonneg_right (by omega) hy.1
    refine Ev.step (fun k => ?_) ihs
    simp only [group_Gini.l0, hrd]
    rw [if_pos hlt, if_pos (by omega), if_pos hlt, w64 (x := sm pre + y) (by omega) (by omega), w64 (x := 2 * (pre.length : Int)) (by omega) (by omega),
      w64 (x := 2 * (pre.length : Int) + 1) (by omega) (by omega), w64 (x := 2 * (pre.length : Int) + 1 - s.length) (by omega) (by omega),
      w64 (x := (2 * (pre.length : Int) + 1 - s.length) * y) (by omega) (by omega), w64 (x := (pre.length : Int) + 1) (by omega) (by omega),
      w64 (x := pr pre - ((s.length : Int) - pre.length) * sm pre + (2 * (pre.length : Int) + 1 - s.length) * y) (by omega) (by omega), sm_last, pr_last, hd, len_next]
    congr 1
    simp only [Int.sub_mul, Int.add_mul, Int.mul_add, Int.mul_assoc, Int.one_mul, ← Int.sub_sub]
    omega
theorem gini_ok (l : List Int) (hb : Bd l) (hl : l.length ≤ 1000) (hf : fl l = 0) : Ev (fun k => group_Gini.f k l) (gini l) := by
  have hs := sort_perm l
  have hn : (sortInts.s l).length = l.length := sort_len l
  have hbs : Bd (sortInts.s l) := fun x hx => hb x (hs.mem_iff.1 hx)
  have c := check_small l hl
  rw [hf] at c
  have h0 := gini_l0 (sortInts.s l) hbs (by omega) (sort_sorted l) (sortInts.s l) [] (by simp)
  have eg : gini (sortInts.s l) = gini l := by
    unfold gini
    rw [sm_perm hs, pr_perm hs, hn]
  rw [eg] at h0
  unfold group_Gini.f
  refine Ev.bind c ?_
  refine Ev.congr (f := fun k => group_Gini.j0 k (sortInts.s l) false) (fun k => ?_) (Ev.step (fun k => ?_) h0)
  · rw [if_pos rfl, seq_small l hl]
    show (if _ then _ else _) = _
    by_cases d : ((sortInts.s l).length : Int) > 0
    · rw [if_pos d, if_pos d]
      have : 0 ≤ rd (sortInts.s l) 0 := by
        cases e : sortInts.s l with
        | nil => rw [e] at d; simp at d
        | cons y ys => rw [e] at hbs; simpa [rd] using hbs.head.1
      rw [show decide (rd (sortInts.s l) 0 < 0) = false from by simpa using this]
    · rw [if_neg d]
  · simp only [group_Gini.j0]
    rw [if_neg (by decide)]
    simp [sm, pr]
theorem gini_neg (l : List Int) (hl : l.length ≤ 1000) (hf : fl l = 0) (h : ∃ x ∈ l, x < 0) : Ev (fun k => group_Gini.f k l) (0, 0, 1) := by
  obtain ⟨x, hx, h⟩ := h
  have hs := sort_perm l
  have c := check_small l hl
  rw [hf] at c
  unfold group_Gini.f
  refine Ev.bind c ?_
  refine Ev.congr (f := fun k => group_Gini.j0 k (sortInts.s l) true) (fun k => ?_) (Ev.step (fun k => ?_) (Ev.now _))
  · rw [if_pos rfl, seq_small l hl]
    show (if _ then _ else _) = _
    have hx' := hs.mem_iff.2 hx
    have hp := sort_sorted l
    have d : ((sortInts.s l).length : Int) > 0 := by
      have := List.length_pos_iff.2 (List.ne_nil_of_mem hx')
      omega
    rw [if_pos d, if_pos d]
    have : rd (sortInts.s l) 0 < 0 := by
      cases e : sortInts.s l with
      | nil => rw [e] at d; simp at d
      | cons y ys =>
        rw [e] at hx' hp
        have : y < 0 := by
          rcases List.mem_cons.1 hx' with e | hx'
          · omega
          · have := (List.pairwise_cons.1 hp).1 x hx'
            omega
        simpa [rd] using this
    rw [show decide (rd (sortInts.s l) 0 < 0) = true from by simpa using this]
  · simp only [group_Gini.j0]
    rw [if_pos trivial]
theorem gini_small (l : List Int) (hl : l.length ≤ 1000) (hf : fl l = 1) : Ev (fun k => group_Gini.f k l) (0, 0, 1) := by
  have c := check_small l hl
  rw [hf] at c
  unfold group_Gini.f
  refine Ev.bind c ?_
  refine Ev.congr (fun k => ?_) (Ev.now _)
  rw [if_neg (by decide)]
theorem gini_large (l : List Int) (hl : ¬ l.length ≤ 1000) : Ev (fun k => group_Gini.f k l) (0, 0, 2) := by
  unfold group_Gini.f
  refine Ev.bind (check_large l hl) ?_
  refine Ev.congr (fun k => ?_) (Ev.now _)
  rw [if_neg (by decide)]

/-! parts -/
def wsum : Int → List Int → Int
  | a, [] => a
  | a, y :: ys => wsum (wrap64 (a + y)) ys
/-- Where part i begins, and its size. -/
def pa (N n i : Nat) : Nat := i * (N / n) + min i (N % n)
def ps (N n i : Nat) : Nat := N / n + if i < N % n then 1 else 0
theorem pa_next (N n i : Nat) : pa N n (i + 1) = pa N n i + ps N n i := by
  unfold pa ps
  rw [Nat.add_mul, Nat.one_mul]
  generalize i * (N / n) = a
  generalize N / n = q
  generalize N % n = r
  by_cases c : i < r
  · rw [if_pos c]; omega
  · rw [if_neg c]; omega
theorem pa_le (N n i : Nat) (h : i ≤ n) : pa N n i ≤ N := by
  unfold pa
  have h1 : i * (N / n) ≤ n * (N / n) := Nat.mul_le_mul_right _ h
  have h2 := Nat.div_add_mod N n
  omega
theorem pa_rest (N n i : Nat) (h : i < n) : N - pa N n i = (n - i) * (N / n) + (N % n - min i (N % n)) := by
  have h2 := Nat.div_add_mod N n
  have h3 : (n - i) * (N / n) = n * (N / n) - i * (N / n) := Nat.sub_mul _ _ _
  have h1 : i * (N / n) ≤ n * (N / n) := Nat.mul_le_mul_right _ (by omega)
  unfold pa
  omega
theorem ps_key (d q t : Nat) (h : t < d) : (d * q + t) / d + (if (d * q + t) % d > 0 then 1 else 0) = q + (if t > 0 then 1 else 0) := by
  rw [Nat.mul_add_div (by omega), Nat.mul_add_mod, Nat.div_eq_of_lt h, Nat.mod_eq_of_lt h, Nat.add_zero]
theorem ps_is (N n i : Nat) (h : i < n) : (N - pa N n i) / (n - i) + (if (N - pa N n i) % (n - i) > 0 then 1 else 0) = ps N n i := by
  have hr : N % n < n := Nat.mod_lt _ (by omega)
  rw [pa_rest N n i h, ps_key _ _ _ (by omega)]
  unfold ps
  by_cases c : i < N % n
  · rw [if_pos c, if_pos (by omega)]
  · rw [if_neg c, if_neg (by omega)]
/-- The sums of m parts from part i on. -/
def sg (s : List Int) (n : Nat) : Nat → Nat → List Int
  | _, 0 => []
  | i, m + 1 => wsum 0 ((s.drop (pa s.length n i)).take (ps s.length n i)) :: sg s n (i + 1) m
theorem sg_len (s : List Int) (n : Nat) : ∀ m i, (sg s n i m).length = m
  | 0, _ => rfl
  | m + 1, i => by simp [sg, sg_len s n m (i + 1)]
theorem set_at (pre : List Int) (y z : Int) (suf : List Int) : (pre ++ y :: suf).set (pre.length : Int).toNat z = pre ++ z :: suf := by simp
theorem parts_l1 (n x10 x30 : Int) (x7 dn zs : List Int) (r : List Int × Int) (h0 : 0 ≤ x10) (h1 : x10 ≤ (x7.length : Int)) (hd : dn.length ≤ 2000) (q2 : List Int) : ∀ (q1 : List Int) (acc : Int), (q1 ++ q2).length ≤ 2000 →
    Ev (fun k => group_Parts.l0 k n (x7.drop x10.toNat) (dn ++ wsum acc q2 :: zs) x30 (wrap64 ((dn.length : Int) + 1))) r →
    Ev (fun k => group_Parts.l1 k n x7 (dn ++ acc :: zs) (dn.length : Int) x10 x30 (dn.length : Int) (q1 ++ q2) ((q1 ++ q2).length : Int) (q1.length : Int)) r := by
  induction q2 with
  | nil =>
    intro q1 acc hl h
    refine Ev.step (fun k => ?_) h
    simp only [group_Parts.l1, wsum]
    rw [if_neg (by simp), if_pos h0, if_pos h1]
  | cons y ys ih =>
    intro q1 acc hl h
    have hl' : q1.length + (ys.length + 1) ≤ 2000 := by simpa using hl
    have hlt : (q1.length : Int) < ((q1 ++ y :: ys).length : Int) := by simp; omega
    have hlt2 : (dn.length : Int) < ((dn ++ acc :: zs).length : Int) := by simp; omega
    refine Ev.step (fun k => ?_) (ih (q1 ++ [y]) (wrap64 (acc + y)) (by simpa using hl) h)
    simp only [group_Parts.l1, rd_at, set_at]
    rw [if_pos hlt, if_pos (by omega), if_pos hlt, if_pos (by omega), if_pos hlt2, w64 (x := (q1.length : Int) + 1) (by omega) (by omega), len_next]
    simp
theorem parts_l0 (s : List Int) (n : Nat) (hn : n ≤ 1000) (hs : s.length ≤ 1000) (m : Nat) : ∀ (dn : List Int), dn.length + m = n →
    Ev (fun k => group_Parts.l0 k (n : Int) (s.drop (pa s.length n dn.length)) (dn ++ List.replicate m 0) (n : Int) (dn.length : Int)) (dn ++ sg s n dn.length m, 0) := by
  induction m with
  | zero =>
    intro dn h
    refine Ev.step (fun k => ?_) (Ev.now _)
    simp only [group_Parts.l0, sg]
    rw [if_neg (by omega)]
    simp
  | succ m ih =>
    intro dn h
    have hlt : (dn.length : Int) < (n : Int) := by omega
    have h2 := pa_next s.length n dn.length
    have h3 := pa_le s.length n (dn.length + 1) (by omega)
    have h4 := ps_is s.length n dn.length (by omega)
    have h5 : (s.drop (pa s.length n dn.length)).length = s.length - pa s.length n dn.length := by simp
    generalize hR : s.length - pa s.length n dn.length = R at h4 h5
    have e : wrap64 ((n : Int) - (dn.length : Int)) = ((n - dn.length : Nat) : Int) := by rw [w64 (by omega) (by omega)]; omega
    have hq : R / (n - dn.length) ≤ R := Nat.div_le_self _ _
    have i := ih (dn ++ [wsum 0 ((s.drop (pa s.length n dn.length)).take (ps s.length n dn.length))]) (by simp; omega)
    have i1 := parts_l1 (n : Int) ((ps s.length n dn.length : Nat) : Int) (n : Int) (s.drop (pa s.length n dn.length)) dn (List.replicate m 0) (dn ++ sg s n dn.length (m + 1), 0) (by omega) (by omega) (by omega)
      ((s.drop (pa s.length n dn.length)).take (ps s.length n dn.length)) [] 0 (by simp; omega) (by
        rw [w64 (by omega) (by omega), Int.toNat_natCast, List.drop_drop, ← h2]
        simpa [sg] using i)
    refine Ev.step (fun k => ?_) (Ev.step (fun k => ?_) i1) (f := fun k => group_Parts.j2 k (n : Int) (s.drop (pa s.length n dn.length)) (dn ++ List.replicate (m + 1) 0) (dn.length : Int) ((ps s.length n dn.length : Nat) : Int) (n : Int) (dn.length : Int))
    · simp only [group_Parts.l0]
      rw [if_pos hlt, e, if_neg (by omega), h5, ← Int.natCast_ediv, ← Int.natCast_emod]
      by_cases c : R % (n - dn.length) > 0
      · rw [if_pos c] at h4
        rw [if_pos (by omega), w64 (x := ((R / (n - dn.length) : Nat) : Int)) (by omega) (by omega), w64 (by omega) (by omega), show ((R / (n - dn.length) : Nat) : Int) + 1 = ((ps s.length n dn.length : Nat) : Int) from by omega]
      · rw [if_neg c] at h4
        rw [if_neg (by omega), w64 (by omega) (by omega), show ((R / (n - dn.length) : Nat) : Int) = ((ps s.length n dn.length : Nat) : Int) from by omega]
    · simp only [group_Parts.j2]
      rw [if_pos (by omega), if_pos (by omega), Int.toNat_natCast]
      rfl
theorem parts_small (l : List Int) (n : Nat) (hl : l.length ≤ 1000) (hf : fl l = 0) (h1 : 1 ≤ n) (h2 : n ≤ 1000) : Ev (fun k => group_Parts.f k l (n : Int)) (sg (sortInts.s l) n 0 n, 0) := by
  have c := check_small l hl
  rw [hf] at c
  have hs := sort_len l
  have h0 := parts_l0 (sortInts.s l) n h2 (by omega) n [] (by simp)
  have e0 : pa (sortInts.s l).length n 0 = 0 := by unfold pa; omega
  simp only [List.length_nil, e0, List.drop_zero, List.nil_append] at h0
  unfold group_Parts.f
  refine Ev.bind c ?_
  refine Ev.congr (f := fun k => group_Parts.j0 k l (n : Int) false) (fun k => ?_) (Ev.step (fun k => ?_) h0)
  · rw [if_pos rfl, if_neg (by omega), show decide ((n : Int) > 1000) = false from by simp; omega]
  · simp only [group_Parts.j0]
    rw [if_neg (by decide), seq_small l hl]
    show (if _ then _ else _) = _
    rw [if_pos (by omega), Int.toNat_natCast]
    show group_Parts.l0 _ _ _ _ _ _ = _
    rw [List.length_replicate]
    rfl
theorem parts_out (l : List Int) (n : Int) (hl : l.length ≤ 1000) (hf : fl l = 0) (h : n < 1 ∨ 1000 < n) : Ev (fun k => group_Parts.f k l n) ([], 1) := by
  have c := check_small l hl
  rw [hf] at c
  unfold group_Parts.f
  refine Ev.bind c ?_
  refine Ev.congr (f := fun k => group_Parts.j0 k l n true) (fun k => ?_) (Ev.step (fun k => ?_) (Ev.now _))
  · rw [if_pos rfl]
    by_cases d : n < 1
    · rw [if_pos d]
    · rw [if_neg d, show decide (n > 1000) = true from by simp; omega]
  · simp only [group_Parts.j0]
    rw [if_pos trivial]
theorem parts_bad (l : List Int) (n f : Int) (hf : f ≠ 0) (c : Ev (fun k => group_Check.f k l) f) : Ev (fun k => group_Parts.f k l n) ([], f) := by
  unfold group_Parts.f
  refine Ev.bind c ?_
  refine Ev.congr (fun k => ?_) (Ev.now _)
  rw [if_neg hf]

theorem tmod_bd (x n : Int) (h : 0 < n) : -n < Int.tmod x n ∧ Int.tmod x n < n := by
  have e1 := Int.emod_lt_of_pos x h
  have e2 := Int.emod_nonneg x (show n ≠ 0 by omega)
  have e3 := Int.emod_lt_of_pos (-x) h
  have e4 := Int.emod_nonneg (-x) (show n ≠ 0 by omega)
  by_cases c : 0 ≤ x
  · rw [Int.tmod_eq_emod_of_nonneg c]; omega
  · rw [show x = -(-x) from by omega, Int.neg_tmod, Int.tmod_eq_emod_of_nonneg (by omega)]; omega
/-- A number below n. -/
def bl (x n : Int) : Int := if Int.tmod x n < 0 then Int.tmod x n + n else Int.tmod x n
theorem bl_bd (x n : Int) (h : 0 < n) : 0 ≤ bl x n ∧ bl x n < n := by
  have := tmod_bd x n h
  unfold bl
  split <;> omega
theorem below_is (x n : Int) (h : 0 < n) (h1 : n ≤ 4611686018427387904) : mootmake_Below.f x n = some (bl x n) := by
  have := tmod_bd x n h
  unfold mootmake_Below.f bl
  rw [if_neg (by omega)]
  by_cases c : Int.tmod x n < 0
  · rw [if_pos c, if_pos c, w64 (by omega) (by omega)]
  · rw [if_neg c, if_neg c]

theorem shared_keep : Ev (fun k => mootkeep5_shared.f k) true := by
  have g := gini_ok [0, 4] (fun x hx => by simp at hx; omega) (by simp) rfl
  rw [show gini [0, 4] = (1, 2, 0) from by decide +kernel] at g
  unfold mootkeep5_shared.f
  refine Ev.bind g ?_
  exact Ev.now true
def am (x : Int) : Int := bl x 5000 - 1000
theorem am_bd (x : Int) : -1000 ≤ am x ∧ am x < 4000 := by have := bl_bd x 5000 (by omega); unfold am; omega
theorem amounts_l0 (suf : List Int) : ∀ (pre out : List Int), (pre ++ suf).length ≤ 500 → out.length = pre.length → Ev (fun k => mootkeep5_amounts.l0 k out (pre ++ suf) ((pre ++ suf).length : Int) (pre.length : Int)) (out ++ suf.map am) := by
  induction suf with
  | nil =>
    intro pre out hl ho
    refine Ev.step (fun k => ?_) (Ev.now _)
    simp only [mootkeep5_amounts.l0]
    rw [if_neg (by simp)]
    simp
  | cons y ys ih =>
    intro pre out hl ho
    have hl' : pre.length + (ys.length + 1) ≤ 500 := by simpa using hl
    have hlt : (pre.length : Int) < ((pre ++ y :: ys).length : Int) := by simp; omega
    have hb := bl_bd y 5000 (by omega)
    have i := ih (pre ++ [y]) (out ++ [am y]) (by simpa using hl) (by simp [ho])
    rw [show out ++ [am y] ++ ys.map am = out ++ (y :: ys).map am from by simp] at i
    refine Ev.step (fun k => ?_) i
    simp only [mootkeep5_amounts.l0, rd_at, below_is y 5000 (by omega) (by omega)]
    rw [if_pos hlt, if_pos (by omega), if_pos hlt]
    show (if _ then _ else _) = _
    rw [if_pos (by omega), w64 (x := bl y 5000 - 1000) (by omega) (by omega), w64 (x := (pre.length : Int) + 1) (by omega) (by omega), len_next]
    simp [am]
def vals (l : List Int) : List Int := (l.take 500).map am
theorem amounts_is (l : List Int) : Ev (fun k => mootkeep5_amounts.f k l) (vals l) := by
  have h := amounts_l0 (l.take 500) [] [] (by simp; omega) rfl
  refine Ev.congr (fun k => ?_) h
  unfold mootkeep5_amounts.f
  have e : mn (l.length : Int) 500 = ((min l.length 500 : Nat) : Int) := by unfold mn; split <;> omega
  rw [e, if_pos (by omega), if_pos (by omega), Int.toNat_natCast]
  have e2 : l.take (min l.length 500) = l.take 500 := by
    rcases Nat.le_total l.length 500 with h | h
    · rw [Nat.min_eq_left h, List.take_of_length_le (Nat.le_refl _), List.take_of_length_le h]
    · rw [Nat.min_eq_right h]
  rw [e2]
  rfl
theorem vals_len (l : List Int) : (vals l).length ≤ 500 := by unfold vals; simp; omega
theorem vals_bd (l : List Int) : ∀ x ∈ vals l, -1000 ≤ x ∧ x < 4000 := by
  intro x hx
  obtain ⟨y, _, rfl⟩ := List.mem_map.1 hx
  exact am_bd y
theorem fl_zero : ∀ {l : List Int}, (∀ x ∈ l, -1000 ≤ x ∧ x < 4000) → fl l = 0
  | [], _ => rfl
  | y :: ys, h => by
    have := h y (by simp)
    rw [fl_cons, if_neg (by omega), if_neg (by omega)]
    exact fl_zero (fun x hx => h x (List.mem_cons_of_mem _ hx))
theorem sm_amount : ∀ {l : List Int}, (∀ x ∈ l, -1000 ≤ x ∧ x < 4000) → -1000 * (l.length : Int) ≤ sm l ∧ sm l ≤ 4000 * (l.length : Int)
  | [], _ => by simp [sm]
  | y :: ys, h => by
    have := h y (by simp)
    have := sm_amount (fun x hx => h x (List.mem_cons_of_mem _ hx) : ∀ x ∈ ys, _)
    simp only [sm, List.length_cons]; omega
theorem total_l0 (suf : List Int) : ∀ pre : List Int, (∀ x ∈ pre ++ suf, -1000 ≤ x ∧ x < 4000) → (pre ++ suf).length ≤ 500 → Ev (fun k => mootkeep5_total.l0 k (sm pre) (pre ++ suf) ((pre ++ suf).length : Int) (pre.length : Int)) (sm (pre ++ suf)) := by
  induction suf with
  | nil =>
    intro pre hb hl
    refine Ev.step (fun k => ?_) (Ev.now _)
    simp only [mootkeep5_total.l0]
    rw [if_neg (by simp)]
    simp
  | cons y ys ih =>
    intro pre hb hl
    have hl' : pre.length + (ys.length + 1) ≤ 500 := by simpa using hl
    have hlt : (pre.length : Int) < ((pre ++ y :: ys).length : Int) := by simp; omega
    have h1 := sm_amount (fun x hx => hb x (List.mem_append_left _ hx) : ∀ x ∈ pre, _)
    have h2 := hb y (by simp)
    have i := ih (pre ++ [y]) (by simpa using hb) (by simpa using hl)
    rw [show pre ++ [y] ++ ys = pre ++ y :: ys from by simp, sm_last] at i
    refine Ev.step (fun k => ?_) i
    simp only [mootkeep5_total.l0, rd_at]
    rw [if_pos hlt, if_pos (by omega), if_pos hlt, w64 (x := sm pre + y) (by omega) (by omega), w64 (x := (pre.length : Int) + 1) (by omega) (by omega), len_next]
theorem total_is (l : List Int) (hb : ∀ x ∈ l, -1000 ≤ x ∧ x < 4000) (hl : l.length ≤ 500) : Ev (fun k => mootkeep5_total.f k l) (sm l) := total_l0 l [] hb hl

theorem gfl : ∀ l : List Int, group_By.fl l = fl l
  | [] => rfl
  | y :: ys => by
    show (if _ then _ else _) = (if _ then _ else _)
    rw [gfl ys]
/-- Sums of values that are not too great do not wrap. -/
theorem sm_bd' (B : Int) (hB : 0 ≤ B) : ∀ {l : List Int}, (∀ x ∈ l, -B ≤ x ∧ x ≤ B) → -(B * (l.length : Int)) ≤ sm l ∧ sm l ≤ B * (l.length : Int)
  | [], _ => by simp [sm]
  | y :: ys, h => by
    have := h y (by simp)
    have := sm_bd' B hB (fun x hx => h x (List.mem_cons_of_mem _ hx) : ∀ x ∈ ys, _)
    simp only [sm, List.length_cons, Int.natCast_add, Int.mul_add]; omega
theorem total_gen (suf : List Int) : ∀ pre : List Int, (∀ x ∈ pre ++ suf, -4000000 ≤ x ∧ x ≤ 4000000) → (pre ++ suf).length ≤ 1000 → Ev (fun k => mootkeep5_total.l0 k (sm pre) (pre ++ suf) ((pre ++ suf).length : Int) (pre.length : Int)) (sm (pre ++ suf)) := by
  induction suf with
  | nil =>
    intro pre hb hl
    refine Ev.step (fun k => ?_) (Ev.now _)
    simp only [mootkeep5_total.l0]
    rw [if_neg (by simp)]
    simp
  | cons y ys ih =>
    intro pre hb hl
    have hl' : pre.length + (ys.length + 1) ≤ 1000 := by simpa using hl
    have hlt : (pre.length : Int) < ((pre ++ y :: ys).length : Int) := by simp; omega
    have h1 := sm_bd' 4000000 (by omega) (fun x hx => hb x (List.mem_append_left _ hx) : ∀ x ∈ pre, _)
    have h2 := hb y (by simp)
    have i := ih (pre ++ [y]) (by simpa using hb) (by simpa using hl)
    rw [show pre ++ [y] ++ ys = pre ++ y :: ys from by simp, sm_last] at i
    refine Ev.step (fun k => ?_) i
    simp only [mootkeep5_total.l0, rd_at]
    rw [if_pos hlt, if_pos (by omega), if_pos hlt, w64 (x := sm pre + y) (by omega) (by omega), w64 (x := (pre.length : Int) + 1) (by omega) (by omega), len_next]
theorem wsum_is : ∀ (l : List Int) (a B : Int), (∀ x ∈ l, -1000 ≤ x ∧ x < 4000) → -B ≤ a → a ≤ B → B + 4000 * (l.length : Int) ≤ 4000000000 → wsum a l = a + sm l
  | [], a, B, _, _, _, _ => by simp [wsum, sm]
  | y :: ys, a, B, h, h1, h2, h3 => by
    have hy := h y (by simp)
    simp only [List.length_cons, Int.natCast_add] at h3
    have e : wrap64 (a + y) = a + y := w64 (by omega) (by omega)
    simp only [wsum, sm]
    rw [e, wsum_is ys (a + y) (B + 4000) (fun x hx => h x (List.mem_cons_of_mem _ hx)) (by omega) (by omega) (by omega)]
    omega
theorem sm_append : ∀ a b : List Int, sm (a ++ b) = sm a + sm b
  | [], b => by simp [sm]
  | y :: ys, b => by simp only [List.cons_append, sm, sm_append ys b]; omega
/-- The sums of the parts have the whole sum. -/
theorem sg_sum (s : List Int) (n : Nat) (hb : ∀ x ∈ s, -1000 ≤ x ∧ x < 4000) (hs : s.length ≤ 500) : ∀ m i, i + m = n → sm (sg s n i m) = sm ((s.drop (pa s.length n i)).take (s.length - pa s.length n i)) - sm (s.drop (pa s.length n n)) + 0 ∧ True
  | 0, i, h => by
    have : i = n := by omega
    subst this
    rw [List.take_of_length_le (by simp)]
    simp [sg, sm]
  | m + 1, i, h => by
    have h1 := pa_next s.length n i
    have h2 := pa_le s.length n (i + 1) (by omega)
    have ih := (sg_sum s n hb hs m (i + 1) (by omega)).1
    rw [List.take_of_length_le (by simp)] at ih ⊢
    refine ⟨?_, trivial⟩
    have e : s.drop (pa s.length n i) = (s.drop (pa s.length n i)).take (ps s.length n i) ++ s.drop (pa s.length n (i + 1)) := by
      rw [h1, ← List.drop_drop, List.take_append_drop]
    have hw : wsum 0 ((s.drop (pa s.length n i)).take (ps s.length n i)) = sm ((s.drop (pa s.length n i)).take (ps s.length n i)) := by
      rw [wsum_is _ 0 0 (fun x hx => hb x (List.mem_of_mem_drop (List.mem_of_mem_take hx))) (by omega) (by omega) (by simp; omega)]
      omega
    simp only [sg, sm, hw, ih]
    rw [e, sm_append, ← e]
    omega
theorem sg_bd (s : List Int) (n : Nat) (hb : ∀ x ∈ s, -1000 ≤ x ∧ x < 4000) (hs : s.length ≤ 500) : ∀ m i, ∀ x ∈ sg s n i m, -4000000 ≤ x ∧ x ≤ 4000000
  | 0, i, x, h => by cases h
  | m + 1, i, x, h => by
    rcases List.mem_cons.1 h with e | h
    · have hx : ∀ y ∈ (s.drop (pa s.length n i)).take (ps s.length n i), -1000 ≤ y ∧ y < 4000 := fun y hy => hb y (List.mem_of_mem_drop (List.mem_of_mem_take hy))
      have hl : ((s.drop (pa s.length n i)).take (ps s.length n i)).length ≤ 500 := by simp; omega
      have hs := sm_amount hx
      rw [e, wsum_is _ 0 0 hx (by omega) (by omega) (by omega)]
      omega
    · exact sg_bd s n hb hs m (i + 1) x h
/-- How often a key came, and its sum. -/
def cn (k : Int) : List (Int × Int) → Int
  | [] => 0
  | (x, _) :: r => (if x = k then 1 else 0) + cn k r
def su (k : Int) : List (Int × Int) → Int
  | [] => 0
  | (x, v) :: r => (if x = k then v else 0) + su k r
theorem cs_bd (k : Int) : ∀ {r : List (Int × Int)}, (∀ x ∈ r, -1000 ≤ x.2 ∧ x.2 < 4000) → 0 ≤ cn k r ∧ cn k r ≤ r.length ∧ -4000 * cn k r ≤ su k r ∧ su k r ≤ 4000 * cn k r
  | [], _ => by simp [cn, su]
  | (x, v) :: r, h => by
    have h1 := cs_bd k (fun y hy => h y (List.mem_cons_of_mem _ hy) : ∀ y ∈ r, _)
    have h2 := h (x, v) (by simp)
    simp only [cn, su, List.length_cons] at *
    by_cases c : x = k
    · rw [if_pos c, if_pos c]; omega
    · rw [if_neg c, if_neg c]; omega
theorem grp_is (k : Int) : ∀ {r : List (Int × Int)}, (∀ x ∈ r, -1000 ≤ x.2 ∧ x.2 < 4000) → r.length ≤ 500 → By.grp k r = (cn k r, su k r)
  | [], _, _ => rfl
  | (x, v) :: r, h, hl => by
    have hr : ∀ y ∈ r, -1000 ≤ y.2 ∧ y.2 < 4000 := fun y hy => h y (List.mem_cons_of_mem _ hy)
    have hl' : r.length + 1 ≤ 500 := hl
    have h1 := cs_bd k hr
    have h2 := h (x, v) (by simp)
    simp only at h2
    simp only [By.grp, cn, su, grp_is k hr (by omega)]
    by_cases c : x = k
    · rw [if_pos c, if_pos c, if_pos c, w64 (by omega) (by omega), w64 (by omega) (by omega)]
      congr 1 <;> omega
    · rw [if_neg c, if_neg c, if_neg c]
      congr 1 <;> omega
theorem one_of (x : Int) (f : Int → Int) : ∀ {S : List Int}, S.Nodup → sm (S.map fun k => if x = k then f k else 0) = if x ∈ S then f x else 0
  | [], _ => by simp [sm]
  | y :: S, h => by
    have h1 := List.nodup_cons.1 h
    simp only [List.map_cons, sm, one_of x f h1.2]
    by_cases c : x = y
    · subst c
      rw [if_pos rfl, if_neg h1.1, if_pos (by simp)]; omega
    · rw [if_neg c]
      by_cases d : x ∈ S
      · rw [if_pos d, if_pos (by simp [d])]; omega
      · rw [if_neg d, if_neg (by simp [c, d])]; omega
theorem sm_map_add (f g : Int → Int) : ∀ S : List Int, sm (S.map fun k => f k + g k) = sm (S.map f) + sm (S.map g)
  | [] => by simp [sm]
  | y :: S => by simp only [List.map_cons, sm, sm_map_add f g S]; omega
theorem all_counts (S : List Int) (hS : S.Nodup) : ∀ r : List (Int × Int), (∀ x ∈ r, x.1 ∈ S) → sm (S.map fun k => cn k r) = r.length ∧ sm (S.map fun k => su k r) = sm (r.map (·.2))
  | [], _ => by
    have z : ∀ S : List Int, sm (S.map fun _ => (0 : Int)) = 0 := fun S => by induction S with
      | nil => rfl
      | cons y S ih => simp only [List.map_cons, sm, ih]; rfl
    exact ⟨by simpa [cn] using z S, by simpa [su, sm] using z S⟩
  | (x, v) :: r, h => by
    have ih := all_counts S hS r (fun y hy => h y (List.mem_cons_of_mem _ hy))
    have hx := h (x, v) (by simp)
    simp only [cn, su, List.map_cons, sm, List.length_cons]
    rw [sm_map_add (fun k => if x = k then 1 else 0) (fun k => cn k r), sm_map_add (fun k => if x = k then v else 0) (fun k => su k r), ih.1, ih.2, one_of x (fun _ => 1) hS, one_of x (fun _ => v) hS, if_pos hx, if_pos hx]
    omega

def kt (keys : List Int) : Nat → Nat → List Int
  | _, 0 => []
  | i, m + 1 => (if i < keys.length then bl (rd keys i) 4 else 0) :: kt keys (i + 1) m
theorem kt_len (keys : List Int) : ∀ m i, (kt keys i m).length = m
  | 0, _ => rfl
  | m + 1, i => by simp [kt, kt_len keys m (i + 1)]
theorem kt_bd (keys : List Int) : ∀ m i, ∀ x ∈ kt keys i m, 0 ≤ x ∧ x < 4
  | 0, i, x, h => by cases h
  | m + 1, i, x, h => by
    rcases List.mem_cons.1 h with e | h
    · have := bl_bd (rd keys i) 4 (by omega)
      rw [e]
      split <;> omega
    · exact kt_bd keys m (i + 1) x h
theorem whole_l0 (keys vals : List Int) (n2 : Int) (n : Nat) (hn : n ≤ 1000) (r : Bool) (m : Nat) : ∀ (dn : List Int), dn.length + m = n →
    Ev (fun k => mootkeep5_GroupWhole.l0 k keys n2 vals (dn ++ kt keys dn.length m) (n : Int) (n : Int)) r →
    Ev (fun k => mootkeep5_GroupWhole.l0 k keys n2 vals (dn ++ List.replicate m 0) (n : Int) (dn.length : Int)) r := by
  induction m with
  | zero =>
    intro dn h hr
    have e : (dn.length : Int) = (n : Int) := by omega
    rw [e]
    simpa [kt] using hr
  | succ m ih =>
    intro dn h hr
    have hlt : (dn.length : Int) < (n : Int) := by omega
    have hlt2 : (dn.length : Int) < ((dn ++ List.replicate (m + 1) (0 : Int)).length : Int) := by simp; omega
    by_cases c : dn.length < keys.length
    · have c' : (dn.length : Int) < (keys.length : Int) := by omega
      have i := ih (dn ++ [bl (rd keys dn.length) 4]) (by simp; omega) (by simp only [kt, if_pos c] at hr; simpa using hr)
      refine Ev.step (fun k => ?_) i
      simp only [mootkeep5_GroupWhole.l0, below_is (rd keys (dn.length : Int)) 4 (by omega) (by omega), Option.bind_some]
      rw [if_pos hlt, if_pos c', if_pos (by omega), if_pos hlt2, w64 (x := (dn.length : Int) + 1) (by omega) (by omega), List.replicate_succ, set_at, len_next]
      simp
    · have c' : ¬ (dn.length : Int) < (keys.length : Int) := by omega
      have i := ih (dn ++ [0]) (by simp; omega) (by simp only [kt, if_neg c] at hr; simpa using hr)
      refine Ev.step (fun k => ?_) i
      simp only [mootkeep5_GroupWhole.l0]
      rw [if_pos hlt, if_neg c', w64 (x := (dn.length : Int) + 1) (by omega) (by omega), List.replicate_succ, len_next]
      simp
theorem rdS_at (pre : List S50) (y : S50) (suf : List S50) : rd_T50 (pre ++ y :: suf) (pre.length : Int) = y := by simp [rd_T50]
def c1 : List S50 → Int
  | [] => 0
  | y :: ys => y.f1 + c1 ys
def c2 : List S50 → Int
  | [] => 0
  | y :: ys => y.f2 + c2 ys
theorem whole_l1 (n2 e1 e2 : Int) (vals p : List Int) (r : Bool) (suf : List S50) : ∀ (pre : List S50) (a b : Int), (pre ++ suf).length ≤ 1000 → (∀ x ∈ pre ++ suf, (0 ≤ x.f1 ∧ x.f1 ≤ 500) ∧ -2000000 ≤ x.f2 ∧ x.f2 ≤ 2000000) →
    -(2000000 * (pre.length : Int)) ≤ a → a ≤ 2000000 * (pre.length : Int) → -(2000000 * (pre.length : Int)) ≤ b → b ≤ 2000000 * (pre.length : Int) →
    Ev (fun k => mootkeep5_GroupWhole.l1 k n2 vals e1 p e2 (a + c1 suf) (b + c2 suf) (pre ++ suf) ((pre ++ suf).length : Int) ((pre ++ suf).length : Int)) r →
    Ev (fun k => mootkeep5_GroupWhole.l1 k n2 vals e1 p e2 a b (pre ++ suf) ((pre ++ suf).length : Int) (pre.length : Int)) r := by
  induction suf with
  | nil =>
    intro pre a b hl hb h1 h2 h3 h4 h
    simpa [c1, c2] using h
  | cons y ys ih =>
    intro pre a b hl hb h1 h2 h3 h4 h
    have hl' : pre.length + (ys.length + 1) ≤ 1000 := by simpa using hl
    have hlt : (pre.length : Int) < ((pre ++ y :: ys).length : Int) := by simp; omega
    have hy := hb y (by simp)
    have i := ih (pre ++ [y]) (a + y.f1) (b + y.f2) (by simpa using hl) (by simpa using hb) (by simp; omega) (by simp; omega) (by simp; omega) (by simp; omega) (by simp only [c1, c2] at h; rw [Int.add_assoc, Int.add_assoc]; simpa using h)
    refine Ev.step (fun k => ?_) i
    simp only [mootkeep5_GroupWhole.l1, rdS_at]
    rw [if_pos hlt, if_pos (by omega), if_pos hlt, w64 (x := a + y.f1) (by omega) (by omega), w64 (x := b + y.f2) (by omega) (by omega), w64 (x := (pre.length : Int) + 1) (by omega) (by omega)]
    simp
theorem zip_snd : ∀ (a b : List Int), a.length = b.length → (a.zip b).map (·.2) = b
  | [], [], _ => rfl
  | x :: a, y :: b, h => by simp [zip_snd a b (by simpa using h)]
  | [], y :: b, h => by simp at h
  | x :: a, [], h => by simp at h
theorem c1_map (f : Int → Int × Int × Int) : ∀ S : List Int, c1 ((S.map f).map group_By.toS) = sm (S.map fun k => (f k).2.1)
  | [] => rfl
  | y :: S => by simp only [List.map_cons, c1, sm, c1_map f S]; rfl
theorem c2_map (f : Int → Int × Int × Int) : ∀ S : List Int, c2 ((S.map f).map group_By.toS) = sm (S.map fun k => (f k).2.2)
  | [] => rfl
  | y :: S => by simp only [List.map_cons, c2, sm, c2_map f S]; rfl
theorem uniq_len : ∀ K : List Int, (group_By.uniq K).length ≤ K.length
  | [] => Nat.le_refl _
  | x :: K => by
    have := uniq_len K
    unfold group_By.uniq
    by_cases c : x ∈ K
    · rw [if_pos c]; simp; omega
    · rw [if_neg c]; simp; omega
theorem GroupWhole : mootkeep5_GroupWhole.Pure := by
  intro keys l n2 _ _ _ _ _ _ _
  refine Ev.rounds ?_
  unfold mootkeep5_GroupWhole.f
  refine Ev.bind (amounts_is l) ?_
  have hb := vals_bd l
  have hl := vals_len l
  generalize vals l = v at hb hl
  have hf := fl_zero hb
  have hnine := bl_bd n2 9 (by omega)
  obtain ⟨t, ht⟩ : ∃ t : Nat, 1 + bl n2 9 = (t : Int) := ⟨(1 + bl n2 9).toNat, by omega⟩
  have hK := kt_len keys v.length 0
  have hKb := kt_bd keys v.length 0
  refine Ev.congr (f := fun k => mootkeep5_GroupWhole.l0 k keys n2 v ([] ++ List.replicate v.length 0) (v.length : Int) (([] : List Int).length : Int)) (fun k => ?_) ?_
  · rw [if_pos (by omega), if_pos (by omega), Int.toNat_natCast]
    show mootkeep5_GroupWhole.l0 _ _ _ _ _ _ _ = _
    rw [List.length_replicate]
    rfl
  refine whole_l0 keys v n2 v.length (by omega) true v.length [] (by simp) ?_
  simp only [List.nil_append, List.length_nil]
  generalize kt keys 0 v.length = K at hK hKb
  have hwf : group_By.wf K = true := List.all_eq_true.2 fun x hx => by
    have := hKb x hx
    show (decide (IntKind.i64.min ≤ x) && decide (x ≤ IntKind.i64.max)) = true
    rw [show IntKind.i64.min = -9223372036854775808 from rfl, show IntKind.i64.max = 9223372036854775807 from rfl]
    simp; omega
  have hby : group_By.f K v = some ((group_By.rows K v).map group_By.toS, 0) := by
    unfold group_By.f
    rw [if_pos hwf, if_pos (by omega), if_pos (by rw [gfl]; exact hf), if_pos hK]
  have hparts := parts_small v t (by omega) hf (by omega) (by omega)
  have hsort := sort_perm v
  have hsl := sort_len v
  have hsb : ∀ x ∈ sortInts.s v, -1000 ≤ x ∧ x < 4000 := fun x hx => hb x (hsort.mem_iff.1 hx)
  have hpsum := (sg_sum (sortInts.s v) t hsb (by omega) t 0 (by omega)).1
  have hpb := sg_bd (sortInts.s v) t hsb (by omega) t 0
  have hplen := sg_len (sortInts.s v) t t 0
  have hsum : sm (sg (sortInts.s v) t 0 t) = sm v := by
    have e0 : pa (sortInts.s v).length t 0 = 0 := by unfold pa; omega
    have e1 : pa (sortInts.s v).length t t = (sortInts.s v).length := by
      unfold pa
      have h2 := Nat.div_add_mod (sortInts.s v).length t
      have h3 := Nat.mod_lt (sortInts.s v).length (show 0 < t by omega)
      omega
    rw [e0, e1, List.drop_zero, Nat.sub_zero, List.take_length, List.drop_length, sm_perm hsort] at hpsum
    simpa [sm] using hpsum
  generalize sg (sortInts.s v) t 0 t = p at hparts hpb hplen hsum
  have hrl : (By.rev K v v.length).length = v.length := by unfold By.rev; simp [hK]
  have hrb : ∀ x ∈ By.rev K v v.length, -1000 ≤ x.2 ∧ x.2 < 4000 := fun x hx => by
    unfold By.rev at hx
    have := List.mem_of_mem_take (List.mem_reverse.1 hx)
    exact hb x.2 (List.of_mem_zip this).2
  have hmem : ∀ x ∈ By.rev K v v.length, x.1 ∈ sortInts.s (group_By.uniq K) := fun x hx => by
    unfold By.rev at hx
    have := List.mem_of_mem_take (List.mem_reverse.1 hx)
    exact (group_By.sort_perm _).mem_iff.2 ((group_By.mem_uniq x.1 K).2 (List.of_mem_zip this).1)
  have hnd : (sortInts.s (group_By.uniq K)).Nodup := (group_By.sort_perm _).nodup_iff.2 (group_By.nodup_uniq K)
  have hall := all_counts _ hnd (By.rev K v v.length) hmem
  have hsv : sm ((By.rev K v v.length).map (·.2)) = sm v := by
    unfold By.rev
    rw [List.take_of_length_le (by simp; omega), List.map_reverse, sm_perm (List.reverse_perm _), zip_snd K v hK]
  have hc1 : c1 ((group_By.rows K v).map group_By.toS) = (v.length : Int) := by
    unfold group_By.rows
    rw [c1_map]
    simp only [By.gOf, grp_is _ hrb (by omega)]
    rw [hall.1, hrl]
  have hc2 : c2 ((group_By.rows K v).map group_By.toS) = sm v := by
    unfold group_By.rows
    rw [c2_map]
    simp only [By.gOf, grp_is _ hrb (by omega)]
    rw [hall.2, hsv]
  have hrows : ∀ x ∈ (group_By.rows K v).map group_By.toS, (0 ≤ x.f1 ∧ x.f1 ≤ 500) ∧ -2000000 ≤ x.f2 ∧ x.f2 ≤ 2000000 := fun x hx => by
    obtain ⟨y, hy, rfl⟩ := List.mem_map.1 hx
    unfold group_By.rows at hy
    obtain ⟨k, _, rfl⟩ := List.mem_map.1 hy
    have := cs_bd k hrb
    simp only [group_By.toS, By.gOf, grp_is k hrb (by omega)]
    omega
  have hrlen : ((group_By.rows K v).map group_By.toS).length ≤ 1000 := by
    have := uniq_len K
    unfold group_By.rows
    rw [List.length_map, List.length_map, (group_By.sort_perm _).length_eq]
    omega
  generalize (group_By.rows K v).map group_By.toS = G at hby hc1 hc2 hrows hrlen
  have htv : Ev (fun k => mootkeep5_total.f k v) (sm v) := total_gen v [] (fun x hx => by have := hb x (by simpa using hx); omega) (by simp; omega)
  have htp : Ev (fun k => mootkeep5_total.f k p) (sm p) := total_gen p [] (fun x hx => hpb x (by simpa using hx)) (by simp; omega)
  refine Ev.step (f := fun k => (group_Parts.f k v (t : Int)).bind fun bt155 => mootkeep5_GroupWhole.l1 k n2 v 0 bt155.1 bt155.2 0 0 G (G.length : Int) 0) (fun k => ?_) (Ev.bind hparts ?_)
  · simp only [mootkeep5_GroupWhole.l0, hby, Option.bind_some, below_is n2 9 (by omega) (by omega)]
    rw [if_neg (by omega), ht, w64 (by omega) (by omega)]
  · refine whole_l1 n2 0 0 v p true G [] 0 0 hrlen hrows (by simp) (by simp) (by simp) (by simp) ?_
    rw [List.nil_append, hc1, hc2, Int.zero_add, Int.zero_add]
    refine Ev.step (f := fun k => (mootkeep5_shared.f k).bind fun t161 => (if t161 = true then ((mootkeep5_total.f k v).bind fun t162 => (if sm v = t162 then ((mootkeep5_total.f k p).bind fun t163 => (if t163 = sm v then some true else (some false))) else (some false))) else (some false))) (fun k => ?_) (Ev.bind shared_keep (Ev.congr (fun k => by rw [if_pos rfl]) (Ev.bind htv (Ev.congr (fun k => by rw [if_pos rfl]) (Ev.bind htp (Ev.congr (fun k => by rw [if_pos hsum]) (Ev.now true)))))))
    simp only [mootkeep5_GroupWhole.l1, below_is n2 9 (by omega) (by omega), Option.bind_some]
    rw [if_neg (by omega), if_pos trivial, if_pos trivial, if_pos trivial, ht, hplen, w64 (by omega) (by omega)]
    simp
end Go.Proofs.Ytihmanjgkjenbaa.Pure
