/- Part 1 of the proof. No condition. -/
import Derived.Laws.BitsLemmas
import Derived.Laws.Entries
import Derived.Laws.Bits64
import Derived.Orders
import Derived.Below
import Derived.Laws.Rows
import Derived.Laws.Tables
import Derived.Laws.Cells
import Derived.Laws.IdiomCopy
import Derived.Laws.NewBlocks
import Derived.Laws.StructEq
import Derived.ChangeKeysEq
set_option linter.unusedVariables false
set_option linter.unusedSimpArgs false
set_option linter.unusedSectionVars false
namespace Fardel
def Irred (r : Nat) : Prop := 2 ≤ r ∧ ∀ d, d ∣ r → d = 1 ∨ d = r
theorem irred_dvd {r a b : Nat} (h : Irred r) (hd : r ∣ a * b) : r ∣ a ∨ r ∣ b := by
  rcases h.2 (Nat.gcd r a) (Nat.gcd_dvd_left r a) with h1 | h1
  · exact Or.inr (Nat.Coprime.dvd_of_dvd_mul_left h1 hd)
  · exact Or.inl (h1 ▸ Nat.gcd_dvd_right r a)
theorem irred_coprime {r a : Nat} (h : Irred r) (hd : ¬ r ∣ a) : Nat.Coprime r a := by
  rcases h.2 (Nat.gcd r a) (Nat.gcd_dvd_left r a) with h1 | h1
  · exact h1
  · exact absurd (h1 ▸ Nat.gcd_dvd_right r a) hd
theorem exists_irred (n : Nat) (h : 2 ≤ n) : ∃ r, Irred r ∧ r ∣ n := by
  induction n using Nat.strongRecOn with
  | _ n ih =>
    by_cases hi : Irred n
    · exact ⟨n, hi, Nat.dvd_refl n⟩
    · have : ∃ d, d ∣ n ∧ d ≠ 1 ∧ d ≠ n := Classical.byContradiction fun hc => hi ⟨h, fun d hd => by
        by_cases h1 : d = 1
        · exact Or.inl h1
        · by_cases h2 : d = n
          · exact Or.inr h2
          · exact absurd ⟨d, hd, h1, h2⟩ hc⟩
      obtain ⟨d, hd, h1, h2⟩ := this
      have hle := Nat.le_of_dvd (by omega) hd
      have h0 : d ≠ 0 := by rintro rfl; have := Nat.eq_zero_of_zero_dvd hd; omega
      obtain ⟨r, hr, hrd⟩ := ih d (by omega) (by omega)
      exact ⟨r, hr, Nat.dvd_trans hrd hd⟩
def bin : Nat → Nat → Nat
  | _, 0 => 1
  | 0, _ + 1 => 0
  | n + 1, k + 1 => bin n k + bin n (k + 1)
theorem bin_zero (n : Nat) : bin n 0 = 1 := by cases n <;> rfl
theorem bin_succ (n k : Nat) : bin (n + 1) (k + 1) = bin n k + bin n (k + 1) := rfl
theorem bin_gt : ∀ (n k : Nat), n < k → bin n k = 0
  | 0, k + 1, _ => rfl
  | n + 1, k + 1, h => by rw [bin_succ, bin_gt n k (by omega), bin_gt n (k + 1) (by omega)]
theorem bin_self : ∀ n, bin n n = 1
  | 0 => rfl
  | n + 1 => by rw [bin_succ, bin_self n, bin_gt n (n + 1) (by omega)]
theorem bin_mul : ∀ (n k : Nat), (k + 1) * bin (n + 1) (k + 1) = (n + 1) * bin n k
  | 0, 0 => rfl
  | 0, k + 1 => by rw [bin_gt 1 (k + 2) (by omega), bin_gt 0 (k + 1) (by omega)]; rfl
  | n + 1, 0 => by
    have h := bin_mul n 0
    simp only [bin_succ, bin_zero] at *
    grind
  | n + 1, k + 1 => by
    have h1 := bin_mul n k
    have h2 := bin_mul n (k + 1)
    rw [bin_succ (n + 1) (k + 1)]
    have h3 := bin_succ n k
    generalize bin (n + 1) (k + 1) = A at *
    generalize bin (n + 1) (k + 1 + 1) = B at *
    generalize bin n k = C at *
    generalize bin n (k + 1) = D at *
    grind
def bsum (a n : Nat) : Nat → Nat
  | 0 => 0
  | m + 1 => bsum a n m + bin n m * a ^ m
theorem bsum_succ (a n : Nat) : ∀ m, bsum a (n + 1) (m + 1) = bsum a n (m + 1) + a * bsum a n m
  | 0 => by simp [bsum, bin_zero]
  | m + 1 => by
    have h := bsum_succ a n m
    rw [bsum, h, bsum.eq_2 a n (m + 1), bsum.eq_2 a n m, bin_succ]
    generalize bsum a n m = S
    have : a ^ (m + 1) = a ^ m * a := Nat.pow_succ ..
    generalize a ^ (m + 1) = T at *
    generalize a ^ m = U at *
    grind
theorem bsum_all (a : Nat) : ∀ n, bsum a n (n + 1) = (a + 1) ^ n
  | 0 => by simp [bsum, bin_zero]
  | n + 1 => by
    rw [bsum_succ, bsum.eq_2 a n (n + 1), bin_gt n (n + 1) (by omega), bsum_all a n, Nat.pow_succ]
    grind
theorem bin_dvd {r k : Nat} (h : Irred r) (h0 : 0 < k) (hk : k < r) : r ∣ bin r k := by
  obtain ⟨m, rfl⟩ : ∃ m, r = m + 1 := ⟨r - 1, by omega⟩
  obtain ⟨j, rfl⟩ : ∃ j, k = j + 1 := ⟨k - 1, by omega⟩
  have hm := bin_mul m j
  have hd : (m + 1) ∣ (j + 1) * bin (m + 1) (j + 1) := ⟨_, hm⟩
  rcases irred_dvd h hd with h1 | h1
  · exact absurd (Nat.le_of_dvd (by omega) h1) (by omega)
  · exact h1
theorem bsum_mod {r : Nat} (h : Irred r) (a : Nat) : ∀ m, 0 < m → m ≤ r → bsum a r m % r = 1 % r
  | 0, h0, _ => by omega
  | 1, _, _ => by simp [bsum, bin_zero]
  | m + 2, _, hm => by
    have ih := bsum_mod h a (m + 1) (by omega) (by omega)
    obtain ⟨q, hq⟩ := bin_dvd h (k := m + 1) (by omega) (by omega)
    rw [bsum, hq, Nat.mul_assoc, Nat.add_mul_mod_self_left, ih]
theorem fermat_all {r : Nat} (h : Irred r) : ∀ a, a ^ r % r = a % r
  | 0 => by rw [Nat.zero_pow (by have := h.1; omega)]
  | a + 1 => by
    have ih := fermat_all h a
    have h2 := h.1
    rw [← bsum_all, bsum, bin_self, Nat.one_mul, Nat.add_mod, ih, bsum_mod h a r (by omega) (Nat.le_refl r), ← Nat.add_mod, Nat.add_comm]
theorem fermat {r a : Nat} (h : Irred r) (ha : ¬ r ∣ a) : a ^ (r - 1) % r = 1 := by
  have h2 := h.1
  have hf := fermat_all h a
  have hs : a ^ r = a * a ^ (r - 1) := by
    obtain ⟨m, rfl⟩ : ∃ m, r = m + 1 := ⟨r - 1, by omega⟩
    rw [Nat.pow_succ, Nat.add_sub_cancel, Nat.mul_comm]
  have hpos : 1 ≤ a ^ (r - 1) := Nat.pos_of_ne_zero fun h0 => by
    have : a = 0 := by
      rcases Nat.eq_zero_or_pos a with h1 | h1
      · exact h1
      · exact absurd h0 (Nat.pos_iff_ne_zero.1 (Nat.pow_pos h1))
    exact ha (this ▸ Nat.dvd_zero r)
  have hd : r ∣ a * (a ^ (r - 1) - 1) := by
    rw [Nat.mul_sub, Nat.mul_one, ← hs]
    have hle : a ≤ a ^ r := by rw [hs]; exact Nat.le_mul_of_pos_right a hpos
    exact Nat.dvd_of_mod_eq_zero (Nat.sub_mod_eq_zero_of_mod_eq hf)
  rcases irred_dvd h hd with h1 | h1
  · exact absurd h1 ha
  · obtain ⟨q, hq⟩ := h1
    have : a ^ (r - 1) = 1 + r * q := by omega
    rw [this, Nat.add_mul_mod_self_left, Nat.mod_eq_of_lt (by omega)]
def pm (n : Nat) : Nat → Nat → Nat → Nat
  | 0, _, _ => 1 % n
  | f + 1, a, e => if e = 0 then 1 % n else
    let s := pm n f (a * a % n) (e / 2)
    if e % 2 = 1 then s * a % n else s
theorem pm_eq (n : Nat) : ∀ f a e, e < 2 ^ f → pm n f a e = a ^ e % n
  | 0, a, e, h => by have : e = 0 := by simpa using h
                     simp [pm, this]
  | f + 1, a, e, h => by
    have h2 : e / 2 < 2 ^ f := by rw [Nat.pow_succ] at h; omega
    have ih := pm_eq n f (a * a % n) (e / 2) h2
    rw [pm]
    by_cases h0 : e = 0
    · simp [h0]
    · rw [if_neg h0]
      simp only [ih]
      have hsq : (a * a % n) ^ (e / 2) % n = a ^ (2 * (e / 2)) % n := by
        rw [← Nat.pow_mod, Nat.pow_mul]; congr 2; exact (Nat.pow_two a).symm
      by_cases h1 : e % 2 = 1
      · rw [if_pos h1, hsq, Nat.mod_mul_mod]
        have : (2 * (e / 2)).succ = e := by omega
        rw [← Nat.pow_succ, this]
      · rw [if_neg h1, hsq]
        have : 2 * (e / 2) = e := by omega
        rw [this]
structure Wit (n q : Nat) : Prop where
  irr : Irred q
  ex : ∃ a c, n = q * c + 1 ∧ a ^ (q * c) % n = 1 ∧ Nat.gcd (a ^ c % n + (n - 1)) n = 1
theorem pow_mod_one {a k r : Nat} (m : Nat) (h : a ^ k % r = 1 % r) : a ^ (k * m) % r = 1 % r := by
  rw [Nat.pow_mul, Nat.pow_mod, h, ← Nat.pow_mod, Nat.one_pow]
theorem pow_gcd_one {a r : Nat} (i : Nat) : ∀ j, a ^ i % r = 1 % r → a ^ j % r = 1 % r → a ^ Nat.gcd i j % r = 1 % r := by
  induction i using Nat.strongRecOn with
  | _ i ih =>
    intro j hi hj
    by_cases h0 : i = 0
    · subst h0; rw [Nat.gcd_zero_left]; exact hj
    · rw [Nat.gcd_rec]
      have hm : a ^ (j % i) % r = 1 % r := by
        have hd := Nat.div_add_mod j i
        have h1 := pow_mod_one (j / i) hi
        rw [← hd, Nat.pow_add, Nat.mul_mod, h1, ← Nat.mul_mod, Nat.one_mul] at hj
        exact hj
      exact ih (j % i) (Nat.mod_lt _ (by omega)) i hm hi
theorem wit_dvd {n q r : Nat} (h : Wit n q) (hr : Irred r) (hrn : r ∣ n) : q ∣ r - 1 := by
  obtain ⟨hq, a, c, hn, h1, hg⟩ := h
  have hr2 := hr.1
  have hn0 : 0 < n := by omega
  refine Classical.byContradiction fun hc => ?_
  have hco := irred_coprime hq hc
  have hb1 : (a ^ c) ^ q % r = 1 % r := by
    rw [← Nat.pow_mul, Nat.mul_comm c q]
    have : a ^ (q * c) % n % r = 1 % r := by rw [h1]
    rwa [Nat.mod_mod_of_dvd _ hrn] at this
  have hnd : ¬ r ∣ a ^ c := by
    intro hd
    obtain ⟨t, ht⟩ := hd
    have hq2 := hq.1
    obtain ⟨m, rfl⟩ : ∃ m, q = m + 1 := ⟨q - 1, by omega⟩
    rw [ht, Nat.mul_pow, Nat.pow_succ, Nat.mul_assoc, Nat.mul_comm (r ^ m), Nat.mul_assoc, Nat.mul_mod_right, Nat.mod_eq_of_lt (by omega)] at hb1
    omega
  have hb2 := fermat hr hnd
  have hb3 := pow_gcd_one q (r - 1) hb1 (by rw [hb2, Nat.mod_eq_of_lt (by omega)])
  rw [show Nat.gcd q (r - 1) = 1 from hco, Nat.pow_one] at hb3
  have hd : r ∣ a ^ c % n + (n - 1) := by
    refine Nat.dvd_of_mod_eq_zero ?_
    rw [Nat.add_mod, Nat.mod_mod_of_dvd _ hrn, hb3, ← Nat.add_mod, show 1 + (n - 1) = n from by omega]
    exact Nat.mod_eq_zero_of_dvd hrn
  have h1 := Nat.dvd_gcd hd hrn
  rw [hg] at h1
  have := Nat.le_of_dvd (by omega) h1
  omega
theorem prod_dvd {n : Nat} : ∀ qs : List Nat, (∀ q ∈ qs, Irred q ∧ q ∣ n) → qs.Nodup → qs.foldr (· * ·) 1 ∣ n
  | [], _, _ => ⟨n, by simp⟩
  | q :: qs, h, hn => by
    simp only [List.foldr_cons]
    rw [List.nodup_cons] at hn
    refine Nat.Coprime.mul_dvd_of_dvd_of_dvd ?_ (h q (by simp)).2 (prod_dvd qs (fun x hx => h x (by simp [hx])) hn.2)
    have hq := (h q (by simp)).1
    have key : ∀ l : List Nat, (∀ x ∈ l, Irred x) → q ∉ l → Nat.Coprime q (l.foldr (· * ·) 1) := by
      intro l
      induction l with
      | nil => intro _ _; simp
      | cons x l ih =>
        intro hl hm
        simp only [List.foldr_cons]
        refine Nat.Coprime.mul_right (irred_coprime hq fun hd => ?_) (ih (fun y hy => hl y (by simp [hy])) (fun hy => hm (by simp [hy])))
        rcases (hl x (by simp)).2 q hd with h1 | h1
        · have := hq.1; omega
        · exact hm (by simp [h1])
    exact key qs (fun x hx => (h x (by simp [hx])).1) hn.1
theorem pock (n : Nat) (qs : List Nat) (h2 : 2 ≤ n) (hw : ∀ q ∈ qs, Wit n q) (hn : qs.Nodup) (hp : n < qs.foldr (· * ·) 1 * qs.foldr (· * ·) 1) : Irred n := by
  have big : ∀ r, Irred r → r ∣ n → n < r * r := by
    intro r hr hd
    have h1 := prod_dvd (n := r - 1) qs (fun q hq => ⟨(hw q hq).irr, wit_dvd (hw q hq) hr hd⟩) hn
    have hr2 := hr.1
    have h3 := Nat.le_of_dvd (by omega) h1
    have : qs.foldr (· * ·) 1 ≤ r := by omega
    exact Nat.lt_of_lt_of_le hp (Nat.mul_le_mul this this)
  refine ⟨h2, fun d hd => Classical.byContradiction fun hc => ?_⟩
  obtain ⟨e, he⟩ := hd
  have hd0 : d ≠ 0 := by rintro rfl; simp at he; omega
  have he0 : e ≠ 0 := by rintro rfl; simp at he; omega
  have hd1 : d ≠ 1 := fun h => hc (Or.inl h)
  have he1 : e ≠ 1 := fun h => hc (Or.inr (by rw [he, h, Nat.mul_one]))
  obtain ⟨r, hr, hrd⟩ := exists_irred d (by omega)
  obtain ⟨s, hs, hse⟩ := exists_irred e (by omega)
  have b1 := big r hr (he ▸ Nat.dvd_trans hrd ⟨e, rfl⟩)
  have b2 := big s hs (he ▸ Nat.dvd_trans hse ⟨d, Nat.mul_comm d e⟩)
  have l1 := Nat.le_of_dvd (by omega) hrd
  have l2 := Nat.le_of_dvd (by omega) hse
  have : r * s ≤ n := he ▸ Nat.mul_le_mul l1 l2
  rcases Nat.le_total r s with hrs | hrs
  · have := Nat.mul_le_mul_left r hrs; omega
  · have := Nat.mul_le_mul_right s hrs; omega
theorem zs0 (n q a c f : Nat) (hq : Irred q) (hn : n = q * c + 1) (hf : q * c < 2 ^ f)
    (h1 : pm n f a (q * c) = 1) (h2 : Nat.gcd (pm n f a c + (n - 1)) n = 1) (hc : c < 2 ^ f) : Wit n q :=
  ⟨hq, a, c, hn, by rw [← pm_eq n f a _ hf]; exact h1, by rw [← pm_eq n f a _ hc]; exact h2⟩
def noDiv (n : Nat) : Nat → Bool
  | 0 => true
  | k + 1 => (k + 1 == 1 || n % (k + 1) != 0) && noDiv n k
theorem noDiv_spec (n : Nat) : ∀ k, noDiv n k = true → ∀ d, 2 ≤ d → d ≤ k → ¬ d ∣ n
  | 0, _, d, h2, hk => by omega
  | k + 1, h, d, h2, hk => by
    simp only [noDiv, Bool.and_eq_true, Bool.or_eq_true, beq_iff_eq, bne_iff_ne] at h
    by_cases hd : d = k + 1
    · subst hd
      intro hdv
      have := Nat.mod_eq_zero_of_dvd hdv
      rcases h.1 with h1 | h1
      · omega
      · exact h1 this
    · exact noDiv_spec n k h.2 d h2 (by omega)
theorem zk8 (n k : Nat) (h2 : 2 ≤ n) (h : noDiv n k = true) (hk : n < (k + 1) * (k + 1)) : Irred n := by
  refine ⟨h2, fun d hd => Classical.byContradiction fun hc => ?_⟩
  obtain ⟨e, he⟩ := hd
  have hd0 : d ≠ 0 := by rintro rfl; simp at he; omega
  have he0 : e ≠ 0 := by rintro rfl; simp at he; omega
  have hd1 : d ≠ 1 := fun h => hc (Or.inl h)
  have he1 : e ≠ 1 := fun h => hc (Or.inr (by rw [he, h, Nat.mul_one]))
  have n1 : ¬ d ≤ k := fun hl => noDiv_spec n k h d (by omega) hl ⟨e, he⟩
  have n2 : ¬ e ≤ k := fun hl => noDiv_spec n k h e (by omega) hl ⟨d, by rw [he, Nat.mul_comm]⟩
  have := Nat.mul_le_mul (show k + 1 ≤ d by omega) (show k + 1 ≤ e by omega)
  omega
theorem irred_430751 : Irred 430751 := zk8 430751 656 (by decide) (by decide +kernel) (by decide)
theorem irred_4153 : Irred 4153 := zk8 4153 64 (by decide) (by decide +kernel) (by decide)
theorem irred_8574133 : Irred 8574133 := zk8 8574133 2928 (by decide) (by decide +kernel) (by decide)
theorem irred_127 : Irred 127 := zk8 127 11 (by decide) (by decide +kernel) (by decide)
theorem irred_569003 : Irred 569003 := zk8 569003 754 (by decide) (by decide +kernel) (by decide)
theorem irred_q6 : Irred 2773320623 := by
  refine pock 2773320623 [569003] (by decide +kernel) ?_ (by decide +kernel) (by decide +kernel)
  intro q hq
  simp only [List.mem_cons, List.not_mem_nil, or_false] at hq
  subst hq
  exact zs0 2773320623 569003 2 4874 33 irred_569003 (by decide +kernel) (by decide +kernel) (by decide +kernel) (by decide +kernel) (by decide +kernel)
theorem irred_q5 : Irred 72106336199 := by
  refine pock 72106336199 [2773320623] (by decide +kernel) ?_ (by decide +kernel) (by decide +kernel)
  intro q hq
  simp only [List.mem_cons, List.not_mem_nil, or_false] at hq
  subst hq
  exact zs0 72106336199 2773320623 2 26 38 irred_q6 (by decide +kernel) (by decide +kernel) (by decide +kernel) (by decide +kernel) (by decide +kernel)
theorem irred_q4 : Irred 1919519569386763 := by
  refine pock 1919519569386763 [8574133, 127] (by decide +kernel) ?_ (by decide +kernel) (by decide +kernel)
  intro q hq
  simp only [List.mem_cons, List.not_mem_nil, or_false] at hq
  rcases hq with rfl | rfl
  · exact zs0 1919519569386763 8574133 2 223873314 52 irred_8574133 (by decide +kernel) (by decide +kernel) (by decide +kernel) (by decide +kernel) (by decide +kernel)
  · exact zs0 1919519569386763 127 2 15114327318006 52 irred_127 (by decide +kernel) (by decide +kernel) (by decide +kernel) (by decide +kernel) (by decide +kernel)
theorem irred_q3 : Irred 31757755568855353 := by
  refine pock 31757755568855353 [430751, 4153] (by decide +kernel) ?_ (by decide +kernel) (by decide +kernel)
  intro q hq
  simp only [List.mem_cons, List.not_mem_nil, or_false] at hq
  rcases hq with rfl | rfl
  · exact zs0 31757755568855353 430751 2 73726481352 56 irred_430751 (by decide +kernel) (by decide +kernel) (by decide +kernel) (by decide +kernel) (by decide +kernel)
  · exact zs0 31757755568855353 4153 2 7646943310584 56 irred_4153 (by decide +kernel) (by decide +kernel) (by decide +kernel) (by decide +kernel) (by decide +kernel)
theorem irred_q2 : Irred 75445702479781427272750846543864801 := by
  refine pock 75445702479781427272750846543864801 [1919519569386763, 72106336199] (by decide +kernel) ?_ (by decide +kernel) (by decide +kernel)
  intro q hq
  simp only [List.mem_cons, List.not_mem_nil, or_false] at hq
  rcases hq with rfl | rfl
  · exact zs0 75445702479781427272750846543864801 1919519569386763 2 39304471641247389600 117 irred_q4 (by decide +kernel) (by decide +kernel) (by decide +kernel) (by decide +kernel) (by decide +kernel)
  · exact zs0 75445702479781427272750846543864801 72106336199 2 1046311689884858398375200 117 irred_q5 (by decide +kernel) (by decide +kernel) (by decide +kernel) (by decide +kernel) (by decide +kernel)
theorem irred_q1 : Irred 74058212732561358302231226437062788676166966415465897661863160754340907 := by
  refine pock 74058212732561358302231226437062788676166966415465897661863160754340907 [75445702479781427272750846543864801, 31757755568855353] (by decide +kernel) ?_ (by decide +kernel) (by decide +kernel)
  intro q hq
  simp only [List.mem_cons, List.not_mem_nil, or_false] at hq
  rcases hq with rfl | rfl
  · exact zs0 74058212732561358302231226437062788676166966415465897661863160754340907 75445702479781427272750846543864801 2 981609426360740691344999861639072106 237 irred_q2 (by decide +kernel) (by decide +kernel) (by decide +kernel) (by decide +kernel) (by decide +kernel)
  · exact zs0 74058212732561358302231226437062788676166966415465897661863160754340907 31757755568855353 2 2331972502653487852620185443007392165117953542933313402 237 irred_q3 (by decide +kernel) (by decide +kernel) (by decide +kernel) (by decide +kernel) (by decide +kernel)
theorem irred_p : Irred 57896044618658097711785492504343953926634992332820282019728792003956564819949 := by
  refine pock 57896044618658097711785492504343953926634992332820282019728792003956564819949 [74058212732561358302231226437062788676166966415465897661863160754340907] (by decide +kernel) ?_ (by decide +kernel) (by decide +kernel)
  intro q hq
  simp only [List.mem_cons, List.not_mem_nil, or_false] at hq
  subst hq
  exact zs0 57896044618658097711785492504343953926634992332820282019728792003956564819949 74058212732561358302231226437062788676166966415465897661863160754340907 2 781764 256 irred_q1 (by decide +kernel) (by decide +kernel) (by decide +kernel) (by decide +kernel) (by decide +kernel)
end Fardel
namespace Fardel
def P : Nat := 57896044618658097711785492504343953926634992332820282019728792003956564819949
theorem P_irred : Irred P := irred_p
instance : NeZero P := ⟨by decide +kernel⟩
theorem P_two : 2 < P := by decide +kernel
abbrev F := Fin P
theorem zi0 (x : F) : ∀ k : Nat, (x ^ k).val = x.val ^ k % P
  | 0 => by
    have : x ^ 0 = 1 := by grind
    rw [this, Nat.pow_zero]; rfl
  | k + 1 => by
    have : x ^ (k + 1) = x ^ k * x := by grind
    rw [this, Fin.val_mul, zi0 x k, Nat.mod_mul_mod, ← Nat.pow_succ]
def inv (x : F) : F := x ^ (P - 2)
theorem val_ne_zero {x : F} (h : x ≠ 0) : ¬ P ∣ x.val := fun hd => h (Fin.ext (Nat.eq_zero_of_dvd_of_lt hd x.isLt))
theorem one_val : (1 : F).val = 1 := Nat.mod_eq_of_lt (by decide +kernel)
theorem zero_val : (0 : F).val = 0 := rfl
theorem pow_p1 {x : F} (h : x ≠ 0) : x ^ (P - 1) = 1 := by
  apply Fin.ext
  rw [zi0, fermat P_irred (val_ne_zero h), one_val]
theorem ze0 {x : F} (h : x ≠ 0) : x * inv x = 1 := by
  have h1 := pow_p1 h
  have h2 : x ^ (P - 1) = x * x ^ (P - 2) := by
    rw [show P - 1 = (P - 2) + 1 from by have := P_two; omega]
    grind
  rw [← h1, h2]; rfl
theorem zh2 : (1 : F) ≠ 0 := fun h => by have := congrArg Fin.val h; rw [one_val] at this; exact absurd this (by decide)
theorem zc3 {x y : F} (hx : x ≠ 0) (hy : y ≠ 0) : x * y ≠ 0 := fun h => by
  have h1 := ze0 hx
  have h2 := ze0 hy
  apply zh2
  have : (1 : F) = (x * y) * (inv x * inv y) := by grind
  rw [this, h]; grind
theorem zi9 {x y : F} (h : x * y = 0) : x = 0 ∨ y = 0 := by
  by_cases hx : x = 0
  · exact Or.inl hx
  · by_cases hy : y = 0
    · exact Or.inr hy
    · exact absurd h (zc3 hx hy)
theorem zg1 {x y z : F} (hz : z ≠ 0) (h : x * z = y * z) : x = y := by
  have h1 := ze0 hz
  have : x = x * (z * inv z) := by rw [h1]; grind
  rw [this]
  have : y = y * (z * inv z) := by rw [h1]; grind
  rw [this]
  grind
theorem inv_one : inv 1 = 1 := by
  have := ze0 zh2
  grind
theorem inv_eq {x y : F} (h : x * y = 1) : inv x = y := by
  have hx : x ≠ 0 := fun hc => zh2 (by rw [← h, hc]; grind)
  have := ze0 hx
  exact zg1 hx (by grind)
def d : F := Fin.ofNat P 37095705934669439343138083508754565189542113879843219016388785533085940283555
def i : F := Fin.ofNat P 19681161376707505956807079304988542015446066515923890162744021073123829784752
theorem d_def : d * 121666 = -121665 := by decide +kernel
theorem i_sq : i * i = -1 := by decide +kernel
theorem two_ne_zero : (2 : F) ≠ 0 := by decide +kernel
theorem pm_pow (x : F) (e : Nat) (h : e < 2 ^ 256) : (x ^ e).val = pm P 256 x.val e := by
  rw [zi0, pm_eq P 256 x.val e h]
theorem d_pow : d ^ ((P - 1) / 2) = -1 := by
  apply Fin.ext
  rw [pm_pow _ _ (by decide +kernel)]
  decide +kernel
theorem d_nonsq (s : F) : s * s ≠ d := fun h => by
  have h1 : d ^ ((P - 1) / 2) = s ^ (P - 1) := by
    have hk : P - 1 = 2 * ((P - 1) / 2) := by decide +kernel
    rw [← h]
    generalize (P - 1) / 2 = k at hk
    rw [hk]
    apply Fin.ext
    rw [zi0, zi0, Nat.pow_mul, Fin.val_mul, ← Nat.pow_mod, Nat.pow_two]
  by_cases hs : s = 0
  · subst hs
    have : d = 0 := by rw [← h]; grind
    exact absurd this (by decide +kernel)
  · rw [pow_p1 hs, d_pow] at h1
    exact absurd h1 (by decide +kernel)
theorem d_nonsq2 {s t : F} (ht : t ≠ 0) (h : s * s = d * (t * t)) : False := by
  have h1 := ze0 ht
  refine d_nonsq (s * inv t) ?_
  have : s * inv t * (s * inv t) = (s * s) * (inv t * inv t) := by grind
  rw [this, h]
  have : d * (t * t) * (inv t * inv t) = d * ((t * inv t) * (t * inv t)) := by grind
  rw [this, h1]; grind
def On (x y : F) : Prop := y * y - x * x = 1 + d * (x * x * (y * y))
theorem complete {x1 y1 x2 y2 e : F} (h1 : On x1 y1) (h2 : On x2 y2) (he : e * e = 1) (h : d * (x1 * x2 * (y1 * y2)) = e) : False := by
  unfold On at h1 h2
  have hi := i_sq
  have hx : x1 * y1 ≠ 0 := fun hc => by
    have : e = 0 := by rw [← h, show x1 * x2 * (y1 * y2) = (x1 * y1) * (x2 * y2) from by grind, hc]; grind
    rw [this] at he
    exact zh2 (by rw [← he]; grind)
  have hx2 : x2 * y2 ≠ 0 := fun hc => by
    have : e = 0 := by rw [← h, show x1 * x2 * (y1 * y2) = (x1 * y1) * (x2 * y2) from by grind, hc]; grind
    rw [this] at he
    exact zh2 (by rw [← he]; grind)
  -- with u = i x: (u1 + f y1)^2 = -d u1^2 y1^2 (u2 + y2)^2 where f = -e
  have k1 : (i * x1 + e * y1) * (i * x1 + e * y1) = d * ((x1 * y1 * (i * x2 + y2)) * (x1 * y1 * (i * x2 + y2))) := by
    generalize d = d at *
    generalize i = i at *
    clear hx hx2
    grobner
  have k2 : (i * x1 - e * y1) * (i * x1 - e * y1) = d * ((x1 * y1 * (i * x2 - y2)) * (x1 * y1 * (i * x2 - y2))) := by
    generalize d = d at *
    generalize i = i at *
    clear hx hx2
    grobner
  by_cases c1 : i * x2 + y2 = 0
  · by_cases c2 : i * x2 - y2 = 0
    · have : (2 : F) * y2 = 0 := by grind
      rcases zi9 this with h | h
      · exact two_ne_zero h
      · exact hx2 (by rw [h]; grind)
    · exact d_nonsq2 (zc3 hx c2) k2
  · exact d_nonsq2 (zc3 hx c1) k1
end Fardel
namespace Fardel
theorem dp_ne {x1 y1 x2 y2 : F} (h1 : On x1 y1) (h2 : On x2 y2) : 1 + d * (x1 * x2 * (y1 * y2)) ≠ 0 := fun h =>
  complete (e := -1) h1 h2 (by grobner) (by generalize d = d at *; grobner)
theorem dm_ne {x1 y1 x2 y2 : F} (h1 : On x1 y1) (h2 : On x2 y2) : 1 - d * (x1 * x2 * (y1 * y2)) ≠ 0 := fun h =>
  complete (e := 1) h1 h2 (by grobner) (by generalize d = d at *; grobner)
def sx (x1 y1 x2 y2 : F) : F := (x1 * y2 + y1 * x2) * inv (1 + d * (x1 * x2 * (y1 * y2)))
def sy (x1 y1 x2 y2 : F) : F := (y1 * y2 + x1 * x2) * inv (1 - d * (x1 * x2 * (y1 * y2)))
theorem on_aux {N M A B u v d : F} (hA : A * u = 1) (hB : B * v = 1) (hK : M * M * (A * A) - N * N * (B * B) = A * A * (B * B) + d * (N * N * (M * M))) :
    M * v * (M * v) - N * u * (N * u) = 1 + d * (N * u * (N * u) * (M * v * (M * v))) := by
  have e1 : M * v * (M * v) = (u * u * (v * v)) * (M * M * (A * A)) := by grobner
  have e2 : N * u * (N * u) = (u * u * (v * v)) * (N * N * (B * B)) := by grobner
  have e3 : (1 : F) = (u * u * (v * v)) * (A * A * (B * B)) := by grobner
  have e4 : N * u * (N * u) * (M * v * (M * v)) = (u * u * (v * v)) * (N * N * (M * M)) := by grobner
  rw [e4, e1, e2]
  generalize u * u * (v * v) = t at *
  grobner
theorem on_add {x1 y1 x2 y2 : F} (h1 : On x1 y1) (h2 : On x2 y2) : On (sx x1 y1 x2 y2) (sy x1 y1 x2 y2) := by
  have hA := ze0 (dp_ne h1 h2)
  have hB := ze0 (dm_ne h1 h2)
  refine on_aux hA hB ?_
  unfold On at h1 h2
  clear hA hB
  generalize d = d at *
  grobner
structure Pt where
  x : F
  y : F
  on : On x y
theorem Pt.ext' {p q : Pt} (hx : p.x = q.x) (hy : p.y = q.y) : p = q := by
  cases p; cases q; simp only at hx hy; subst hx; subst hy; rfl
def Pt.add (p q : Pt) : Pt := ⟨sx p.x p.y q.x q.y, sy p.x p.y q.x q.y, on_add p.on q.on⟩
def Pt.zero : Pt := ⟨0, 1, by unfold On; generalize d = d; grobner⟩
def Pt.neg (p : Pt) : Pt := ⟨-p.x, p.y, by have := p.on; unfold On at *; generalize d = d at *; grobner⟩
theorem Pt.add_comm (p q : Pt) : p.add q = q.add p := by
  apply Pt.ext'
  · show sx _ _ _ _ = sx _ _ _ _
    unfold sx
    rw [show p.x * q.x * (p.y * q.y) = q.x * p.x * (q.y * p.y) from by grobner]
    generalize inv _ = u
    grobner
  · show sy _ _ _ _ = sy _ _ _ _
    unfold sy
    rw [show p.x * q.x * (p.y * q.y) = q.x * p.x * (q.y * p.y) from by grobner]
    generalize inv _ = u
    grobner
theorem z1 {a b e : F} : 1 + e * (a * 0 * (b * 1)) = 1 := by
  have : e * (a * 0 * (b * 1)) = 0 := by grobner
  rw [this]
  exact Fin.add_zero 1
theorem z2 {a b e : F} : 1 - e * (a * 0 * (b * 1)) = 1 := by
  have : e * (a * 0 * (b * 1)) = 0 := by grobner
  rw [this]
  decide +kernel
theorem Pt.add_zero (p : Pt) : p.add .zero = p := by
  apply Pt.ext'
  · show sx _ _ 0 1 = _
    unfold sx
    rw [z1, inv_one]
    grobner
  · show sy _ _ 0 1 = _
    unfold sy
    rw [z2, inv_one]
    grobner
theorem Pt.add_neg (p : Pt) : p.add p.neg = .zero := by
  have h := p.on
  apply Pt.ext'
  · show sx _ _ (-p.x) p.y = 0
    unfold sx
    generalize inv _ = u
    grobner
  · show sy _ _ (-p.x) p.y = 1
    have hn := ze0 (dm_ne p.on p.neg.on)
    unfold sy
    unfold On at h
    have e : p.y * p.y + p.x * -p.x = 1 - d * (p.x * -p.x * (p.y * p.y)) := by generalize d = d at *; clear hn; grobner
    rw [e]
    exact hn
theorem assoc_x {x1 y1 x2 y2 x3 y3 d : F} (h1 : y1 * y1 - x1 * x1 = 1 + d * (x1 * x1 * (y1 * y1))) (h2 : y2 * y2 - x2 * x2 = 1 + d * (x2 * x2 * (y2 * y2)))
    (h3 : y3 * y3 - x3 * x3 = 1 + d * (x3 * x3 * (y3 * y3))) (N M A B N' M' A' B' : F)
    (eN : N = x1 * y2 + y1 * x2) (eM : M = y1 * y2 + x1 * x2) (eA : A = 1 + d * (x1 * x2 * (y1 * y2))) (eB : B = 1 - d * (x1 * x2 * (y1 * y2)))
    (eN' : N' = x2 * y3 + y2 * x3) (eM' : M' = y2 * y3 + x2 * x3) (eA' : A' = 1 + d * (x2 * x3 * (y2 * y3))) (eB' : B' = 1 - d * (x2 * x3 * (y2 * y3))) :
    (N * B * y3 + M * A * x3) * (A' * B' + d * (x1 * N' * (y1 * M'))) = (x1 * (M' * A') + y1 * (N' * B')) * (A * B + d * (N * x3 * (M * y3))) := by
  subst eN eM eA eB eN' eM' eA' eB'
  grobner
theorem assoc_y {x1 y1 x2 y2 x3 y3 d : F} (h1 : y1 * y1 - x1 * x1 = 1 + d * (x1 * x1 * (y1 * y1))) (h2 : y2 * y2 - x2 * x2 = 1 + d * (x2 * x2 * (y2 * y2)))
    (h3 : y3 * y3 - x3 * x3 = 1 + d * (x3 * x3 * (y3 * y3))) (N M A B N' M' A' B' : F)
    (eN : N = x1 * y2 + y1 * x2) (eM : M = y1 * y2 + x1 * x2) (eA : A = 1 + d * (x1 * x2 * (y1 * y2))) (eB : B = 1 - d * (x1 * x2 * (y1 * y2)))
    (eN' : N' = x2 * y3 + y2 * x3) (eM' : M' = y2 * y3 + x2 * x3) (eA' : A' = 1 + d * (x2 * x3 * (y2 * y3))) (eB' : B' = 1 - d * (x2 * x3 * (y2 * y3))) :
    (M * A * y3 + N * B * x3) * (A' * B' - d * (x1 * N' * (y1 * M'))) = (y1 * (M' * A') + x1 * (N' * B')) * (A * B - d * (N * x3 * (M * y3))) := by
  subst eN eM eA eB eN' eM' eA' eB'
  grobner
theorem cross {a b w w' : F} (hw : w ≠ 0) (hw' : w' ≠ 0) (h : a * w' = b * w) : a * inv w = b * inv w' := by
  have h1 := ze0 hw
  have h2 := ze0 hw'
  generalize inv w = u at *
  generalize inv w' = u' at *
  have : a * u = (a * w') * (u * u') := by grobner
  rw [this, h]
  grobner
theorem cross_x {x1 y1 x3 y3 d N M A B N' M' A' B' u v u' v' : F} (hA : A * u = 1) (hB : B * v = 1) (hA' : A' * u' = 1) (hB' : B' * v' = 1)
    (h : (N * B * y3 + M * A * x3) * (A' * B' + d * (x1 * N' * (y1 * M'))) = (x1 * (M' * A') + y1 * (N' * B')) * (A * B + d * (N * x3 * (M * y3)))) :
    (N * u * y3 + M * v * x3) * (1 + d * (x1 * (N' * u') * (y1 * (M' * v')))) = (x1 * (M' * v') + y1 * (N' * u')) * (1 + d * (N * u * x3 * (M * v * y3))) := by
  have e1 : N * u * y3 + M * v * x3 = u * v * (N * B * y3 + M * A * x3) := by clear h; grobner
  have e2 : 1 + d * (x1 * (N' * u') * (y1 * (M' * v'))) = u' * v' * (A' * B' + d * (x1 * N' * (y1 * M'))) := by clear h; grobner
  have e3 : x1 * (M' * v') + y1 * (N' * u') = u' * v' * (x1 * (M' * A') + y1 * (N' * B')) := by clear h; grobner
  have e4 : 1 + d * (N * u * x3 * (M * v * y3)) = u * v * (A * B + d * (N * x3 * (M * y3))) := by clear h; grobner
  rw [e1, e2, e3, e4]
  generalize N * B * y3 + M * A * x3 = a at *
  generalize A' * B' + d * (x1 * N' * (y1 * M')) = b at *
  generalize x1 * (M' * A') + y1 * (N' * B') = c at *
  generalize A * B + d * (N * x3 * (M * y3)) = e at *
  clear e1 e2 e3 e4 hA hB hA' hB'
  grobner
theorem cross_y {x1 y1 x3 y3 d N M A B N' M' A' B' u v u' v' : F} (hA : A * u = 1) (hB : B * v = 1) (hA' : A' * u' = 1) (hB' : B' * v' = 1)
    (h : (M * A * y3 + N * B * x3) * (A' * B' - d * (x1 * N' * (y1 * M'))) = (y1 * (M' * A') + x1 * (N' * B')) * (A * B - d * (N * x3 * (M * y3)))) :
    (M * v * y3 + N * u * x3) * (1 - d * (x1 * (N' * u') * (y1 * (M' * v')))) = (y1 * (M' * v') + x1 * (N' * u')) * (1 - d * (N * u * x3 * (M * v * y3))) := by
  have e1 : M * v * y3 + N * u * x3 = u * v * (M * A * y3 + N * B * x3) := by clear h; grobner
  have e2 : 1 - d * (x1 * (N' * u') * (y1 * (M' * v'))) = u' * v' * (A' * B' - d * (x1 * N' * (y1 * M'))) := by clear h; grobner
  have e3 : y1 * (M' * v') + x1 * (N' * u') = u' * v' * (y1 * (M' * A') + x1 * (N' * B')) := by clear h; grobner
  have e4 : 1 - d * (N * u * x3 * (M * v * y3)) = u * v * (A * B - d * (N * x3 * (M * y3))) := by clear h; grobner
  rw [e1, e2, e3, e4]
  generalize M * A * y3 + N * B * x3 = a at *
  generalize A' * B' - d * (x1 * N' * (y1 * M')) = b at *
  generalize y1 * (M' * A') + x1 * (N' * B') = c at *
  generalize A * B - d * (N * x3 * (M * y3)) = e at *
  clear e1 e2 e3 e4 hA hB hA' hB'
  grobner
theorem Pt.add_assoc (p q r : Pt) : (p.add q).add r = p.add (q.add r) := by
  have hA := ze0 (dp_ne p.on q.on)
  have hB := ze0 (dm_ne p.on q.on)
  have hA' := ze0 (dp_ne q.on r.on)
  have hB' := ze0 (dm_ne q.on r.on)
  apply Pt.ext'
  · show sx (sx p.x p.y q.x q.y) (sy p.x p.y q.x q.y) r.x r.y = sx p.x p.y (sx q.x q.y r.x r.y) (sy q.x q.y r.x r.y)
    refine cross (dp_ne (p.add q).on r.on) (dp_ne p.on (q.add r).on) ?_
    exact cross_x hA hB hA' hB' (assoc_x p.on q.on r.on _ _ _ _ _ _ _ _ rfl rfl rfl rfl rfl rfl rfl rfl)
  · show sy (sx p.x p.y q.x q.y) (sy p.x p.y q.x q.y) r.x r.y = sy p.x p.y (sx q.x q.y r.x r.y) (sy q.x q.y r.x r.y)
    refine cross (dm_ne (p.add q).on r.on) (dm_ne p.on (q.add r).on) ?_
    exact cross_y hA hB hA' hB' (assoc_y p.on q.on r.on _ _ _ _ _ _ _ _ rfl rfl rfl rfl rfl rfl rfl rfl)
end Fardel
namespace Fardel
theorem Pt.zero_add (p : Pt) : Pt.zero.add p = p := by rw [Pt.add_comm, Pt.add_zero]
def Pt.smul : Nat → Pt → Pt
  | 0, _ => .zero
  | k + 1, p => (smul k p).add p
theorem zf8 (p : Pt) : p.smul 0 = .zero := rfl
theorem zp3 (k : Nat) (p : Pt) : p.smul (k + 1) = (p.smul k).add p := rfl
theorem zq6 (p : Pt) : p.smul 1 = p := Pt.zero_add p
theorem zh0 (a : Nat) (p : Pt) : ∀ b, p.smul (a + b) = (p.smul a).add (p.smul b)
  | 0 => (Pt.add_zero _).symm
  | b + 1 => by rw [← Nat.add_assoc, zp3, zh0 a p b, zp3, Pt.add_assoc]
theorem zm6 (a : Nat) (p : Pt) : ∀ b, p.smul (a * b) = (p.smul a).smul b
  | 0 => rfl
  | b + 1 => by rw [Nat.mul_succ, zh0, zm6 a p b, zp3]
theorem add4 (a b c e : Pt) : (a.add b).add (c.add e) = (a.add c).add (b.add e) := by
  rw [Pt.add_assoc, Pt.add_assoc, ← Pt.add_assoc b c e, Pt.add_comm b c, Pt.add_assoc c b e]
theorem smul_dist (p q : Pt) (k : Nat) : (p.add q).smul k = (p.smul k).add (q.smul k) := by
  induction k with
  | zero => rw [zf8, zf8, zf8, Pt.add_zero]
  | succ k ih =>
    have h := add4 (p.smul k) (q.smul k) p q
    rw [zp3 k (p.add q), ih]
    exact h
theorem zr9 : ∀ k, Pt.zero.smul k = .zero
  | 0 => rfl
  | k + 1 => by rw [zp3, zr9 k, Pt.add_zero]
theorem smul_two (p : Pt) : p.smul 2 = p.add p := by rw [zp3, zq6]
theorem smul_mod {p : Pt} {l : Nat} (h : p.smul l = .zero) (k : Nat) : p.smul (k % l) = p.smul k := by
  have e : p.smul k = p.smul (l * (k / l) + k % l) := by rw [Nat.div_add_mod]
  rw [e, zh0, zm6, h, zr9, Pt.zero_add]
theorem zt0 {p q r : Pt} (h : p.add q = p.add r) : q = r := by
  have := congrArg (Pt.add p.neg) h
  rwa [← Pt.add_assoc, ← Pt.add_assoc, Pt.add_comm p.neg p, Pt.add_neg, Pt.zero_add, Pt.zero_add] at this
structure Ext (x y z t : F) (p : Pt) : Prop where
  z0 : z ≠ 0
  hx : x = p.x * z
  hy : y = p.y * z
  ht : t = p.x * p.y * z
theorem ext_zero : Ext 0 1 1 0 .zero := ⟨zh2, by show (0 : F) = 0 * 1; grobner, by show (1 : F) = 1 * 1; grobner, by show (0 : F) = 0 * 1 * 1; grobner⟩
theorem ext_of (p : Pt) : Ext p.x p.y 1 (p.x * p.y) p := ⟨zh2, by grobner, by grobner, by grobner⟩
theorem ext_neg {x y z t : F} {p : Pt} (h : Ext x y z t p) : Ext (-x) y z (-t) p.neg := by
  obtain ⟨h0, rfl, rfl, rfl⟩ := h
  exact ⟨h0, by show _ = -p.x * z; grobner, rfl, by show _ = -p.x * p.y * z; grobner⟩
theorem ext_places {x y z t : F} {p : Pt} (h : Ext x y z t p) : x * inv z = p.x ∧ y * inv z = p.y := by
  obtain ⟨h0, rfl, rfl, rfl⟩ := h
  have := ze0 h0
  generalize inv z = u at *
  exact ⟨by grobner, by grobner⟩
theorem ext_same {x y z t x' y' z' t' : F} {p q : Pt} (h : Ext x y z t p) (h' : Ext x' y' z' t' q) :
    (x * z' = x' * z ∧ y * z' = y' * z) ↔ p = q := by
  obtain ⟨h0, rfl, rfl, rfl⟩ := h
  obtain ⟨h0', rfl, rfl, rfl⟩ := h'
  constructor
  · rintro ⟨h1, h2⟩
    have hz := zc3 h0 h0'
    exact Pt.ext' (zg1 hz (by grobner)) (zg1 hz (by grobner))
  · rintro rfl
    exact ⟨by grobner, by grobner⟩
theorem ext_add {x y z t x' y' z' t' : F} {p q : Pt} (h : Ext x y z t p) (h' : Ext x' y' z' t' q)
    {a b c zz e f g k : F} (ea : a = (y - x) * (y' - x')) (eb : b = (y + x) * (y' + x')) (ec : c = t * t' * (d + d)) (ez : zz = z * z' + z * z')
    (ee : e = b - a) (ef : f = zz - c) (eg : g = zz + c) (ek : k = b + a) :
    Ext (e * f) (g * k) (f * g) (e * k) (p.add q) := by
  obtain ⟨h0, rfl, rfl, rfl⟩ := h
  obtain ⟨h0', rfl, rfl, rfl⟩ := h'
  have hA := dp_ne p.on q.on
  have hB := dm_ne p.on q.on
  have hz := zc3 h0 h0'
  have h2 := zc3 two_ne_zero hz
  have iA := ze0 hA
  have iB := ze0 hB
  have efv : f = 2 * (z * z') * (1 - d * (p.x * q.x * (p.y * q.y))) := by subst ef ez ec; clear iA iB; generalize d = d at *; grobner
  have egv : g = 2 * (z * z') * (1 + d * (p.x * q.x * (p.y * q.y))) := by subst eg ez ec; clear iA iB; generalize d = d at *; grobner
  have eev : e = 2 * (z * z') * (p.x * q.y + p.y * q.x) := by subst ee eb ea; clear iA iB; grobner
  have ekv : k = 2 * (z * z') * (p.y * q.y + p.x * q.x) := by subst ek eb ea; clear iA iB; grobner
  clear ea eb ec ez ee ef eg ek
  have ex : (p.add q).x = (p.x * q.y + p.y * q.x) * inv (1 + d * (p.x * q.x * (p.y * q.y))) := rfl
  have ey : (p.add q).y = (p.y * q.y + p.x * q.x) * inv (1 - d * (p.x * q.x * (p.y * q.y))) := rfl
  generalize inv (1 + d * (p.x * q.x * (p.y * q.y))) = u at *
  generalize inv (1 - d * (p.x * q.x * (p.y * q.y))) = v at *
  generalize 1 + d * (p.x * q.x * (p.y * q.y)) = A at *
  generalize 1 - d * (p.x * q.x * (p.y * q.y)) = B at *
  generalize p.x * q.y + p.y * q.x = N at *
  generalize p.y * q.y + p.x * q.x = M at *
  generalize 2 * (z * z') = w at *
  refine ⟨?_, ?_, ?_, ?_⟩
  · rw [efv, egv]; exact zc3 (zc3 h2 hB) (zc3 h2 hA)
  · rw [ex, efv, egv, eev]; grobner
  · rw [ey, efv, egv, ekv]; grobner
  · rw [ex, ey, efv, egv, eev, ekv]; grobner
theorem ext_dbl {x y z t : F} {p : Pt} (h : Ext x y z t p) {a b c k e g f : F} (ea : a = x * x) (eb : b = y * y) (ec : c = z * z) (ek : k = a + b)
    (ee : e = k - (x + y) * (x + y)) (eg : g = a - b) (ef : f = c + c + g) : Ext (e * f) (g * k) (f * g) (e * k) (p.add p) := by
  obtain ⟨h0, rfl, rfl, rfl⟩ := h
  have hA := dp_ne p.on p.on
  have hB := dm_ne p.on p.on
  have hon := p.on
  unfold On at hon
  have hz := zc3 h0 h0
  have iA := ze0 hA
  have iB := ze0 hB
  have egv : g = -(z * z) * (1 + d * (p.x * p.x * (p.y * p.y))) := by subst eg ea eb; clear iA iB; generalize d = d at *; grobner
  have efv : f = (z * z) * (1 - d * (p.x * p.x * (p.y * p.y))) := by rw [ef, egv, ec]; clear iA iB; generalize d = d at *; grobner
  have ekv : k = (z * z) * (p.y * p.y + p.x * p.x) := by subst ek ea eb; clear iA iB; grobner
  have eev : e = -(z * z) * (p.x * p.y + p.y * p.x) := by rw [ee, ekv]; clear iA iB; grobner
  clear ea eb ec ek ee eg ef hon
  have ex : (p.add p).x = (p.x * p.y + p.y * p.x) * inv (1 + d * (p.x * p.x * (p.y * p.y))) := rfl
  have ey : (p.add p).y = (p.y * p.y + p.x * p.x) * inv (1 - d * (p.x * p.x * (p.y * p.y))) := rfl
  generalize inv (1 + d * (p.x * p.x * (p.y * p.y))) = u at *
  generalize inv (1 - d * (p.x * p.x * (p.y * p.y))) = v at *
  generalize 1 + d * (p.x * p.x * (p.y * p.y)) = A at *
  generalize 1 - d * (p.x * p.x * (p.y * p.y)) = B at *
  generalize p.x * p.y + p.y * p.x = N at *
  generalize p.y * p.y + p.x * p.x = M at *
  have hn : -(z * z) ≠ 0 := fun hc => hz (by grobner)
  generalize z * z = w at *
  refine ⟨?_, ?_, ?_, ?_⟩
  · rw [efv, egv]; exact zc3 (zc3 hz hB) (zc3 hn hA)
  · rw [ex, efv, egv, eev]; grobner
  · rw [ey, efv, egv, ekv]; grobner
  · rw [ex, ey, efv, egv, eev, ekv]; grobner
def bx : F := Fin.ofNat P 15112221349535400772501151409588531511454012693041857206046113283949847762202
def by' : F := Fin.ofNat P 46316835694926478169428394003475163141307993866256225615783033603165251855960
def Pt.base : Pt := ⟨bx, by', by unfold On; decide +kernel⟩
structure Q4 where
  x : F
  y : F
  z : F
  t : F
def Q4.add (p q : Q4) : Q4 :=
  let a := (p.y - p.x) * (q.y - q.x)
  let b := (p.y + p.x) * (q.y + q.x)
  let c := p.t * q.t * (d + d)
  let zz := p.z * q.z + p.z * q.z
  let e := b - a
  let f := zz - c
  let g := zz + c
  let k := b + a
  ⟨e * f, g * k, f * g, e * k⟩
def Q4.is (q : Q4) (p : Pt) : Prop := Ext q.x q.y q.z q.t p
theorem Q4.is_add {a b : Q4} {p q : Pt} (h : a.is p) (h' : b.is q) : (a.add b).is (p.add q) :=
  ext_add h h' rfl rfl rfl rfl rfl rfl rfl rfl
def Q4.go : Nat → Nat → Q4 → Q4 → Q4
  | 0, _, _, r => r
  | f + 1, k, q, r => Q4.go f (k / 2) (q.add q) (if k % 2 = 1 then r.add q else r)
theorem Q4.is_go : ∀ (f k : Nat) (q r : Q4) (p s : Pt), k < 2 ^ f → q.is p → r.is s → (Q4.go f k q r).is (s.add (p.smul k))
  | 0, k, q, r, p, s, hk, _, hr => by
    have : k = 0 := by simpa using hk
    subst this
    rw [zf8, Pt.add_zero]; exact hr
  | f + 1, k, q, r, p, s, hk, hq, hr => by
    have ih := fun r s hr => Q4.is_go f (k / 2) (q.add q) r (p.add p) s (by rw [Nat.pow_succ] at hk; omega) (Q4.is_add hq hq) hr
    have e : (p.add p).smul (k / 2) = p.smul (2 * (k / 2)) := by rw [zm6, smul_two]
    rw [Q4.go]
    by_cases h1 : k % 2 = 1
    · rw [if_pos h1]
      have := ih (r.add q) (s.add p) (Q4.is_add hr hq)
      rw [e, Pt.add_assoc] at this
      rw [show k = 1 + 2 * (k / 2) from by omega, zh0, zq6, show (1 + 2 * (k / 2)) / 2 = k / 2 from by omega]
      exact this
    · rw [if_neg h1]
      have := ih r s hr
      rw [e, show 2 * (k / 2) = k from by omega] at this
      exact this
def L : Nat := 7237005577332262213973186563042994240857116359379907606001950938285454250989
theorem order_run : let q := Q4.go 253 L ⟨bx, by', 1, bx * by'⟩ ⟨0, 1, 1, 0⟩; q.x = 0 ∧ q.y = q.z := by decide +kernel
theorem base_order : Pt.base.smul L = .zero := by
  have h := Q4.is_go 253 L ⟨bx, by', 1, bx * by'⟩ ⟨0, 1, 1, 0⟩ .base .zero (by decide +kernel) (ext_of .base) ext_zero
  rw [Pt.zero_add] at h
  have hr := order_run
  simp only at hr
  generalize Q4.go 253 L ⟨bx, by', 1, bx * by'⟩ ⟨0, 1, 1, 0⟩ = q at *
  have := (ext_same h ext_zero).1 ⟨by rw [hr.1]; grobner, by rw [hr.2]; grobner⟩
  exact this
end Fardel
namespace Fardel
open Go
def toF (n : Int) : F := ⟨(n % (P : Int)).toNat, by
  have hp : (0 : Int) < (P : Int) := by have := P_two; omega
  have h1 := Int.emod_nonneg n (Int.ne_of_gt hp)
  have h2 := Int.emod_lt_of_pos n hp
  omega⟩
theorem zk3 (n : Int) : ((toF n).val : Int) = n % (P : Int) := by
  have hp : (0 : Int) < (P : Int) := by have := P_two; omega
  have h1 := Int.emod_nonneg n (Int.ne_of_gt hp)
  show (((n % (P : Int)).toNat : Nat) : Int) = _
  omega
theorem F_ext {x y : F} (h : (x.val : Int) = (y.val : Int)) : x = y := Fin.ext (by omega)
theorem toF_add (a b : Int) : toF (a + b) = toF a + toF b := F_ext (by
  rw [zk3, Fin.val_add]
  push_cast
  rw [zk3, zk3, ← Int.add_emod])
theorem toF_mul (a b : Int) : toF (a * b) = toF a * toF b := F_ext (by
  rw [zk3, Fin.val_mul]
  push_cast
  rw [zk3, zk3, ← Int.mul_emod])
theorem toF_nat (x : F) : toF (x.val : Int) = x := F_ext (by
  rw [zk3]
  exact Int.emod_eq_of_lt (by omega) (by have := x.isLt; omega))
theorem toF_eq {a b : Int} (k : Int) (h : a = b + (P : Int) * k) : toF a = toF b := F_ext (by
  rw [zk3, zk3, h, Int.add_mul_emod_self_left])
theorem toF_zero : toF 0 = 0 := rfl
theorem toF_neg (a : Int) : toF (-a) = -toF a := by
  have h : toF (a + -a) = toF a + toF (-a) := toF_add a (-a)
  rw [Int.add_right_neg, toF_zero] at h
  grobner
theorem toF_sub (a b : Int) : toF (a - b) = toF a - toF b := by
  rw [Int.sub_eq_add_neg, toF_add, toF_neg]
  grobner
structure Fe where
  l0 : Int
  l1 : Int
  l2 : Int
  l3 : Int
  l4 : Int
abbrev feA (x : Fe) : Array Value := #[.int .u64 x.l0, .int .u64 x.l1, .int .u64 x.l2, .int .u64 x.l3, .int .u64 x.l4]
def Fe.sum (x : Fe) : Int := x.l0 + 2251799813685248 * x.l1 + 5070602400912917605986812821504 * x.l2 + 11417981541647679048466287755595961091061972992 * x.l3 + 25711008708143844408671393477458601640355247900524685364822016 * x.l4
structure Fe.lt (x : Fe) (B : Int) : Prop where
  a0 : 0 ≤ x.l0
  b0 : x.l0 < B
  a1 : 0 ≤ x.l1
  b1 : x.l1 < B
  a2 : 0 ≤ x.l2
  b2 : x.l2 < B
  a3 : 0 ≤ x.l3
  b3 : x.l3 < B
  a4 : 0 ≤ x.l4
  b4 : x.l4 < B
structure Fe.is (x : Fe) (v : F) : Prop where
  lt : x.lt 4503599627370496
  val : toF x.sum = v
theorem Fe.lt.mono {x : Fe} {B C : Int} (h : x.lt B) (hB : B ≤ C) : x.lt C :=
  ⟨h.a0, Int.lt_of_lt_of_le h.b0 hB, h.a1, Int.lt_of_lt_of_le h.b1 hB, h.a2, Int.lt_of_lt_of_le h.b2 hB, h.a3, Int.lt_of_lt_of_le h.b3 hB, h.a4, Int.lt_of_lt_of_le h.b4 hB⟩
theorem zp1 (n : Int) (h₀ : 0 ≤ n) (h₁ : n < 2 ^ 64) : IntKind.u64.wrap n = n := by rw [IntKind.wrap_u64]; omega
theorem and51 (x : Int) (h0 : 0 ≤ x) (h1 : x < 18446744073709551616) : bits .and .u64 x 2251799813685247 = x % 2251799813685248 :=
  bits_mask .u64 64 (by decide) zp1 51 (by decide) x h0 h1
def zj6 (x : Fe) : Fe :=
  ⟨x.l0 % 2251799813685248 + 19 * (x.l4 / 2251799813685248), x.l1 % 2251799813685248 + x.l0 / 2251799813685248, x.l2 % 2251799813685248 + x.l1 / 2251799813685248,
   x.l3 % 2251799813685248 + x.l2 / 2251799813685248, x.l4 % 2251799813685248 + x.l3 / 2251799813685248⟩
theorem P_int : (P : Int) = 57896044618658097711785492504343953926634992332820282019728792003956564819949 := rfl
theorem carryN_lt {x : Fe} (h : x.lt 9223372036854775808) : (zj6 x).lt 2251799813763072 := by
  obtain ⟨a0, b0, a1, b1, a2, b2, a3, b3, a4, b4⟩ := h
  unfold zj6
  constructor <;> simp only <;> omega
theorem carryN_sum (x : Fe) : (zj6 x).sum = x.sum + (P : Int) * -(x.l4 / 2251799813685248) := by
  unfold Fe.sum zj6
  rw [P_int]
  simp only
  omega
end Fardel
namespace Go.AE
open Go Fardel
noncomputable def hid {α : Type} (x : α) : α := Classical.choose (⟨x, rfl⟩ : ∃ y, y = x)
theorem zb5 {α : Type} (x : α) : hid x = x := Classical.choose_spec (⟨x, rfl⟩ : ∃ y, y = x)
noncomputable def dg (v : F) (i : Nat) : Int := hid (fun (v : F) (i : Nat) => ((v.val / 65536 ^ i % 65536 : Nat) : Int)) v i
theorem dg_eq (v : F) (i : Nat) : dg v i = ((v.val / 65536 ^ i % 65536 : Nat) : Int) := by unfold dg; rw [zb5]
inductive Abs where
  | fe (v : F)
  | pt (p : Pt)
  | nn (v : F)
  | view (off : Nat) (k : IntKind) (n : Nat) (f : Nat → Int)
def ze8 : Value → Prop
  | .agg _ | .tuple _ => False
  | _ => True
def limbs (x : Fe) : List Value := [.int .u64 x.l0, .int .u64 x.l1, .int .u64 x.l2, .int .u64 x.l3, .int .u64 x.l4]
def Abs.size : Abs → Nat
  | .fe _ => 5
  | .pt _ => 21
  | .nn _ => 16
  | .view off _ n _ => off + n
def PtIs (p : Pt) (cs : List Value) : Prop :=
  (∃ (x y z t : F) (a b c e : Fe), Ext x y z t p ∧ a.is x ∧ b.is y ∧ c.is z ∧ e.is t ∧ cs = limbs a ++ (limbs b ++ (limbs c ++ (limbs e ++ [.bool true])))) ∨
  (p = .zero ∧ ∃ l, l.length = 20 ∧ (∀ x ∈ l, ze8 x) ∧ cs = l ++ [.bool false])
def Abs.is : Abs → List Value → Prop
  | .fe v, cs => ∃ x : Fe, x.is v ∧ cs = limbs x
  | .pt p, cs => PtIs p cs
  | .nn v, cs => cs.length = 16 ∧ ∀ i, i < 16 → cs[i]? = some (.int .u64 (dg v i))
  | .view off k n f, cs => cs.length = off + n ∧ (∀ x ∈ cs, ze8 x) ∧ ∀ i, i < n → cs[off + i]? = some (.int k (f i))
theorem zk7 (x : Fe) : ∀ y ∈ limbs x, ze8 y := by
  intro y hy
  simp only [limbs, List.mem_cons, List.not_mem_nil, or_false] at hy
  rcases hy with rfl | rfl | rfl | rfl | rfl <;> trivial
theorem Abs.is_len {a : Abs} {cs : List Value} (h : a.is cs) : cs.length = a.size := by
  cases a with
  | fe v => obtain ⟨x, _, rfl⟩ := h; rfl
  | pt p =>
    rcases h with ⟨x, y, z, t, a, b, c, e, _, _, _, _, _, rfl⟩ | ⟨_, l, hl, _, rfl⟩
    · rfl
    · simp [hl, Abs.size]
  | nn v => exact h.1
  | view => exact h.1
theorem Abs.is_cells {a : Abs} {cs : List Value} (h : a.is cs) : ∀ x ∈ cs, ze8 x := by
  cases a with
  | fe v => obtain ⟨x, _, rfl⟩ := h; exact zk7 x
  | pt p =>
    rcases h with ⟨x, y, z, t, a, b, c, e, _, _, _, _, _, rfl⟩ | ⟨_, l, hl, hc, rfl⟩
    · intro w hw
      simp only [List.mem_append, List.mem_singleton] at hw
      rcases hw with h | h | h | h | rfl
      · exact zk7 _ _ h
      · exact zk7 _ _ h
      · exact zk7 _ _ h
      · exact zk7 _ _ h
      · trivial
    · intro w hw
      simp only [List.mem_append, List.mem_singleton] at hw
      rcases hw with h | rfl
      · exact hc w h
      · trivial
  | nn v =>
    intro w hw
    obtain ⟨e, h⟩ := h
    obtain ⟨j, hj, rfl⟩ := List.mem_iff_getElem.1 hw
    have := h j (by omega)
    rw [List.getElem?_eq_getElem hj] at this
    rw [Option.some.inj this]; trivial
  | view => exact h.2.1
end Go.AE
namespace Go.AE
open Go
noncomputable section
inductive Step where
  | fld (j o : Nat)
  | idx (i m : Nat)
  | sub (o n : Nat)
def Step.off : Step → Nat
  | .fld _ o => o
  | .idx i m => i * m
  | .sub o _ => o
def poff : List Step → Nat
  | [] => 0
  | s :: p => s.off + poff p
theorem zq9 (p q : List Step) : poff (p ++ q) = poff p + poff q := by
  induction p with
  | nil => simp [poff]
  | cons s p ih => simp [poff, ih]; omega
inductive T where
  | any
  | bool (b : Bool)
  | int (k : IntKind) (n : Int)
  | bit (k : IntKind) (b : Bool)
  | word (n : Nat)
  | str (s : ByteArray)
  | nilptr
  | ptr (id : Nat) (path : List Step)
  | nilslice
  | slice (id : Nat) (path : List Step) (lo m len : Nat) (cap : Option Nat)
  | fn (f : Fn) (cap : T)
  | nilfn
  | opt (g : Bool) (v : T)
  | tup (t : T)
  | nil
  | cons (h t : T)
  | rows (n m : Nat) (f : Nat → T)
  | ints (k : IntKind) (n : Nat) (f : Nat → Int)
  | abs (a : Abs)
  | num (n : Int)
  | fsi (k : IntKind) (n : Nat) (f : Nat → Int) (cap : Option Nat)
  | fsr (m n : Nat) (f : Nat → T) (cap : Option Nat)
  | fp (t : T)
  | slen (n : Int)
instance : Inhabited T := ⟨.any⟩
structure Rho where
  ids : Nat → Option (Nat × Nat)
  ro : Nat → Option (Array Value)
instance : CoeFun Rho (fun _ => Nat → Option (Nat × Nat)) := ⟨Rho.ids⟩
def Rho.bare (ρ : Rho) : Rho := ⟨fun _ => none, ρ.ro⟩
def rho0 : Rho := ⟨fun _ => none, fun _ => none⟩
structure Rho.Ext (ρ ρ' : Rho) : Prop where
  ids : ∀ k p, ρ k = some p → ρ' k = some p
  ro : ∀ b cs, ρ.ro b = some cs → ρ'.ro b = some cs
instance {ρ ρ' : Rho} : CoeFun (Rho.Ext ρ ρ') (fun _ => ∀ k p, ρ k = some p → ρ' k = some p) := ⟨Rho.Ext.ids⟩
theorem Rho.Ext.refl (ρ : Rho) : ρ.Ext ρ := ⟨fun _ _ h => h, fun _ _ h => h⟩
theorem Rho.Ext.trans {a b c : Rho} (h : a.Ext b) (h' : b.Ext c) : a.Ext c := ⟨fun k p e => h' k p (h k p e), fun b cs e => h'.ro b cs (h.ro b cs e)⟩
theorem Rho.bare_ext (ρ : Rho) : ρ.bare.Ext ρ := ⟨fun _ _ h => (by cases h), fun _ _ h => h⟩
theorem Rho.Ext.bare {ρ ρ' : Rho} (h : ∀ b cs, ρ.ro b = some cs → ρ'.ro b = some cs) : ρ.bare.Ext ρ'.bare := ⟨fun _ _ h => h, h⟩
structure Rel3 where
  c : List Value → Prop
  v : Value → Prop
  l : List Value → Prop
def leafR (p : Value → Prop) : Rel3 := ⟨fun cs => ∃ x, cs = [x] ∧ p x, p, fun _ => False⟩
def zc7 (b sz : Nat) (path : List Step) (lo m len : Nat) : Option Nat → Value → Prop
  | some c, x => x = .slice (some ⟨b, poff path + lo * m, none⟩) len c
  | none, x => path = [] ∧ 0 < m ∧ ((∃ c, x = .slice (some ⟨b, lo * m, none⟩) len c ∧ (lo + c) * m = sz ∧ len ≤ c) ∨ (len = 0 ∧ ∃ a, x = .slice a 0 0 ∧ ∀ a', a = some a' → a'.block = b ∧ ∃ q, a' = ⟨b, q * m, none⟩))
def T.size : T → Nat
  | .nil => 0
  | .cons h t => h.size + t.size
  | .rows n m _ => n * m
  | .ints _ n _ => n
  | .abs a => a.size
  | _ => 1
def cut (cs : List Value) (o n : Nat) : List Value := (cs.drop o).take n
def SliceR (ids : Nat → Option (Nat × Nat)) (id : Nat) (path : List Step) (lo m len : Nat) (cap : Option Nat) (x : Value) : Prop :=
  (∃ b sz, ids id = some (b, sz) ∧ zc7 b sz path lo m len cap x) ∨ (cap = none ∧ path = [] ∧ len = 0 ∧ x = .slice none 0 0)
theorem SliceR.mono {ids ids' : Nat → Option (Nat × Nat)} {id id' : Nat} {path : List Step} {lo m len : Nat} {cap : Option Nat} {x : Value} (hp : ∀ p, ids id = some p → ids' id' = some p) (h : SliceR ids id path lo m len cap x) : SliceR ids' id' path lo m len cap x := by
  rcases h with ⟨b, sz, h1, h2⟩ | h
  · exact .inl ⟨b, sz, hp _ h1, h2⟩
  · exact .inr h
theorem zd8 {ids : Nat → Option (Nat × Nat)} {id : Nat} {path : List Step} {lo m len c : Nat} {x : Value} (h : SliceR ids id path lo m len (some c) x) : ∃ b sz, ids id = Option.some (b, sz) ∧ zc7 b sz path lo m len (Option.some c) x := by
  rcases h with h | ⟨h, _⟩
  · exact h
  · cases h
def Frz (ro : Nat → Option (Array Value)) (m n : Nat) (q : Nat → List Value → Prop) (cap : Option Nat) (x : Value) : Prop :=
  ∃ a c, x = .slice a n c ∧ n ≤ c ∧ (∀ c', cap = some c' → c = c') ∧ (0 < n → ∃ b off cs, a = some ⟨b, off, none⟩ ∧ ro b = some cs ∧ off + n * m ≤ cs.size ∧ ∀ i, i < n → q i (cut cs.toList (off + i * m) m))
def FrzP (ro : Nat → Option (Array Value)) (m : Nat) (q : List Value → Prop) (x : Value) : Prop :=
  ∃ b off cs, x = .pointer (some ⟨b, off, none⟩) ∧ ro b = some cs ∧ off + m ≤ cs.size ∧ q (cut cs.toList off m)
theorem Frz.mono {ro ro' : Nat → Option (Array Value)} {m n : Nat} {q q' : Nat → List Value → Prop} {cap : Option Nat} {x : Value} (hr : ∀ b cs, ro b = some cs → ro' b = some cs) (hq : ∀ i cs, i < n → q i cs → q' i cs) (h : Frz ro m n q cap x) : Frz ro' m n q' cap x := by
  obtain ⟨a, c, h1, h2, h3, h4⟩ := h
  refine ⟨a, c, h1, h2, h3, fun h0 => ?_⟩
  obtain ⟨b, off, cs, g1, g2, g3, g4⟩ := h4 h0
  exact ⟨b, off, cs, g1, hr _ _ g2, g3, fun i hi => hq i _ hi (g4 i hi)⟩
theorem FrzP.mono {ro ro' : Nat → Option (Array Value)} {m : Nat} {q q' : List Value → Prop} {x : Value} (hr : ∀ b cs, ro b = some cs → ro' b = some cs) (hq : ∀ cs, q cs → q' cs) (h : FrzP ro m q x) : FrzP ro' m q' x := by
  obtain ⟨b, off, cs, g1, g2, g3, g4⟩ := h
  exact ⟨b, off, cs, g1, hr _ _ g2, g3, hq _ g4⟩
def R (ρ : Rho) : T → Rel3
  | .any => ⟨fun cs => ∃ x, cs = [x] ∧ ze8 x, fun _ => True, fun _ => False⟩
  | .bool b => leafR (· = .bool b)
  | .int k n => leafR (· = .int k n)
  | .bit k b => leafR (· = .int k (bif b then 1 else 0))
  | .word n => leafR (· = .int .u64 ((n % 18446744073709551616 : Nat) : Int))
  | .str s => leafR (· = .string s)
  | .nilptr => leafR (· = .pointer none)
  | .ptr id path => leafR fun x => ∃ b sz, ρ id = some (b, sz) ∧ x = .pointer (some ⟨b, poff path, none⟩)
  | .nilslice => leafR (· = .slice none 0 0)
  | .slice id path lo m len cap => leafR (SliceR ρ.ids id path lo m len cap)
  | .fn f cap => leafR fun x => ∃ vs, x = .func f #[] vs ∧ (R ρ cap).l vs.toList
  | .nilfn => leafR (· = .nilFunc)
  | .opt g t => ⟨fun _ => False, fun x => (g = true → (R ρ t).v x) ∧ (g = false → x = undef), fun _ => False⟩
  | .tup t => ⟨fun _ => False, fun x => ∃ vs, x = .tuple vs ∧ (R ρ t).l vs.toList, fun _ => False⟩
  | .nil => ⟨fun cs => cs = [], fun x => x = .agg #[], fun xs => xs = []⟩
  | .cons h t => ⟨fun cs => ∃ a b, cs = a ++ b ∧ (R ρ h).c a ∧ (R ρ t).c b,
      fun x => ∃ cs, x = .agg cs ∧ ∃ a b, cs.toList = a ++ b ∧ (R ρ h).c a ∧ (R ρ t).c b,
      fun xs => ∃ y ys, xs = y :: ys ∧ (R ρ h).v y ∧ (R ρ t).l ys⟩
  | .rows n m f => ⟨fun cs => cs.length = n * m ∧ ∀ i, i < n → (R ρ (f i)).c ((cs.drop (i * m)).take m),
      fun x => ∃ cs, x = .agg cs ∧ cs.toList.length = n * m ∧ ∀ i, i < n → (R ρ (f i)).c ((cs.toList.drop (i * m)).take m),
      fun _ => False⟩
  | .ints k n f => ⟨fun cs => cs.length = n ∧ ∀ i, i < n → cs[i]? = some (.int k (f i)),
      fun x => ∃ cs, x = .agg cs ∧ cs.toList.length = n ∧ ∀ i, i < n → cs.toList[i]? = some (.int k (f i)), fun _ => False⟩
  | .abs a => ⟨a.is, fun x => ∃ cs, x = .agg cs ∧ a.is cs.toList, fun _ => False⟩
  | .num n => leafR (· = .int .i64 n)
  | .fsi k n f cap => leafR (Frz ρ.ro 1 n (fun i cs => cs = [.int k (f i)]) cap)
  | .fsr m n f cap => leafR (Frz ρ.ro m n (fun i cs => (R ρ.bare (f i)).c cs) cap)
  | .fp t => leafR (FrzP ρ.ro t.size (R ρ.bare t).c)
  | .slen n => leafR fun x => ∃ a l c, x = .slice a l c ∧ (l : Int) = n
def T.isAgg : T → Bool
  | .nil | .cons .. | .rows .. | .ints .. | .abs _ => true
  | _ => false
def T.isLeaf : T → Bool
  | .any | .opt .. | .tup .. | .nil | .cons .. | .rows .. | .ints .. | .abs _ => false
  | _ => true
theorem zt1 {ρ ρ' : Rho} (h : ρ.Ext ρ') (t : T) : (∀ cs, (R ρ t).c cs → (R ρ' t).c cs) ∧ (∀ x, (R ρ t).v x → (R ρ' t).v x) ∧ (∀ xs, (R ρ t).l xs → (R ρ' t).l xs) := by
  induction t generalizing ρ ρ' with
  | ptr id path =>
    have hp : ∀ x, (∃ b sz, ρ id = some (b, sz) ∧ x = Value.pointer (some ⟨b, poff path, none⟩)) → (∃ b sz, ρ' id = some (b, sz) ∧ x = Value.pointer (some ⟨b, poff path, none⟩)) := by
      rintro x ⟨b, sz, e, hx⟩; exact ⟨b, sz, h.ids _ _ e, hx⟩
    refine ⟨?_, hp, fun _ h => h⟩
    rintro cs ⟨x, hcs, hx⟩; exact ⟨x, hcs, hp x hx⟩
  | slice id path lo m len cap =>
    have hp : ∀ x, SliceR ρ.ids id path lo m len cap x → SliceR ρ'.ids id path lo m len cap x := fun x hx => hx.mono (h.ids id)
    refine ⟨?_, hp, fun _ h => h⟩
    rintro cs ⟨x, hcs, hx⟩; exact ⟨x, hcs, hp x hx⟩
  | fn f cap ih =>
    have hp : ∀ x, (∃ vs, x = Value.func f #[] vs ∧ (R ρ cap).l vs.toList) → (∃ vs, x = Value.func f #[] vs ∧ (R ρ' cap).l vs.toList) := by
      rintro x ⟨vs, hx, hl⟩; exact ⟨vs, hx, (ih h).2.2 _ hl⟩
    refine ⟨?_, hp, fun _ h => h⟩
    rintro cs ⟨x, hcs, hx⟩; exact ⟨x, hcs, hp x hx⟩
  | opt g t ih => exact ⟨fun _ h => h, fun x hx => ⟨fun hg => (ih h).2.1 _ (hx.1 hg), hx.2⟩, fun _ h => h⟩
  | tup t ih => exact ⟨fun _ h => h, fun x ⟨vs, hx, hl⟩ => ⟨vs, hx, (ih h).2.2 _ hl⟩, fun _ h => h⟩
  | cons a b iha ihb =>
    refine ⟨?_, ?_, ?_⟩
    · rintro cs ⟨x, y, e, hx, hy⟩; exact ⟨x, y, e, (iha h).1 _ hx, (ihb h).1 _ hy⟩
    · rintro v ⟨cs, hv, x, y, e, hx, hy⟩; exact ⟨cs, hv, x, y, e, (iha h).1 _ hx, (ihb h).1 _ hy⟩
    · rintro xs ⟨y, ys, e, hy, hys⟩; exact ⟨y, ys, e, (iha h).2.1 _ hy, (ihb h).2.2 _ hys⟩
  | rows n m f ih =>
    refine ⟨?_, ?_, fun _ h => h⟩
    · rintro cs ⟨e, hx⟩; exact ⟨e, fun i hi => (ih i h).1 _ (hx i hi)⟩
    · rintro v ⟨cs, hv, e, hx⟩; exact ⟨cs, hv, e, fun i hi => (ih i h).1 _ (hx i hi)⟩
  | fsi k n f cap =>
    have hp : ∀ x, (R ρ (.fsi k n f cap)).v x → (R ρ' (.fsi k n f cap)).v x := fun x hx => Frz.mono (m := 1) (n := n) (q := fun i cs => cs = [.int k (f i)]) (cap := cap) h.ro (fun _ _ _ h => h) hx
    exact ⟨fun cs ⟨x, e, hx⟩ => ⟨x, e, hp x hx⟩, hp, fun _ h => h⟩
  | fsr m n f cap ih =>
    have hp : ∀ x, (R ρ (.fsr m n f cap)).v x → (R ρ' (.fsr m n f cap)).v x := fun x hx => Frz.mono (m := m) (n := n) (q := fun i cs => (R ρ.bare (f i)).c cs) (cap := cap) h.ro (fun i _ _ h' => (ih i (Rho.Ext.bare h.ro)).1 _ h') hx
    exact ⟨fun cs ⟨x, e, hx⟩ => ⟨x, e, hp x hx⟩, hp, fun _ h => h⟩
  | fp t ih =>
    have hp : ∀ x, (R ρ (.fp t)).v x → (R ρ' (.fp t)).v x := fun x hx => FrzP.mono (m := t.size) (q := (R ρ.bare t).c) h.ro (fun _ h' => (ih (Rho.Ext.bare h.ro)).1 _ h') hx
    exact ⟨fun cs ⟨x, e, hx⟩ => ⟨x, e, hp x hx⟩, hp, fun _ h => h⟩
  | _ => exact ⟨fun _ h => h, fun _ h => h, fun _ h => h⟩
theorem zr7 {ρ ρ' : Rho} (h : ρ.Ext ρ') {t : T} {cs} (hc : (R ρ t).c cs) : (R ρ' t).c cs := (zt1 h t).1 _ hc
theorem R_v_mono {ρ ρ' : Rho} (h : ρ.Ext ρ') {t : T} {x} (hc : (R ρ t).v x) : (R ρ' t).v x := (zt1 h t).2.1 _ hc
theorem zh7 {ρ : Rho} {t : T} : ∀ {cs}, (R ρ t).c cs → cs.length = t.size := by
  induction t with
  | nil => intro cs h; cases h; rfl
  | cons a b iha ihb => rintro cs ⟨x, y, rfl, hx, hy⟩; simp [T.size, iha hx, ihb hy]
  | rows n m f ih => rintro cs ⟨e, _⟩; exact e
  | ints k n f => rintro cs ⟨e, _⟩; exact e
  | abs a => intro cs h; exact Abs.is_len h
  | opt => intro cs h; exact h.elim
  | tup => intro cs h; exact h.elim
  | _ => rintro cs ⟨x, rfl, _⟩; rfl
theorem zt2 {ρ : Rho} {t : T} : ∀ {cs}, (R ρ t).c cs → ∀ x ∈ cs, ze8 x := by
  induction t with
  | nil => intro cs h; cases h; intro x hx; cases hx
  | cons a b iha ihb =>
    rintro cs ⟨x, y, rfl, hx, hy⟩ z hz
    rcases List.mem_append.1 hz with h | h
    · exact iha hx z h
    · exact ihb hy z h
  | rows n m f ih =>
    rintro cs ⟨e, h⟩ z hz
    obtain ⟨j, hj, rfl⟩ := List.mem_iff_getElem.1 hz
    rcases Nat.eq_zero_or_pos m with h0 | hm
    · subst h0; simp only [Nat.mul_zero] at e; omega
    · have hi : j / m < n := by rw [Nat.div_lt_iff_lt_mul hm]; omega
      refine ih (j / m) (h _ hi) _ ?_
      refine List.mem_iff_getElem.2 ⟨j % m, ?_, ?_⟩
      · have h1 := Nat.mod_lt j hm
        have h2 := Nat.div_add_mod j m
        have h3 : j / m * m = m * (j / m) := Nat.mul_comm _ _
        simp; omega
      · have h2 := Nat.div_add_mod j m
        have h3 : j / m * m = m * (j / m) := Nat.mul_comm _ _
        simp; congr 1; omega
  | ints k n f =>
    rintro cs ⟨e, h⟩ z hz
    obtain ⟨j, hj, rfl⟩ := List.mem_iff_getElem.1 hz
    have := h j (by omega)
    rw [List.getElem?_eq_getElem hj] at this
    rw [Option.some.inj this]; trivial
  | abs a => intro cs h; exact Abs.is_cells h
  | opt => intro cs h; exact h.elim
  | tup => intro cs h; exact h.elim
  | any => rintro cs ⟨x, rfl, hx⟩ z hz; simp at hz; exact hz ▸ hx
  | ptr id path => rintro cs ⟨x, rfl, b, sz, _, rfl⟩ z hz; simp at hz; subst hz; trivial
  | slice id path lo m len cap =>
    rintro cs ⟨x, rfl, (⟨b, sz, _, hx⟩ | ⟨_, _, _, rfl⟩)⟩ z hz
    · simp at hz; subst hz
      cases cap with
      | some c => simp only [zc7] at hx; subst hx; trivial
      | none => obtain ⟨_, _, (⟨c, rfl, _⟩ | ⟨_, a, rfl, _⟩)⟩ := hx <;> trivial
    · simp at hz; subst hz; trivial
  | fn f cap => rintro cs ⟨x, rfl, vs, rfl, _⟩ z hz; simp at hz; subst hz; trivial
  | fsi => rintro cs ⟨x, rfl, a, c, rfl, _⟩ z hz; simp at hz; subst hz; trivial
  | fsr => rintro cs ⟨x, rfl, a, c, rfl, _⟩ z hz; simp at hz; subst hz; trivial
  | fp => rintro cs ⟨x, rfl, b, off, cs, rfl, _⟩ z hz; simp at hz; subst hz; trivial
  | slen n => rintro cs ⟨x, rfl, a, l, c, rfl, _⟩ z hz; simp at hz; subst hz; trivial
  | _ => rintro cs ⟨x, rfl, rfl⟩ z hz; simp at hz; subst hz; trivial
theorem R_leaf {ρ : Rho} {t : T} (h : t.isLeaf = true) {x : Value} (hx : (R ρ t).v x) : (R ρ t).c [x] ∧ ze8 x := by
  have hc : (R ρ t).c [x] := by
    cases t <;> first | (simp [T.isLeaf] at h; done) | exact ⟨x, rfl, hx⟩
  exact ⟨hc, zt2 hc x (by simp)⟩
theorem R_leaf_back {ρ : Rho} {t : T} (h : t.isAgg = false) {cs} (hc : (R ρ t).c cs) : ∃ x, cs = [x] ∧ (R ρ t).v x := by
  cases t with
  | any => obtain ⟨x, e, _⟩ := hc; exact ⟨x, e, trivial⟩
  | nil => simp [T.isAgg] at h
  | cons => simp [T.isAgg] at h
  | rows => simp [T.isAgg] at h
  | ints => simp [T.isAgg] at h
  | abs => simp [T.isAgg] at h
  | opt => exact hc.elim
  | tup => exact hc.elim
  | _ => exact hc
theorem R_agg {ρ : Rho} {t : T} (h : t.isAgg = true) {x : Value} : (R ρ t).v x ↔ ∃ cs, x = .agg cs ∧ (R ρ t).c cs.toList := by
  cases t with
  | nil =>
    constructor
    · rintro rfl; exact ⟨#[], rfl, rfl⟩
    · rintro ⟨cs, rfl, hc⟩
      have h0 : cs.toList = [] := hc
      have : cs = #[] := by simpa using h0
      subst this; rfl
  | cons => exact Iff.rfl
  | rows => exact Iff.rfl
  | ints => exact Iff.rfl
  | abs => exact Iff.rfl
  | _ => simp [T.isAgg] at h
def nth : T → Nat → Nat → Option T
  | .cons h _, 0, o => bif Nat.beq o 0 then some h else none
  | .cons h t, j + 1, o => bif Nat.ble h.size o then nth t j (o - h.size) else none
  | _, _, _ => none
def stepT : T → Step → Option T
  | .rows _ m f, .idx i m' => bif Nat.beq m m' then some (f i) else none
  | .ints k _ f, .idx i m' => bif Nat.beq m' 1 then some (.int k (f i)) else none
  | .abs (.nn v), .idx i m' => bif Nat.beq m' 1 then some (.int .u64 (dg v i)) else none
  | .abs (.view off k _ f), .idx i m' => bif Nat.beq m' 1 then some (.int k (f (i - off))) else none
  | .ints k _ f, .sub o c => some (.ints k c fun j => f (o + j))
  | .abs (.view off k _ f), .sub o c => some (.ints k c fun j => f (o + j - off))
  | _, .sub _ _ => none
  | t, .idx i m => nth t i (i * m)
  | t, .fld j o => nth t j o
def zh6 : T → Step → Bool
  | .rows n _ _, .idx i _ => decide (i < n)
  | .ints _ n _, .idx i _ => decide (i < n)
  | .abs (.nn _), .idx i _ => decide (i < 16)
  | .abs (.view off _ n _), .idx i _ => decide (off ≤ i ∧ i < off + n)
  | .ints _ n _, .sub o c => decide (o + c ≤ n)
  | .abs (.view off _ n _), .sub o c => decide (off ≤ o ∧ o + c ≤ off + n)
  | _, _ => true
def get : T → List Step → Option T
  | t, [] => some t
  | t, s :: p => match stepT t s with
    | some u => get u p
    | none => none
def getOK : T → List Step → Bool
  | _, [] => true
  | t, s :: p => zh6 t s && match stepT t s with
    | some u => getOK u p
    | none => false
def setNth : T → Nat → T → T
  | .cons _ t, 0, u => .cons u t
  | .cons h t, j + 1, u => .cons h (setNth t j u)
  | t, _, _ => t
def putF (lo c : Nat) (f g : Nat → Int) : Nat → Int := fun j => bif Nat.ble lo j && Nat.blt j (lo + c) then g (j - lo) else f j
def zg5 : T → Step → T → T
  | .rows n m f, .idx i _, u => .rows n m fun j => bif Nat.beq j i then u else f j
  | .ints k n f, .idx i _, .int k' v => if k' = k then .ints k n fun j => bif Nat.beq j i then v else f j else .rows n 1 fun j => bif Nat.beq j i then .int k' v else .int k (f j)
  | .ints k n f, .idx i _, u => .rows n 1 fun j => bif Nat.beq j i then u else .int k (f j)
  | .abs (.nn v), .idx i _, .int k' w => if k' = .u64 then .ints .u64 16 fun j => bif Nat.beq j i then w else dg v j else .rows 16 1 fun j => bif Nat.beq j i then .int k' w else .int .u64 (dg v j)
  | .abs (.nn v), .idx i _, u => .rows 16 1 fun j => bif Nat.beq j i then u else .int .u64 (dg v j)
  | .abs (.view off _ n _), .idx i _, u => .rows (off + n) 1 fun j => bif Nat.beq j i then u else .any
  | .ints k n f, .sub o c, .ints k' c' g => if k' = k ∧ c' = c then .ints k n (putF o c f g) else .rows n 1 fun _ => .any
  | .ints _ n _, .sub _ _, _ => .rows n 1 fun _ => .any
  | .abs (.view off _ n _), .sub _ _, _ => .rows (off + n) 1 fun _ => .any
  | t, .sub _ _, _ => t
  | t, .idx i _, u => setNth t i u
  | t, .fld j _, u => setNth t j u
def put : T → List Step → T → T
  | _, [], u => u
  | t, s :: p, u => match stepT t s with
    | some x => zg5 t s (put x p u)
    | none => t
def zc1 (cs : List Value) (o : Nat) (us : List Value) : List Value := cs.take o ++ us ++ cs.drop (o + us.length)
theorem zg7 {cs : List Value} {o n : Nat} (h : o + n ≤ cs.length) : (cut cs o n).length = n := by simp [cut]; omega
theorem zd4 {cs us : List Value} {o : Nat} (h : o + us.length ≤ cs.length) : (zc1 cs o us).length = cs.length := by simp [zc1]; omega
theorem zp6 {ρ : Rho} : ∀ {t : T} {j o : Nat} {u : T} {cs : List Value}, (R ρ t).c cs → nth t j o = some u → (R ρ u).c (cut cs o u.size) ∧ o + u.size ≤ cs.length := by
  intro t
  induction t with
  | cons h t _ iht =>
    intro j o u cs hc hn
    obtain ⟨a, b, rfl, ha, hb⟩ := hc
    cases j with
    | zero =>
      simp only [nth] at hn
      cases ho : Nat.beq o 0
      · rw [ho] at hn; cases hn
      · rw [ho] at hn
        have : o = 0 := Nat.eq_of_beq_eq_true ho
        subst this
        cases hn
        have hl := zh7 ha
        refine ⟨?_, by simp; omega⟩
        simp only [cut, List.drop_zero]
        rw [← hl, List.take_left]; exact ha
    | succ j =>
      simp only [nth] at hn
      cases ho : Nat.ble h.size o
      · rw [ho] at hn; cases hn
      · rw [ho] at hn
        have hle : h.size ≤ o := Nat.le_of_ble_eq_true ho
        have hl := zh7 ha
        obtain ⟨h1, h2⟩ := iht hb hn
        refine ⟨?_, by simp; omega⟩
        have : cut (a ++ b) o u.size = cut b (o - h.size) u.size := by
          simp only [cut]
          rw [List.drop_append, List.drop_eq_nil_of_le (by omega), List.nil_append, hl]
        rw [this]; exact h1
  | _ => intro j o u cs hc hn; simp [nth] at hn
theorem setNth_sound {ρ : Rho} : ∀ {t : T} {j o : Nat} {u u' : T} {cs us : List Value}, (R ρ t).c cs → nth t j o = some u → (R ρ u').c us → us.length = u.size →
    (R ρ (setNth t j u')).c (zc1 cs o us) := by
  intro t
  induction t with
  | cons h t _ iht =>
    intro j o u u' cs us hc hn hu hsz
    obtain ⟨a, b, rfl, ha, hb⟩ := hc
    cases j with
    | zero =>
      simp only [nth] at hn
      cases ho : Nat.beq o 0
      · rw [ho] at hn; cases hn
      · rw [ho] at hn
        have : o = 0 := Nat.eq_of_beq_eq_true ho
        subst this
        cases hn
        have hl := zh7 ha
        refine ⟨us, b, ?_, hu, hb⟩
        simp only [zc1, List.take_zero, List.nil_append, Nat.zero_add]
        rw [List.drop_append, List.drop_eq_nil_of_le (by omega), List.nil_append]
        congr 1
        rw [show us.length - a.length = 0 by omega]; rfl
    | succ j =>
      simp only [nth] at hn
      cases ho : Nat.ble h.size o
      · rw [ho] at hn; cases hn
      · rw [ho] at hn
        have hle : h.size ≤ o := Nat.le_of_ble_eq_true ho
        have hl := zh7 ha
        refine ⟨a, zc1 b (o - h.size) us, ?_, ha, iht hb hn hu hsz⟩
        simp only [zc1]
        rw [List.take_append, List.take_of_length_le (by omega), List.drop_append, List.drop_eq_nil_of_le (show a.length ≤ o + us.length by omega), List.nil_append,
          show o + us.length - a.length = o - h.size + us.length by omega, show o - a.length = o - h.size by omega]
        simp only [List.append_assoc]
  | _ => intro j o u u' cs us hc hn; simp [nth] at hn
theorem splice_nth {cs us : List Value} {o : Nat} (h : o + us.length ≤ cs.length) (j : Nat) : (zc1 cs o us)[j]? = if j < o then cs[j]? else if j < o + us.length then us[j - o]? else cs[j]? := by
  unfold zc1
  by_cases h1 : j < o
  · rw [if_pos h1, List.append_assoc, List.getElem?_append_left (by rw [List.length_take]; omega), List.getElem?_take_of_lt h1]
  · rw [if_neg h1]
    by_cases h2 : j < o + us.length
    · rw [if_pos h2, List.getElem?_append_left (by rw [List.length_append, List.length_take]; omega), List.getElem?_append_right (by rw [List.length_take]; omega), List.length_take, Nat.min_eq_left (by omega)]
    · rw [if_neg h2, List.getElem?_append_right (by rw [List.length_append, List.length_take]; omega), List.getElem?_drop, List.length_append, List.length_take, Nat.min_eq_left (by omega)]
      congr 1
      omega
theorem putF_R {ρ : Rho} {k : IntKind} {n lo c : Nat} {f g : Nat → Int} {cs us : List Value} (hf : (R ρ (.ints k n f)).c cs) (hu : us.length = c) (hg : ∀ j, j < c → us[j]? = some (.int k (g j))) (h : lo + c ≤ n) : (R ρ (.ints k n (putF lo c f g))).c (zc1 cs lo us) := by
  obtain ⟨h1, h2⟩ := hf
  refine ⟨by rw [zd4 (by omega), h1], fun j hj => ?_⟩
  rw [splice_nth (by omega), hu]
  unfold putF
  by_cases a : j < lo
  · have e : Nat.ble lo j = false := by
      cases hb : Nat.ble lo j
      · rfl
      · have := Nat.le_of_ble_eq_true hb; omega
    rw [if_pos a, e]
    exact h2 j hj
  · have e : Nat.ble lo j = true := Nat.ble_eq_true_of_le (by omega)
    rw [if_neg a, e, Bool.true_and]
    by_cases b : j < lo + c
    · have e2 : Nat.blt j (lo + c) = true := by simpa using b
      rw [if_pos b, e2]
      exact hg (j - lo) (by omega)
    · have e2 : Nat.blt j (lo + c) = false := by
        cases hb : Nat.blt j (lo + c)
        · rfl
        · exact absurd (Nat.le_of_ble_eq_true hb) b
      rw [if_neg b, e2]
      exact h2 j hj
theorem any_rows {ρ : Rho} {n : Nat} {cs : List Value} (hl : cs.length = n) (hcell : ∀ x ∈ cs, ze8 x) : (R ρ (.rows n 1 fun _ => .any)).c cs := by
  refine ⟨by omega, fun j hj => ?_⟩
  have hj' : j < cs.length := by omega
  refine ⟨cs[j], ?_, hcell _ (List.getElem_mem hj')⟩
  rw [Nat.mul_one, List.drop_eq_getElem_cons hj']
  rfl
theorem any_splice {ρ : Rho} {u' : T} {n o : Nat} {cs us : List Value} (hl : cs.length = n) (hcell : ∀ x ∈ cs, ze8 x) (hu : (R ρ u').c us) (h : o + us.length ≤ n) : (R ρ (.rows n 1 fun _ => .any)).c (zc1 cs o us) := by
  refine any_rows (by rw [zd4 (by omega), hl]) fun x hx => ?_
  simp only [zc1, List.mem_append] at hx
  rcases hx with (hx | hx) | hx
  · exact hcell x (List.mem_of_mem_take hx)
  · exact zt2 hu x hx
  · exact hcell x (List.mem_of_mem_drop hx)
theorem zf7 {ρ : Rho} {t u : T} {s : Step} {cs : List Value} (hc : (R ρ t).c cs) (hs : stepT t s = some u) (hok : zh6 t s = true) :
    (R ρ u).c (cut cs s.off u.size) ∧ s.off + u.size ≤ cs.length := by
  cases s with
  | sub o c =>
    cases t with
    | ints k n f =>
      simp only [stepT] at hs
      cases hs
      simp only [zh6, decide_eq_true_eq] at hok
      obtain ⟨e, h⟩ := hc
      refine ⟨⟨zg7 (by simp only [T.size, Step.off]; omega), fun j hj => ?_⟩, by simp only [T.size, Step.off]; omega⟩
      simp only [T.size, Step.off, cut]
      rw [List.getElem?_take_of_lt hj, List.getElem?_drop]
      exact h (o + j) (by omega)
    | abs a =>
      cases a with
      | view off k n f =>
        simp only [stepT] at hs
        cases hs
        simp only [zh6, decide_eq_true_eq] at hok
        obtain ⟨e, hcell, h⟩ := hc
        refine ⟨⟨zg7 (by simp only [T.size, Step.off]; omega), fun j hj => ?_⟩, by simp only [T.size, Step.off]; omega⟩
        simp only [T.size, Step.off, cut]
        rw [List.getElem?_take_of_lt hj, List.getElem?_drop]
        have := h (o + j - off) (by omega)
        rw [show off + (o + j - off) = o + j by omega] at this
        exact this
      | _ => simp [stepT] at hs
    | _ => simp [stepT] at hs
  | fld j o => cases t <;> first | exact zp6 hc hs | (simp [stepT, nth] at hs)
  | idx i m' =>
    cases t with
    | rows n m f =>
      simp only [stepT] at hs
      cases hm : Nat.beq m m'
      · rw [hm] at hs; cases hs
      · rw [hm] at hs
        have : m = m' := Nat.eq_of_beq_eq_true hm
        subst this
        cases hs
        simp only [zh6, decide_eq_true_eq] at hok
        obtain ⟨e, h⟩ := hc
        have h1 := h i hok
        have hl := zh7 h1
        have h2 : i * m + m ≤ n * m := by
          rw [← Nat.succ_mul]; exact Nat.mul_le_mul_right _ hok
        have h3 : (f i).size = m := by rw [← hl]; simp; omega
        simp only [Step.off, h3, cut]
        exact ⟨h1, by omega⟩
    | ints k n f =>
      simp only [stepT] at hs
      cases hm : Nat.beq m' 1
      · rw [hm] at hs; cases hs
      · rw [hm] at hs
        have : m' = 1 := Nat.eq_of_beq_eq_true hm
        subst this
        cases hs
        simp only [zh6, decide_eq_true_eq] at hok
        obtain ⟨e, h⟩ := hc
        have h1 := h i hok
        simp only [Step.off, T.size, Nat.mul_one]
        refine ⟨⟨_, ?_, rfl⟩, by omega⟩
        have hi : i < cs.length := by omega
        rw [List.getElem?_eq_getElem hi] at h1
        simp only [cut]
        rw [List.drop_eq_getElem_cons hi, Option.some.inj h1]
        rfl
    | abs a =>
      cases a with
      | nn v =>
        simp only [stepT] at hs
        cases hm : Nat.beq m' 1
        · rw [hm] at hs; cases hs
        · rw [hm] at hs
          have : m' = 1 := Nat.eq_of_beq_eq_true hm
          subst this
          cases hs
          simp only [zh6, decide_eq_true_eq] at hok
          obtain ⟨e, h⟩ := hc
          have h1 := h i hok
          simp only [Step.off, T.size, Nat.mul_one]
          refine ⟨⟨_, ?_, rfl⟩, by omega⟩
          have hi : i < cs.length := by omega
          rw [List.getElem?_eq_getElem hi] at h1
          simp only [cut]
          rw [List.drop_eq_getElem_cons hi, Option.some.inj h1]
          rfl
      | view off k n f =>
        simp only [stepT] at hs
        cases hm : Nat.beq m' 1
        · rw [hm] at hs; cases hs
        · rw [hm] at hs
          have : m' = 1 := Nat.eq_of_beq_eq_true hm
          subst this
          cases hs
          simp only [zh6, decide_eq_true_eq] at hok
          obtain ⟨e, _, h⟩ := hc
          have h1 := h (i - off) (by omega)
          rw [show off + (i - off) = i by omega] at h1
          simp only [Step.off, T.size, Nat.mul_one]
          refine ⟨⟨_, ?_, rfl⟩, by omega⟩
          have hi : i < cs.length := by omega
          rw [List.getElem?_eq_getElem hi] at h1
          simp only [cut]
          rw [List.drop_eq_getElem_cons hi, Option.some.inj h1]
          rfl
      | _ => simp [stepT, nth] at hs
    | _ => first | exact zp6 hc hs | (simp [stepT, nth] at hs)
theorem nn_ints {ρ : Rho} {v : Fardel.F} {cs : List Value} : (R ρ (.abs (.nn v))).c cs ↔ (R ρ (.ints .u64 16 (dg v))).c cs := Iff.rfl
theorem ints_rows {ρ : Rho} {k : IntKind} {n : Nat} {f : Nat → Int} {cs : List Value} : (R ρ (.ints k n f)).c cs ↔ (R ρ (.rows n 1 fun j => .int k (f j))).c cs := by
  constructor
  · rintro ⟨e, h⟩
    refine ⟨by omega, fun i hi => ⟨_, ?_, rfl⟩⟩
    have h1 := h i hi
    have hi' : i < cs.length := by omega
    rw [List.getElem?_eq_getElem hi'] at h1
    rw [Nat.mul_one, List.drop_eq_getElem_cons hi', Option.some.inj h1]
    rfl
  · rintro ⟨e, h⟩
    refine ⟨by omega, fun i hi => ?_⟩
    obtain ⟨x, h1, rfl⟩ := h i hi
    rw [Nat.mul_one] at h1
    have h2 : (List.take 1 (List.drop i cs))[0]? = some (.int k (f i)) := by rw [h1]; rfl
    rw [List.getElem?_take_of_lt (by omega), List.getElem?_drop] at h2
    exact h2
theorem zf4 {ρ : Rho} {n m i : Nat} {f : Nat → T} {u' : T} {cs us : List Value} (hc : (R ρ (.rows n m f)).c cs) (hok : i < n)
    (hu : (R ρ u').c us) (hsz : us.length = (f i).size) : (R ρ (.rows n m fun j => bif Nat.beq j i then u' else f j)).c (zc1 cs (i * m) us) := by
        obtain ⟨e, h⟩ := hc
        have h1 := h i hok
        have hl := zh7 h1
        have h2 : i * m + m ≤ n * m := by
          rw [← Nat.succ_mul]; exact Nat.mul_le_mul_right _ hok
        have h3 : (f i).size = m := by rw [← hl]; simp; omega
        have hb : i * m + m ≤ cs.length := by omega
        rw [h3] at hsz
        refine ⟨by rw [zd4 (by omega)]; exact e, ?_⟩
        intro j hj
        by_cases hji : j = i
        · subst hji
          simp only [Nat.beq_refl, cond_true]
          have : List.take m (List.drop (j * m) (zc1 cs (j * m) us)) = us := by
            simp only [zc1]
            rw [List.append_assoc, List.drop_append, List.drop_eq_nil_of_le (by simp; omega), List.nil_append]
            simp only [List.length_take, Nat.min_eq_left (show j * m ≤ cs.length by omega), Nat.sub_self, List.drop_zero]
            rw [List.take_append, hsz, List.take_of_length_le (by omega)]; simp
          rw [this]; exact hu
        · have hne : Nat.beq j i = false := by
            cases hb : Nat.beq j i
            · rfl
            · exact absurd (Nat.eq_of_beq_eq_true hb) hji
          simp only [hne, cond_false]
          have : List.take m (List.drop (j * m) (zc1 cs (i * m) us)) = List.take m (List.drop (j * m) cs) := by
            apply List.ext_getElem?
            intro k
            by_cases hk : k < m
            · rw [List.getElem?_take_of_lt hk, List.getElem?_take_of_lt hk, List.getElem?_drop, List.getElem?_drop]
              simp only [zc1]
              rcases Nat.lt_or_gt_of_ne hji with hlt | hgt
              · have h4 : j * m + m ≤ i * m := by rw [← Nat.succ_mul]; exact Nat.mul_le_mul_right _ hlt
                rw [List.append_assoc, List.getElem?_append_left (by simp; omega), List.getElem?_take_of_lt (by omega)]
              · have h4 : i * m + m ≤ j * m := by rw [← Nat.succ_mul]; exact Nat.mul_le_mul_right _ hgt
                have h5 : j * m + m ≤ n * m := by rw [← Nat.succ_mul]; exact Nat.mul_le_mul_right _ hj
                rw [List.getElem?_append_right (by simp; omega), List.getElem?_drop]
                congr 1
                simp; omega
            · rw [List.getElem?_eq_none (by simp; omega), List.getElem?_eq_none (by simp; omega)]
          rw [this]; exact h j hj
theorem stepSet_sound {ρ : Rho} {t u u' : T} {s : Step} {cs us : List Value} (hc : (R ρ t).c cs) (hs : stepT t s = some u) (hok : zh6 t s = true)
    (hu : (R ρ u').c us) (hsz : us.length = u.size) : (R ρ (zg5 t s u')).c (zc1 cs s.off us) := by
  cases s with
  | sub o c =>
    cases t with
    | ints k n f =>
      simp only [stepT] at hs
      cases hs
      simp only [zh6, decide_eq_true_eq] at hok
      have hsz : us.length = c := hsz
      have hany : (R ρ (.rows n 1 fun _ => .any)).c (zc1 cs o us) := any_splice hc.1 (zt2 hc) hu (by omega)
      cases u' with
      | ints k' c' g =>
        simp only [zg5, Step.off]
        by_cases hk : k' = k ∧ c' = c
        · rw [if_pos hk]
          obtain ⟨rfl, rfl⟩ := hk
          exact putF_R hc hsz hu.2 (by omega)
        · rw [if_neg hk]
          exact hany
      | _ => exact hany
    | abs a =>
      cases a with
      | view off k n f =>
        simp only [stepT] at hs
        cases hs
        simp only [zh6, decide_eq_true_eq] at hok
        have hsz : us.length = c := hsz
        obtain ⟨e, hcell, h⟩ := hc
        exact any_splice e hcell hu (by simp only [Step.off]; omega)
      | _ => simp [stepT] at hs
    | _ => simp [stepT] at hs
  | fld j o => cases t <;> first | exact setNth_sound hc hs hu hsz | (simp [stepT, nth] at hs)
  | idx i m' =>
    cases t with
    | rows n m f =>
      simp only [stepT] at hs
      cases hm : Nat.beq m m'
      · rw [hm] at hs; cases hs
      · rw [hm] at hs
        have : m = m' := Nat.eq_of_beq_eq_true hm
        subst this
        cases hs
        simp only [zh6, decide_eq_true_eq] at hok
        exact zf4 hc hok hu hsz
    | ints k n f =>
      simp only [stepT] at hs
      cases hm : Nat.beq m' 1
      · rw [hm] at hs; cases hs
      · rw [hm] at hs
        have : m' = 1 := Nat.eq_of_beq_eq_true hm
        subst this
        cases hs
        simp only [zh6, decide_eq_true_eq] at hok
        have h1 := zf4 (u' := u') (ints_rows.1 hc) hok hu hsz
        cases u' with
        | int k' v =>
          simp only [zg5]
          by_cases hk : k' = k
          · subst hk
            rw [if_pos rfl]
            refine ints_rows.2 ?_
            have e : (fun j => T.int k' (bif Nat.beq j i then v else f j)) = fun j => bif Nat.beq j i then T.int k' v else T.int k' (f j) := by
              funext j; cases Nat.beq j i <;> rfl
            rw [e]; exact h1
          · rw [if_neg hk]; exact h1
        | _ => exact h1
    | abs a =>
      cases a with
      | nn v =>
        simp only [stepT] at hs
        cases hm : Nat.beq m' 1
        · rw [hm] at hs; cases hs
        · rw [hm] at hs
          have : m' = 1 := Nat.eq_of_beq_eq_true hm
          subst this
          cases hs
          simp only [zh6, decide_eq_true_eq] at hok
          have h1 := zf4 (u' := u') (ints_rows.1 (nn_ints.1 hc)) hok hu hsz
          cases u' with
          | int k' w =>
            simp only [zg5]
            by_cases hk : k' = .u64
            · subst hk
              rw [if_pos rfl]
              refine ints_rows.2 ?_
              have e : (fun j => T.int .u64 (bif Nat.beq j i then w else dg v j)) = fun j => bif Nat.beq j i then T.int .u64 w else T.int .u64 (dg v j) := by
                funext j; cases Nat.beq j i <;> rfl
              rw [e]; exact h1
            · rw [if_neg hk]; exact h1
          | _ => exact h1
      | view off k n f =>
        simp only [stepT] at hs
        cases hm : Nat.beq m' 1
        · rw [hm] at hs; cases hs
        · rw [hm] at hs
          have : m' = 1 := Nat.eq_of_beq_eq_true hm
          subst this
          cases hs
          simp only [zh6, decide_eq_true_eq] at hok
          have hr : (R ρ (.rows (off + n) 1 fun _ => .any)).c cs := by
            obtain ⟨e, hcell, _⟩ := hc
            refine ⟨by omega, fun j hj => ?_⟩
            have hj' : j < cs.length := by omega
            refine ⟨cs[j], ?_, hcell _ (List.getElem_mem hj')⟩
            rw [Nat.mul_one, List.drop_eq_getElem_cons hj']
            rfl
          exact zf4 (u' := u') hr hok.2 hu hsz
      | _ => simp [stepT, nth] at hs
    | _ => first | exact setNth_sound hc hs hu hsz | (simp [stepT, nth] at hs)
theorem cut_cut {cs : List Value} {o n o' n' : Nat} (h : o' + n' ≤ n) : cut (cut cs o n) o' n' = cut cs (o + o') n' := by
  simp only [cut]
  rw [List.drop_take, List.take_take, List.drop_drop]
  congr 1
  omega
theorem splice_cut {cs us : List Value} {o n o' : Nat} (h : o + n ≤ cs.length) (h' : o' + us.length ≤ n) :
    zc1 cs o (zc1 (cut cs o n) o' us) = zc1 cs (o + o') us := by
  apply List.ext_getElem?
  intro k
  have hc : (cut cs o n).length = n := zg7 h
  have hs : (zc1 (cut cs o n) o' us).length = n := by rw [zd4 (by omega), hc]
  simp only [zc1] at hs ⊢
  rw [hs]
  by_cases h1 : k < o
  · rw [List.append_assoc, List.getElem?_append_left (by simp; omega), List.append_assoc, List.getElem?_append_left (by simp; omega), List.getElem?_take_of_lt h1, List.getElem?_take_of_lt (by omega)]
  · by_cases h2 : k < o + n
    · rw [List.getElem?_append_left (by simp only [List.length_append] at hs ⊢; simp; simp at hs; omega), List.getElem?_append_right (by simp; omega)]
      simp only [List.length_take, Nat.min_eq_left (show o ≤ cs.length by omega)]
      by_cases h3 : k < o + o'
      · rw [List.append_assoc, List.getElem?_append_left (by simp [hc]; omega), List.getElem?_take_of_lt (by omega), List.append_assoc, List.getElem?_append_left (by simp; omega), List.getElem?_take_of_lt h3]
        simp only [cut]
        rw [List.getElem?_take_of_lt (by omega), List.getElem?_drop]; congr 1; omega
      · by_cases h4 : k < o + o' + us.length
        · rw [List.getElem?_append_left (by simp [hc]; omega), List.getElem?_append_right (by simp [hc]; omega), List.getElem?_append_left (by simp; omega), List.getElem?_append_right (by simp; omega)]
          simp only [List.length_take, hc]; congr 1; omega
        · rw [List.getElem?_append_right (by simp [hc]; omega), List.getElem?_append_right (by simp; omega), List.getElem?_drop, List.getElem?_drop]
          simp only [cut]
          rw [List.getElem?_take_of_lt (by simp [hc]; simp [cut] at hc; omega), List.getElem?_drop]
          congr 1
          simp [hc]; simp [cut] at hc; omega
    · rw [List.getElem?_append_right (by simp at hs ⊢; omega), List.getElem?_append_right (by simp; omega), List.getElem?_drop, List.getElem?_drop]
      congr 1
      simp at hs ⊢; omega
theorem zi3 {ρ : Rho} : ∀ {p : List Step} {t u : T} {cs : List Value}, (R ρ t).c cs → get t p = some u → getOK t p = true →
    (R ρ u).c (cut cs (poff p) u.size) ∧ poff p + u.size ≤ cs.length := by
  intro p
  induction p with
  | nil =>
    intro t u cs hc hg _
    cases hg
    have hl := zh7 hc
    simp only [poff, cut, List.drop_zero]
    rw [← hl, List.take_length]
    exact ⟨hc, by omega⟩
  | cons s p ih =>
    intro t u cs hc hg hok
    simp only [get] at hg
    simp only [getOK, Bool.and_eq_true] at hok
    cases hs : stepT t s with
    | none => rw [hs] at hg; cases hg
    | some x =>
      rw [hs] at hg hok
      obtain ⟨h1, h2⟩ := zf7 hc hs hok.1
      obtain ⟨h3, h4⟩ := ih h1 hg hok.2
      rw [zg7 h2] at h4
      rw [cut_cut (by omega)] at h3
      simp only [poff]
      exact ⟨h3, by omega⟩
theorem put_sound {ρ : Rho} : ∀ {p : List Step} {t u u' : T} {cs us : List Value}, (R ρ t).c cs → get t p = some u → getOK t p = true →
    (R ρ u').c us → us.length = u.size → (R ρ (put t p u')).c (zc1 cs (poff p) us) := by
  intro p
  induction p with
  | nil =>
    intro t u u' cs us hc hg _ hu hsz
    cases hg
    have hl := zh7 hc
    simp only [poff, zc1, put, List.take_zero, List.nil_append, Nat.zero_add]
    rw [List.drop_eq_nil_of_le (by omega), List.append_nil]; exact hu
  | cons s p ih =>
    intro t u u' cs us hc hg hok hu hsz
    simp only [get] at hg
    simp only [getOK, Bool.and_eq_true] at hok
    cases hs : stepT t s with
    | none => rw [hs] at hg; cases hg
    | some x =>
      rw [hs] at hg hok
      obtain ⟨h1, h2⟩ := zf7 hc hs hok.1
      obtain ⟨_, h4⟩ := zi3 h1 hg hok.2
      rw [zg7 h2] at h4
      have h3 := ih h1 hg hok.2 hu hsz
      have h5 := stepSet_sound hc hs hok.1 h3 (by rw [zd4 (by rw [zg7 h2]; omega), zg7 h2])
      simp only [put, hs, poff]
      rw [splice_cut h2 (by omega)] at h5
      exact h5
theorem setNth_size : ∀ {t : T} {j o : Nat} {u u' : T}, nth t j o = some u → u'.size = u.size → (setNth t j u').size = t.size := by
  intro t
  induction t with
  | cons h t _ iht =>
    intro j o u u' hn hsz
    cases j with
    | zero =>
      simp only [nth] at hn
      cases ho : Nat.beq o 0 <;> rw [ho] at hn <;> cases hn
      simp [setNth, T.size, hsz]
    | succ j =>
      simp only [nth] at hn
      cases ho : Nat.ble h.size o <;> rw [ho] at hn
      · cases hn
      · simp [setNth, T.size, iht hn hsz]
  | _ => intro j o u u' hn; simp [nth] at hn
theorem put_size : ∀ {p : List Step} {t u u' : T}, get t p = some u → u'.size = u.size → (put t p u').size = t.size := by
  intro p
  induction p with
  | nil => intro t u u' hg hsz; cases hg; exact hsz
  | cons s p ih =>
    intro t u u' hg hsz
    simp only [get] at hg
    cases hs : stepT t s with
    | none => rw [hs] at hg; cases hg
    | some x =>
      rw [hs] at hg
      have h1 := ih hg hsz
      simp only [put, hs]
      cases s with
      | sub o c =>
        cases t <;> first
          | (simp [stepT] at hs; done)
          | (rename_i k n f
             generalize put x p u' = y
             cases y <;> first
               | (simp [zg5, T.size]; done)
               | (simp only [zg5]; split <;> simp [T.size]; done))
          | (rename_i a
             cases a <;> first
               | (simp [stepT] at hs; done)
               | (generalize put x p u' = y
                  cases y <;> simp [zg5, T.size, Abs.size]))
      | fld j o => cases t <;> first | exact setNth_size hs h1 | (simp [stepT, nth] at hs)
      | idx i m =>
        cases t <;> first
          | rfl
          | exact setNth_size hs h1
          | (simp [stepT, nth] at hs; done)
          | (rename_i k n f
             generalize put x p u' = y
             cases y <;> first
               | (simp [zg5, T.size]; done)
               | (simp only [zg5]; split <;> simp [T.size]; done))
          | (rename_i a
             cases a <;> first
               | (simp [stepT, nth] at hs; done)
               | (generalize put x p u' = y
                  cases y <;> first
                    | (simp [zg5, T.size, Abs.size]; done)
                    | (simp only [zg5]; split <;> simp [T.size, Abs.size])))
end
end Go.AE
namespace Go.AE
open Go
noncomputable section
abbrev Heap := List (Option T)
def hget : Heap → Nat → Option T
  | [], _ => none
  | x :: _, 0 => x
  | _ :: r, n + 1 => hget r n
def hset : Heap → Nat → Option T → Heap
  | [], _, _ => []
  | _ :: r, 0, y => y :: r
  | x :: r, n + 1, y => x :: hset r n y
theorem zb7 (G : Heap) (i : Nat) (y : Option T) : (hset G i y).length = G.length := by
  induction G generalizing i with
  | nil => rfl
  | cons x r ih => cases i <;> simp [hset, ih]
theorem zc8 {G : Heap} {i : Nat} (y : Option T) (h : i < G.length) : hget (hset G i y) i = y := by
  induction G generalizing i with
  | nil => simp at h
  | cons x r ih => cases i with
    | zero => rfl
    | succ i => simp only [hset, hget]; exact ih (by simpa using h)
theorem zj4 {G : Heap} {i j : Nat} (y : Option T) (h : j ≠ i) : hget (hset G i y) j = hget G j := by
  induction G generalizing i j with
  | nil => rfl
  | cons x r ih => cases i with
    | zero => cases j with
      | zero => exact absurd rfl h
      | succ j => rfl
    | succ i => cases j with
      | zero => rfl
      | succ j => simp only [hset, hget]; exact ih (by omega)
theorem za7 {G : Heap} {i : Nat} {t : T} (h : hget G i = some t) : i < G.length := by
  induction G generalizing i with
  | nil => simp [hget] at h
  | cons x r ih => cases i with
    | zero => simp
    | succ i => simp only [hget] at h; have := ih h; simp; omega
theorem za6 {G H : Heap} {i : Nat} (h : i < G.length) : hget (G ++ H) i = hget G i := by
  induction G generalizing i with
  | nil => simp at h
  | cons x r ih => cases i with
    | zero => rfl
    | succ i => simp only [List.cons_append, hget]; exact ih (by simpa using h)
theorem zi1 (G : Heap) (t : T) : hget (G ++ [some t]) G.length = some t := by
  induction G with
  | nil => rfl
  | cons x r ih => simpa [hget] using ih
def Blk (ρ : Rho) (t : T) (p : Nat × Nat) (w : World) : Prop :=
  ∃ cs ty fr, w.heap[p.1]? = some (.cells cs ty fr) ∧ cs.size = p.2 ∧ t.size ≤ cs.size ∧ (R ρ t).c (cs.toList.take t.size) ∧ (∀ i, i < cs.size → ¬(fr.1 ≤ i ∧ i < fr.2)) ∧ fr.1 ≤ fr.2
theorem Blk.mono {ρ ρ' : Rho} (h : ρ.Ext ρ') {t : T} {p : Nat × Nat} {w : World} (hb : Blk ρ t p w) : Blk ρ' t p w := by
  obtain ⟨cs, ty, fr, h1, h2, h3, h4, h5⟩ := hb
  exact ⟨cs, ty, fr, h1, h2, h3, zr7 h h4, h5⟩
theorem Blk.same {ρ : Rho} {t : T} {p : Nat × Nat} {w w' : World} (h : w'.heap[p.1]? = w.heap[p.1]?) (hb : Blk ρ t p w) : Blk ρ t p w' := by
  obtain ⟨cs, ty, fr, h1, h2, h3, h4, h5⟩ := hb
  exact ⟨cs, ty, fr, h.trans h1, h2, h3, h4, h5⟩
theorem Blk.lt {ρ : Rho} {t : T} {p : Nat × Nat} {w : World} (hb : Blk ρ t p w) : p.1 < w.heap.size := by
  obtain ⟨cs, ty, fr, h1, _⟩ := hb
  exact (Array.getElem?_eq_some_iff.1 h1).1
def RoOK (ρ : Rho) (w : World) : Prop := ∀ b cs, ρ.ro b = some cs → ∃ ty fr, w.heap[b]? = some (.cells cs ty fr)
theorem RoOK.lt {ρ : Rho} {w : World} (h : RoOK ρ w) {b : Nat} {cs : Array Value} (hb : ρ.ro b = some cs) : b < w.heap.size := by
  obtain ⟨ty, fr, h1⟩ := h b cs hb
  exact (Array.getElem?_eq_some_iff.1 h1).1
theorem RoOK.new {ρ : Rho} {w : World} (h : RoOK ρ w) {b : Nat} (hb : w.heap.size ≤ b) : ρ.ro b = none := by
  cases e : ρ.ro b with
  | none => rfl
  | some cs => have := h.lt e; omega
theorem rho0_ok (w : World) : RoOK rho0 w := fun b cs h => by cases h
theorem RoOK.bare {ρ : Rho} {w : World} (h : RoOK ρ w) : RoOK ρ.bare w := h
structure Res where
  vc : Bool
  v : T
  G : Heap
  t : Nat
  w : Nat
structure Sim (K : Nat → Prop) (ρ : Rho) (G : Heap) (w : World) : Prop where
  blk : ∀ k t p, K k → hget G k = some t → ρ k = some p → Blk ρ t p w
  vac : ∀ k t, K k → hget G k = some t → ρ k = none → t.size = 0
  inj : ∀ k k' t t' p p', K k → K k' → hget G k = some t → hget G k' = some t' → ρ k = some p → ρ k' = some p' → p.1 = p'.1 → k = k'
  ro : RoOK ρ w
  dis : ∀ k t p, K k → hget G k = some t → ρ k = some p → ρ.ro p.1 = none
theorem Sim.weak {K K' : Nat → Prop} {ρ : Rho} {G : Heap} {w : World} (h : Sim K ρ G w) (hk : ∀ k, k < G.length → K' k → K k) : Sim K' ρ G w :=
  ⟨fun k t p a b => h.blk k t p (hk k (za7 b) a) b, fun k t a b => h.vac k t (hk k (za7 b) a) b, fun k k' t t' p p' a a' b b' => h.inj k k' t t' p p' (hk k (za7 b) a) (hk k' (za7 b') a') b b', h.ro, fun k t p a b => h.dis k t p (hk k (za7 b) a) b⟩
structure Stat (G : Heap) (r : Res) : Prop where
  len : G.length ≤ r.G.length
  wt : ∀ k, k < G.length → r.w.testBit k = true → r.t.testBit k = true ∧ ∃ t, hget G k = some t
  old : ∀ k, k < G.length → r.w.testBit k = false → hget r.G k = hget G k
structure Post (ρ ρ' : Rho) (G : Heap) (w : World) (r : Res) (v' : Value) (w' : World) : Prop where
  ext : ρ.Ext ρ'
  dom : ∀ k, k < G.length ∨ r.G.length ≤ k → ρ' k = ρ k
  val : (R ρ' r.v).v v'
  sim : ∀ k t p, G.length ≤ k ∨ r.w.testBit k = true → hget r.G k = some t → ρ' k = some p → Blk ρ' t p w'
  vac : ∀ k t, G.length ≤ k ∨ r.w.testBit k = true → hget r.G k = some t → ρ' k = none → t.size = 0
  new : ∀ k t p, G.length ≤ k → hget r.G k = some t → ρ' k = some p → w.heap.size ≤ p.1 ∨ ∃ j q, j < G.length ∧ r.w.testBit j = true ∧ hget r.G j = none ∧ ρ j = some q ∧ q.1 = p.1
  inj : ∀ k k' t t' p p', G.length ≤ k → G.length ≤ k' → hget r.G k = some t → hget r.G k' = some t' → ρ' k = some p → ρ' k' = some p' → p.1 = p'.1 → k = k'
  frame : ∀ b, b < w.heap.size → (∀ k p, k < G.length → r.w.testBit k = true → ρ k = some p → p.1 ≠ b) → w'.heap[b]? = w.heap[b]?
  size : w.heap.size ≤ w'.heap.size
  os : w'.os = w.os
  tape : w'.tape = w.tape
  output : w'.output = w.output
  ro : ∀ b cs, ρ'.ro b = some cs → ρ.ro b = some cs ∨ (w.heap.size ≤ b ∧ ∃ ty fr, w'.heap[b]? = some (.cells cs ty fr))
  dis : ∀ k t p, G.length ≤ k ∨ r.w.testBit k = true → hget r.G k = some t → ρ' k = some p → ρ'.ro p.1 = none
theorem Post.roOK {K : Nat → Prop} {ρ ρ' : Rho} {G : Heap} {w : World} {r : Res} {v' : Value} {w' : World} (h : Post ρ ρ' G w r v' w') (hs : Stat G r) (hsim : Sim K ρ G w) (hK : ∀ k, k < G.length → r.t.testBit k = true → K k) : RoOK ρ' w' := by
  intro b cs hb
  rcases h.ro b cs hb with h1 | ⟨_, h2⟩
  · obtain ⟨ty, fr, h3⟩ := hsim.ro b cs h1
    refine ⟨ty, fr, (h.frame b (hsim.ro.lt h1) fun k p hk hw hp he => ?_).trans h3⟩
    obtain ⟨ht, t, hg⟩ := hs.wt k hk hw
    have := hsim.dis k t p (hK k hk ht) hg hp
    rw [he, h1] at this
    cases this
  · exact h2
abbrev Model := List T → Heap → Option Res
def VLs (ρ : Rho) : List T → List Value → Prop
  | [], xs => xs = []
  | t :: ts, xs => ∃ y ys, xs = y :: ys ∧ (R ρ t).v y ∧ VLs ρ ts ys
def bitK (m : Nat) (k : Nat) : Prop := m.testBit k = true
def fresh (ρ : Rho) (a b : Nat) : Prop := ∀ k, a ≤ k → k < b → ρ k = none
def Does (P : Program) (f : FuncId) (args' : Array Value) (G : Heap) (r : Res) (ρ : Rho) (w : World) : Prop :=
  Calls P f args' w fun e w' => ∃ v', e = .returned v' ∧ ∃ ρ', Post ρ ρ' G w r v' w'
def Lands (P : Program) (K : Value → World → Prop) : Result Next → Prop
  | .ok (.value v) w' => K v w'
  | .ok .skip w' => K undef w'
  | .ok (.enter f args) w' => Calls P f args w' fun e w'' => ∃ v, e = .returned v ∧ K v w''
  | _ => False
theorem Lands.mono {P : Program} {K K' : Value → World → Prop} (h : ∀ v w, K v w → K' v w) {x : Result Next} (hx : Lands P K x) : Lands P K' x := by
  unfold Lands at *
  split at hx
  · exact h _ _ hx
  · exact h _ _ hx
  · exact Calls.mono hx fun e w' ⟨v, he, hk⟩ => ⟨v, he, h _ _ hk⟩
  · exact hx.elim
structure SoundM (P : Program) (f : FuncId) (m : Model) : Prop where
  stat : ∀ args G r, m args G = some r → Stat G r
  lands : ∀ args G r, m args G = some r → r.vc = true → ∀ ρ w args', Sim (bitK r.t) ρ G w → fresh ρ G.length r.G.length → VLs ρ args args' →
    Lands P (fun v' w' => ∃ ρ', Post ρ ρ' G w r v' w') ((callFunc f args'.toArray).run P w)
theorem SoundM.of_does {P : Program} {f : FuncId} {m : Model} (hfn : ∃ fn, P.funcs[f]? = some fn ∧ (fn.name == "runtime.NumGoroutine") = false ∧ fn.body.isNone = false) (hstat : ∀ args G r, m args G = some r → Stat G r)
    (hdoes : ∀ args G r, m args G = some r → r.vc = true → ∀ ρ w args', Sim (bitK r.t) ρ G w → fresh ρ G.length r.G.length → VLs ρ args args' → Does P f args'.toArray G r ρ w) : SoundM P f m := by
  refine ⟨hstat, fun args G r h hvc ρ w args' hs hf ha => ?_⟩
  obtain ⟨fn, hfn, hname, hbody⟩ := hfn
  have hd := hdoes args G r h hvc ρ w args' hs hf ha
  simp only [callFunc, Sem.run_bind, run_program, Result.andThen_ok, hfn, hname, hbody]
  exact hd
abbrev Env := FuncId → Option Model
def EnvOK (P : Program) (env : Env) : Prop := ∀ f m, env f = some m → SoundM P f m
def szO (P : Program) (t : TypeId) : Option Nat := (P.info? t).map (·.size)
def rowD : TypeDesc → Bool
  | .struct _ | .array _ _ => true
  | _ => false
def aggIs (P : Program) (t : TypeId) (b : Bool) : Bool :=
  match P.underlying t with
  | some d => rowD d == b
  | none => false
def copies (z : T) : Nat → T
  | 0 => .nil
  | n + 1 => .cons z (copies z n)
def zFields (z : TypeId → Option T) : List Field → Option T
  | [] => some .nil
  | f :: r => match z f.type, zFields z r with
    | some a, some b => some (.cons a b)
    | _, _ => none
def zeroT (P : Program) : Nat → TypeId → Option T
  | 0, _ => none
  | d + 1, t => match P.underlying t with
    | some .bool => some (.bool false)
    | some (.int k) => some (.int k 0)
    | some .string => some (.str ⟨#[]⟩)
    | some (.pointer _) => some .nilptr
    | some (.slice _) => some .nilslice
    | some (.func ..) => some .nilfn
    | some (.struct fs) => zFields (zeroT P d) fs.toList
    | some (.array n e) => match zeroT P d e with
      | some (.int k i) => some (bif Nat.ble n 8 then copies (.int k i) n else .ints k n fun _ => i)
      | some z => some (bif Nat.ble n 8 then copies z n else .rows n z.size fun _ => z)
      | none => none
    | _ => none
def zIter (f : Nat → List Value → Option (List Value)) : Nat → Nat → List Value → Option (List Value)
  | 0, _, r => some r
  | n + 1, i, r => match f i r with
    | some r' => zIter f n (i + 1) r'
    | none => none
def zInts (k : IntKind) (f : Nat → Int) : Nat → Nat → List Value → Option (List Value)
  | 0, _, r => some r
  | n + 1, i, .int k' v :: r => if k = k' ∧ f i = v then zInts k f n (i + 1) r else none
  | _, _, _ => none
def zf5 : T → List Value → Option (List Value)
  | .bool b, .bool b' :: r => bif b == b' then some r else none
  | .int k n, .int k' n' :: r => if k = k' ∧ n = n' then some r else none
  | .str s, .string s' :: r => bif Nat.beq s.size 0 && Nat.beq s'.size 0 then some r else none
  | .nilptr, .pointer none :: r => some r
  | .nilslice, .slice none 0 0 :: r => some r
  | .nilfn, .nilFunc :: r => some r
  | .nil, r => some r
  | .cons h t, r => match zf5 h r with
    | some r' => zf5 t r'
    | none => none
  | .rows n _ f, r => zIter (fun i => zf5 (f i)) n 0 r
  | .ints k n f, r => zInts k f n 0 r
  | _, _ => none
def isAggV : Value → Bool
  | .agg _ => true
  | _ => false
def zOf (P : Program) (t : TypeId) : Option T :=
  match (P.info? t).bind (·.zero), zeroT P 20 t with
  | some v, some z => match zf5 z v.cells.toList with
    | some [] => bif (z.isAgg == isAggV v) then some z else none
    | _ => none
  | _, _ => none
def constT : Value → T
  | .bool b => .bool b
  | .int k n => .int k n
  | .string s => .str s
  | .pointer none => .nilptr
  | .slice none 0 0 => .nilslice
  | .nilFunc => .nilfn
  | _ => .any
theorem constT_v (ρ : Rho) (v : Value) : (R ρ (constT v)).v v := by
  unfold constT
  split <;> first | rfl | trivial
def pureR (G : Heap) (vc : Bool) (v : T) : Res := ⟨vc, v, G, 0, 0⟩
def bitI (op : BinOp) (k : IntKind) (x y : Int) : Option Int :=
  match op with
  | .and => some (bits .and k x y)
  | .or => some (bits .or k x y)
  | .xor => some (bits .xor k x y)
  | .andNot => some (bits .andNot k x y)
  | _ => none
def shlI (k : IntKind) (x y : Int) : Int := k.wrap (x * 2 ^ (min y.toNat k.bits))
def shrI (k : IntKind) (x y : Int) : Int := x.fdiv (2 ^ (min y.toNat k.bits))
def unbit : T → T
  | .bit k b => .int k (bif b then 1 else 0)
  | .word n => .int .u64 ((n % 18446744073709551616 : Nat) : Int)
  | t => t
theorem unbit_R {ρ : Rho} {t : T} {x : Value} (h : (R ρ t).v x) : (R ρ (unbit t)).v x := by cases t <;> exact h
def evInt (op : BinOp) (k : IntKind) (a : Int) (b : Int) : Option (Bool × T) :=
  match op with
  | .add => some (true, .int k (k.wrap (a + b)))
  | .sub => some (true, .int k (k.wrap (a - b)))
  | .mul => some (true, .int k (k.wrap (a * b)))
  | .quo => some (decide (b ≠ 0), .int k (k.wrap (a.tdiv b)))
  | .rem => some (decide (b ≠ 0), .int k (a.tmod b))
  | .and | .or | .xor | .andNot => match bitI op k a b with
    | some n => some (true, .int k n)
    | none => none
  | .eql => some (true, .bool (a == b))
  | .neq => some (true, .bool (a != b))
  | .lss => some (true, .bool (decide (a < b)))
  | .leq => some (true, .bool (decide (a ≤ b)))
  | .gtr => some (true, .bool (decide (a > b)))
  | .geq => some (true, .bool (decide (a ≥ b)))
  | _ => none
def evBin (op : BinOp) (x y : T) : Option (Bool × T) :=
  match x, y with
  | .int k a, .int k' b =>
    match op with
    | .shl => some (decide (0 ≤ b), .int k (shlI k a b))
    | .shr => some (decide (0 ≤ b), .int k (shrI k a b))
    | op => if k = k' then evInt op k a b else none
  | .str a, .str b =>
    match op with
    | .eql => some (true, .bool (a.toList == b.toList))
    | .neq => some (true, .bool (!(a.toList == b.toList)))
    | .lss => some (true, .bool (Op.bytesLess a.toList b.toList))
    | .geq => some (true, .bool (!Op.bytesLess a.toList b.toList))
    | .gtr => some (true, .bool (!(Op.bytesLess a.toList b.toList || a.toList == b.toList)))
    | .leq => some (true, .bool (Op.bytesLess a.toList b.toList || a.toList == b.toList))
    | _ => none
  | _, _ => none
theorem zr5 {P : Program} {op : BinOp} {x y : T} {vc : Bool} {v : T} {t : TypeId} {ρ : Rho} {x' y' : Value} (h : evBin op x y = some (vc, v)) (hvc : vc = true)
    (hx : (R ρ x).v x') (hy : (R ρ y).v y') (w : World) : ∃ v', (binOp op t x' y').run P w = .ok v' w ∧ (R ρ v).v v' := by
  subst hvc
  unfold evBin at h
  split at h
  · obtain rfl : x' = _ := hx
    obtain rfl : y' = _ := hy
    split at h
    · simp only [Option.some.injEq, Prod.mk.injEq, decide_eq_true_eq] at h
      obtain ⟨h1, rfl⟩ := h
      have : ¬ (_ : Int) < 0 := Int.not_lt.2 h1
      exact ⟨_, by simp [binOp, Op.shift, this, shlI, shrI], rfl⟩
    · simp only [Option.some.injEq, Prod.mk.injEq, decide_eq_true_eq] at h
      obtain ⟨h1, rfl⟩ := h
      have : ¬ (_ : Int) < 0 := Int.not_lt.2 h1
      exact ⟨_, by simp [binOp, Op.shift, this, shlI, shrI], rfl⟩
    · rename_i hns1 hns2
      split at h
      · rename_i hk
        subst hk
        unfold evInt at h
        split at h <;>
          first
          | (simp only [Option.some.injEq, Prod.mk.injEq, decide_eq_true_eq, true_and] at h
             obtain ⟨h1, rfl⟩ := h
             refine ⟨_, ?_, rfl⟩
             simp [binOp, Op.intArith, Op.intDiv, Op.intCmp, h1]; done)
          | (simp only [Option.some.injEq, Prod.mk.injEq, true_and] at h
             obtain rfl := h
             refine ⟨_, ?_, rfl⟩
             simp [binOp, Op.intArith, Op.intDiv, Op.intCmp]; done)
          | (cases h; done)
          | (simp only [bitI, Option.some.injEq, Prod.mk.injEq, true_and] at h
             obtain rfl := h
             refine ⟨_, ?_, rfl⟩
             simp [binOp, Op.intBits, bits]; done)
      · cases h
  · obtain rfl : x' = _ := hx
    obtain rfl : y' = _ := hy
    split at h <;> first
      | (simp only [Option.some.injEq, Prod.mk.injEq, true_and] at h
         obtain rfl := h
         refine ⟨_, ?_, rfl⟩
         simp [binOp, Op.stringOp]; done)
      | (cases h; done)
  · cases h
end
end Go.AE
namespace Go.AE
open Go
noncomputable section
def toL : T → List T
  | .cons h t => h :: toL t
  | _ => []
theorem toL_VLs {ρ : Rho} : ∀ {t : T} {xs}, (R ρ t).l xs → VLs ρ (toL t) xs := by
  intro t
  induction t with
  | cons h t _ ih => rintro xs ⟨y, ys, rfl, hy, hys⟩; exact ⟨y, ys, rfl, hy, ih hys⟩
  | nil => intro xs h; exact h
  | _ => intro xs h; exact h.elim
def ofL : List T → T
  | [] => .nil
  | t :: ts => .cons t (ofL ts)
theorem ofL_l {ρ : Rho} : ∀ {ts : List T} {xs}, VLs ρ ts xs → (R ρ (ofL ts)).l xs
  | [], _, h => h
  | _ :: _, _, ⟨y, ys, e, hy, hys⟩ => ⟨y, ys, e, hy, ofL_l hys⟩
theorem VLs_append {ρ : Rho} : ∀ {ts us : List T} {xs ys}, VLs ρ ts xs → VLs ρ us ys → VLs ρ (ts ++ us) (xs ++ ys)
  | [], _, _, _, h, h' => by cases h; exact h'
  | _ :: _, _, _, _, ⟨y, ys', e, hy, hys⟩, h' => by subst e; exact ⟨y, _, rfl, hy, VLs_append hys h'⟩
theorem VLs_map {ρ : Rho} {es : Operand → T} {ρm : Operand → Value} : ∀ {l : List Operand}, (∀ x ∈ l, (R ρ (es x)).v (ρm x)) → VLs ρ (l.map es) (l.map ρm)
  | [], _ => rfl
  | x :: l, h => ⟨_, _, rfl, h x (by simp), VLs_map fun y hy => h y (by simp [hy])⟩
def evUn : UnOp → T → Option T
  | .neg, .int k n => some (.int k (k.wrap (0 - n)))
  | .xor, .int k n => match bitI .xor k (if k.signed then -1 else k.max) n with
    | some m => some (.int k m)
    | none => none
  | .not, .bool b => some (.bool !b)
  | _, _ => none
def evConv (P : Program) (src dst : TypeId) : T → Option T
  | .int _ n => match P.underlying src, P.underlying dst with
    | some _, some (.int k') => some (.int k' (k'.wrap n))
    | _, _ => none
  | .str s => match P.underlying src, P.underlying dst with
    | some .string, some .string => some (.str s)
    | _, _ => none
  | _ => none
def evField (P : Program) (t : TypeId) (f : Nat) (x : T) : Option T :=
  match P.underlying t with
  | some (.struct fs) => match fs.toList[f]? with
    | some fd => match szO P fd.type, nth x f fd.offset with
      | some n, some u => bif Nat.beq u.size n && aggIs P fd.type u.isAgg then some u else none
      | _, _ => none
    | none => none
  | _ => none
def evFieldAddr (P : Program) (t : TypeId) (f : Nat) : T → Option T
  | .ptr id path => match P.underlying t with
    | some (.struct fs) => match fs.toList[f]? with
      | some fd => match szO P fd.type with
        | some n => bif Nat.beq n 0 then none else some (.ptr id (path ++ [.fld f fd.offset]))
        | none => none
      | none => none
    | _ => none
  | _ => none
def evIndexAddr (P : Program) (t : TypeId) : T → T → Option (Bool × T)
  | .ptr id path, .int _ i => match P.underlying t with
    | some (.array n e) => match szO P e with
      | some m => some (decide (0 ≤ i ∧ i < n), .ptr id (path ++ [.idx i.toNat m]))
      | none => none
    | _ => none
  | .slice id path lo m len _, .int _ i => match P.underlying t with
    | some (.slice e) => match szO P e with
      | some m' => bif Nat.beq m m' then some (decide (0 ≤ i ∧ i < len), .ptr id (path ++ [.idx (lo + i.toNat) m])) else none
      | none => none
    | _ => none
  | _, _ => none
def evIndex (P : Program) (t : TypeId) (x : T) : T → Option (Bool × T)
  | .int _ i => match P.underlying t with
    | some (.array n e) => match szO P e, stepT x (.idx i.toNat ((szO P e).getD 0)) with
      | some m, some u => bif Nat.beq u.size m && aggIs P e u.isAgg && x.isAgg then some (decide (0 ≤ i ∧ i < n) && zh6 x (.idx i.toNat m), u) else none
      | _, _ => none
    | some .string => match x with
      | .str s => some (decide (0 ≤ i ∧ i < s.size), .int .u8 ((s.data.toList.getD i.toNat 0).toNat))
      | _ => none
    | _ => none
  | _ => none
def ith : T → Nat → Option T
  | .cons h _, 0 => some h
  | .cons _ t, n + 1 => ith t n
  | _, _ => none
theorem ith_sound {ρ : Rho} : ∀ {t : T} {i : Nat} {u : T} {xs : List Value}, (R ρ t).l xs → ith t i = some u → ∃ y, xs[i]? = some y ∧ (R ρ u).v y := by
  intro t
  induction t with
  | cons h t _ ih =>
    rintro i u xs ⟨y, ys, rfl, hy, hys⟩ hi
    cases i with
    | zero => cases hi; exact ⟨y, rfl, hy⟩
    | succ i => obtain ⟨z, hz, hv⟩ := ih hys hi; exact ⟨z, by simpa using hz, hv⟩
  | _ => intro i u xs h hi; simp [ith] at hi
def evExtract (i : Nat) : T → Option T
  | .tup t => ith t i
  | _ => none
theorem evUn_sound {P : Program} {op : UnOp} {x v : T} {ρ : Rho} {x' : Value} (h : evUn op x = some v) (hx : (R ρ x).v x') (w : World) :
    ∃ v', (Op.unary op x').run P w = .ok v' w ∧ (R ρ v).v v' := by
  unfold evUn at h
  split at h
  · obtain rfl : x' = _ := hx
    cases h
    exact ⟨_, rfl, rfl⟩
  · obtain rfl : x' = _ := hx
    simp only [bitI] at h
    cases h
    exact ⟨_, rfl, rfl⟩
  · obtain rfl : x' = _ := hx
    cases h
    exact ⟨_, rfl, rfl⟩
  · cases h
theorem evConv_sound {P : Program} {src dst : TypeId} {x v : T} {ρ : Rho} {x' : Value} (h : evConv P src dst x = some v) (hx : (R ρ x).v x') (w : World) :
    ∃ v', (convert src dst x').run P w = .ok v' w ∧ (R ρ v).v v' := by
  unfold evConv at h
  split at h
  · obtain rfl : x' = _ := hx
    split at h
    · rename_i d k' hs hd
      cases h
      refine ⟨_, ?_, rfl⟩
      simp only [convert, Sem.run_bind, run_underlying hs, run_underlying hd, Result.andThen_ok]
      cases d <;> rfl
    · cases h
  · obtain rfl : x' = _ := hx
    split at h
    · rename_i hs hd
      cases h
      refine ⟨_, ?_, rfl⟩
      simp only [convert, Sem.run_bind, run_underlying hs, run_underlying hd, Result.andThen_ok]
      rfl
    · cases h
  · cases h
theorem zd1 {P : Program} {t : TypeId} {n : Nat} (h : szO P t = some n) (w : World) : (sizeOf t).run P w = .ok n w := by
  unfold szO at h
  cases hq : P.info? t with
  | none => simp [hq] at h
  | some i =>
    simp [hq] at h
    simp [sizeOf, typeInfo, hq, h]
theorem aggIs_run {P : Program} {t : TypeId} {b : Bool} (h : aggIs P t b = true) (w : World) : (isAgg t).run P w = .ok b w := by
  unfold aggIs at h
  cases hq : P.underlying t with
  | none => simp [hq] at h
  | some d =>
    unfold isAgg
    rw [Sem.run_bind, run_underlying hq]
    rw [hq] at h
    simp only [beq_iff_eq] at h
    subst h
    cases d <;> simp [rowD]
theorem zb8 (b o : Nat) (n : Nat) : (⟨b, o, none⟩ : Addr).add n = ⟨b, o + n, none⟩ := by unfold Addr.add; split <;> simp_all
theorem evFieldAddr_sound {P : Program} {t : TypeId} {f : Nat} {x v : T} {ρ : Rho} {x' : Value} (h : evFieldAddr P t f x = some v) (hx : (R ρ x).v x') (w : World) :
    ∃ v', (Instr.fieldAt t x' f).run P w = .ok v' w ∧ (R ρ v).v v' := by
  unfold evFieldAddr at h
  split at h
  · obtain ⟨b, sz, hr, rfl⟩ := hx
    split at h
    · rename_i fs hu
      split at h
      · rename_i fd hfd
        split at h
        · rename_i n hn
          cases hz : Nat.beq n 0 with
          | true => rw [hz] at h; cases h
          | false =>
            rw [hz] at h
            cases h
            have hne : n ≠ 0 := fun e => by subst e; cases hz
            refine ⟨_, ?_, b, sz, hr, rfl⟩
            have hfd' : fs[f]? = some fd := by simpa using hfd
            simp [Instr.fieldAt, run_underlying hu, hfd', Instr.sureAddr, fieldPlace, zd1 hn, hne, zb8, zq9, poff, Step.off]
        · cases h
      · cases h
    · cases h
  · cases h
theorem evIndexAddr_sound {P : Program} {t : TypeId} {x y v : T} {vc : Bool} {ρ : Rho} {x' y' : Value} (h : evIndexAddr P t x y = some (vc, v)) (hvc : vc = true)
    (hx : (R ρ x).v x') (hy : (R ρ y).v y') (w : World) : ∃ v', (Instr.indexAt t x' y').run P w = .ok v' w ∧ (R ρ v).v v' := by
  subst hvc
  unfold evIndexAddr at h
  split at h
  · obtain ⟨b, sz, hr, rfl⟩ := hx
    obtain rfl : y' = _ := hy
    split at h
    · rename_i n e hu
      split at h
      · rename_i m hm
        simp only [Option.some.injEq, Prod.mk.injEq, decide_eq_true_eq] at h
        obtain ⟨h1, rfl⟩ := h
        refine ⟨_, ?_, b, sz, hr, rfl⟩
        simp [Instr.indexAt, asIntOf, run_underlying hu, Instr.sureAddr, h1, zd1 hm, zb8, zq9, poff, Step.off]
      · cases h
    · cases h
  · rename_i id path lo m len cap k i
    obtain rfl : y' = _ := hy
    split at h
    · rename_i e hu
      split at h
      · rename_i m' hm
        cases hb : Nat.beq m m' with
        | false => rw [hb] at h; cases h
        | true =>
          rw [hb] at h
          have := Nat.eq_of_beq_eq_true hb
          subst this
          simp only [cond_true, Option.some.injEq, Prod.mk.injEq, decide_eq_true_eq] at h
          obtain ⟨h1, rfl⟩ := h
          have hx' : SliceR ρ.ids id path lo m len cap x' := hx
          rcases hx' with ⟨b, sz, hr, hs⟩ | ⟨_, _, h0, _⟩
          rotate_left
          · omega
          cases cap with
          | some c =>
            simp only [zc7] at hs
            subst hs
            refine ⟨_, ?_, b, sz, hr, rfl⟩
            simp [Instr.indexAt, asIntOf, run_underlying hu, h1, zd1 hm, zb8, zq9, poff, Step.off, Nat.add_mul, Nat.add_assoc]
          | none =>
            obtain ⟨rfl, _, (⟨c, rfl, _, _⟩ | ⟨h0, a, _⟩)⟩ := hs
            · refine ⟨_, ?_, b, sz, hr, rfl⟩
              simp [Instr.indexAt, asIntOf, run_underlying hu, h1, zd1 hm, zb8, poff, Step.off, Nat.add_mul]
            · omega
      · cases h
    · cases h
  · cases h
theorem evExtract_sound {P : Program} {i : Nat} {x v : T} {ρ : Rho} {x' : Value} (h : evExtract i x = some v) (hx : (R ρ x).v x') (w : World) :
    ∃ v', (Instr.extract x' i).run P w = .ok v' w ∧ (R ρ v).v v' := by
  unfold evExtract at h
  split at h
  · obtain ⟨vs, rfl, hl⟩ := hx
    obtain ⟨y, hy, hv⟩ := ith_sound hl h
    refine ⟨y, ?_, hv⟩
    have : vs[i]? = some y := by simpa using hy
    simp [Instr.extract, this]
  · cases h
theorem part_run {P : Program} {t : TypeId} {cs : Array Value} {off n : Nat} {u : T} {ρ : Rho} (hn : szO P t = some n) (hs : u.size = n) (ha : aggIs P t u.isAgg = true)
    (hc : (R ρ u).c (cut cs.toList off u.size)) (hb : off + u.size ≤ cs.size) (w : World) : ∃ v', (part t cs off).run P w = .ok v' w ∧ (R ρ u).v v' := by
  unfold part
  rw [Sem.run_bind, aggIs_run ha]
  simp only [Result.andThen_ok]
  cases hg : u.isAgg with
  | true =>
    simp only [if_true, Sem.run_bind, zd1 hn, Result.andThen_ok, Sem.run_pure]
    refine ⟨_, rfl, (R_agg hg).2 ⟨_, rfl, ?_⟩⟩
    have : (cs.extract off (off + n)).toList = cut cs.toList off u.size := by
      rw [hs]
      simp [cut, Array.toList_extract, List.extract_eq_take_drop]
    rw [this]; exact hc
  | false =>
    obtain ⟨x, hx, hv⟩ := R_leaf_back hg hc
    have h1 : u.size = 1 := by have := zh7 hc; rw [hx] at this; simpa using this.symm
    refine ⟨x, ?_, hv⟩
    have : cs[off]? = some x := by
      have h2 : (cut cs.toList off u.size)[0]? = some x := by rw [hx]; rfl
      simp only [cut, h1] at h2
      rw [List.getElem?_take_of_lt (by omega), List.getElem?_drop] at h2
      simpa using h2
    simp [this]
theorem evField_sound {P : Program} {t : TypeId} {f : Nat} {x v : T} {ρ : Rho} {x' : Value} (h : evField P t f x = some v) (hx : (R ρ x).v x') (w : World) :
    ∃ v', (Instr.field t x' f).run P w = .ok v' w ∧ (R ρ v).v v' := by
  unfold evField at h
  split at h
  · rename_i fs hu
    split at h
    · rename_i fd hfd
      split at h
      · rename_i n u hn hnu
        cases hb : (Nat.beq u.size n && aggIs P fd.type u.isAgg) with
        | false => rw [hb] at h; cases h
        | true =>
          rw [hb] at h
          cases h
          simp only [Bool.and_eq_true] at hb
          have hfd' : fs[f]? = some fd := by simpa using hfd
          have hx' : ∃ cs, x' = .agg cs ∧ (R ρ x).c cs.toList := by
            cases x <;> first | (simp [nth] at hnu; done) | exact (R_agg rfl).1 hx
          obtain ⟨cs, rfl, hc⟩ := hx'
          obtain ⟨h1, h2⟩ := zp6 hc hnu
          obtain ⟨v', hv, hr⟩ := part_run hn (Nat.eq_of_beq_eq_true hb.1) hb.2 h1 (by simpa using h2) w
          exact ⟨v', by simp [Instr.field, run_underlying hu, hfd', asAgg, hv], hr⟩
      · cases h
    · cases h
  · cases h
theorem evIndex_sound {P : Program} {t : TypeId} {x y v : T} {vc : Bool} {ρ : Rho} {x' y' : Value} (h : evIndex P t x y = some (vc, v)) (hvc : vc = true)
    (hx : (R ρ x).v x') (hy : (R ρ y).v y') (w : World) : ∃ v', (Instr.index t x' y').run P w = .ok v' w ∧ (R ρ v).v v' := by
  subst hvc
  unfold evIndex at h
  split at h
  · rename_i k i
    obtain rfl : y' = _ := hy
    split at h
    · rename_i n e hu
      split at h
      · rename_i m u hm hst
        rw [hm] at hst
        simp only [Option.getD_some] at hst
        cases hb : (Nat.beq u.size m && aggIs P e u.isAgg && x.isAgg) with
        | false => rw [hb] at h; cases h
        | true =>
          rw [hb] at h
          simp only [cond_true, Option.some.injEq, Prod.mk.injEq, Bool.and_eq_true, decide_eq_true_eq] at h
          obtain ⟨⟨h1, h2⟩, rfl⟩ := h
          simp only [Bool.and_eq_true] at hb
          obtain ⟨cs, rfl, hc⟩ := (R_agg hb.2).1 hx
          obtain ⟨h3, h4⟩ := zf7 hc hst h2
          obtain ⟨v', hv, hr⟩ := part_run hm (Nat.eq_of_beq_eq_true hb.1.1) hb.1.2 h3 (by simpa using h4) w
          refine ⟨v', ?_, hr⟩
          simp only [Step.off] at hv
          simp [Instr.index, asIntOf, run_underlying hu, h1, zd1 hm, hv]
      · cases h
    · rename_i hu
      cases x
      case str s =>
        obtain rfl : x' = _ := hx
        simp only [Option.some.injEq, Prod.mk.injEq, decide_eq_true_eq] at h
        obtain ⟨⟨h1, h2⟩, rfl⟩ := h
        refine ⟨_, ?_, rfl⟩
        have hlt : i.toNat < s.size := by omega
        have hg : s[i.toNat]? = some (s.data.toList.getD i.toNat 0) := by
          have e1 : s[i.toNat]? = some (s[i.toNat]) := getElem?_pos s i.toNat hlt
          rw [e1]
          congr 1
          have hl : i.toNat < s.data.toList.length := by simpa using hlt
          rw [List.getD_eq_getElem?_getD, List.getElem?_eq_getElem hl]
          rfl
        simp [Instr.index, asIntOf, run_underlying hu, h1, hg]
      all_goals cases h
    · cases h
  · cases h
end
end Go.AE
namespace Go.AE
open Go
noncomputable section
def eqN (n : Nat) (f g : Nat → Int) : Bool := (List.range n).all fun i => f i == g i
def eqFs (P : Program) (z : TypeId → T → T → Option (Bool × Bool)) (x y : T) : List Field → Nat → Option (Bool × Bool)
  | [], _ => some (true, true)
  | f :: r, j => bif f.name == "_" then none else
    match nth x j f.offset, nth y j f.offset, szO P f.type with
    | some a, some b, some n => bif Nat.beq a.size n && Nat.beq b.size n && aggIs P f.type a.isAgg && aggIs P f.type b.isAgg then
        match z f.type a b, eqFs P z x y r (j + 1) with
        | some (vc, v), some (vc', v') => some (vc && vc', v && v')
        | _, _ => none
      else none
    | _, _, _ => none
def eqIt (P : Program) (e : TypeId) (m : Nat) (z : T → T → Option (Bool × Bool)) (x y : T) : Nat → Nat → Option (Bool × Bool)
  | 0, _ => some (true, true)
  | k + 1, i => match stepT x (.idx i m), stepT y (.idx i m) with
    | some a, some b => bif Nat.beq a.size m && Nat.beq b.size m && aggIs P e a.isAgg && aggIs P e b.isAgg then
        match z a b, eqIt P e m z x y k (i + 1) with
        | some (vc, v), some (vc', v') => some (zh6 x (.idx i m) && zh6 y (.idx i m) && (vc && vc'), v && v')
        | _, _ => none
      else none
    | _, _ => none
def isIntT (P : Program) (e : TypeId) : Bool :=
  match P.underlying e with
  | some (.int _) => true
  | _ => false
def eqT (P : Program) : Nat → TypeId → T → T → Option (Bool × Bool)
  | 0, _, _, _ => none
  | d + 1, t, x, y => match P.underlying t with
    | some .bool => match x, y with
      | .bool a, .bool b => some (true, a == b)
      | _, _ => none
    | some (.int _) => match x, y with
      | .int k a, .int k' b => if k = k' then some (true, a == b) else none
      | _, _ => none
    | some .string => match x, y with
      | .str a, .str b => some (true, a == b)
      | _, _ => none
    | some (.pointer _) => match x, y with
      | .nilptr, .nilptr => some (true, true)
      | .ptr _ _, .nilptr => some (true, false)
      | .nilptr, .ptr _ _ => some (true, false)
      | .fp _, .nilptr => some (true, false)
      | .nilptr, .fp _ => some (true, false)
      | _, _ => none
    | some (.slice _) => match x, y with
      | .nilslice, .nilslice => some (true, true)
      | .slice _ _ _ _ _ (some _), .nilslice => some (true, false)
      | .slice _ _ _ _ n none, .nilslice => some (decide (0 < n), false)
      | .fsi _ n _ _, .nilslice => some (decide (0 < n), false)
      | .fsr _ n _ _, .nilslice => some (decide (0 < n), false)
      | _, _ => none
    | some (.struct fs) => bif P.stoodInHeld t || !x.isAgg || !y.isAgg then none else eqFs P (eqT P d) x y fs.toList 0
    | some (.array n e) => match x, y with
      | .ints k n1 f, .ints k' n2 g => if k = k' ∧ n1 = n ∧ n2 = n ∧ isIntT P e = true ∧ szO P e = some 1 ∧ 0 < d then some (true, eqN n f g) else none
      | x, y => bif !x.isAgg || !y.isAgg then none else match szO P e with
        | some m => eqIt P e m (eqT P d e) x y n 0
        | none => none
    | _ => none
variable {P : Program}
theorem aggIs_R {t : TypeId} {n off : Nat} {u : T} {ρ : Rho} {cs : Array Value} (hn : szO P t = some n) (hs : Nat.beq u.size n = true) (ha : aggIs P t u.isAgg = true)
    (hc : (R ρ u).c (cut cs.toList off u.size)) (hb : off + u.size ≤ cs.toList.length) (w : World) : ∃ v', (part t cs off).run P w = .ok v' w ∧ (R ρ u).v v' :=
  part_run hn (Nat.eq_of_beq_eq_true hs) ha hc (by simpa using hb) w
theorem eqFs_sound {ρ : Rho} {z : TypeId → T → T → Option (Bool × Bool)} {D : Nat} {w : World} {x y : T} {xs ys : Array Value} (hx : (R ρ x).c xs.toList) (hy : (R ρ y).c ys.toList)
    (hz : ∀ t a b vc v a' b', z t a b = some (vc, v) → vc = true → (R ρ a).v a' → (R ρ b).v b' → (Op.equalIn D t a' b').run P w = .ok v w) :
    ∀ (fs : List Field) (j : Nat) (vc v : Bool), eqFs P z x y fs j = some (vc, v) → vc = true → (Op.eqFields D xs ys fs).run P w = .ok v w
  | [], _, vc, v, h, _ => by cases h; rfl
  | f :: r, j, vc, v, h, hvc => by
    simp only [eqFs] at h
    cases hn : (f.name == "_") with
    | true => rw [hn] at h; cases h
    | false =>
      rw [hn] at h
      simp only [cond_false] at h
      split at h
      · rename_i a b n ha hb hsz
        cases hck : (Nat.beq a.size n && Nat.beq b.size n && aggIs P f.type a.isAgg && aggIs P f.type b.isAgg) with
        | false => rw [hck] at h; cases h
        | true =>
          rw [hck] at h
          simp only [cond_true] at h
          split at h
          · rename_i vc1 v1 vc2 v2 h1 h2
            simp only [Option.some.injEq, Prod.mk.injEq] at h
            obtain ⟨e1, rfl⟩ := h
            subst hvc
            simp only [Bool.and_eq_true] at e1 hck
            obtain ⟨a1, a2⟩ := zp6 hx ha
            obtain ⟨b1, b2⟩ := zp6 hy hb
            obtain ⟨a', pa, ra⟩ := aggIs_R hsz hck.1.1.1 hck.1.2 a1 a2 w
            obtain ⟨b', pb, rb⟩ := aggIs_R hsz hck.1.1.2 hck.2 b1 b2 w
            have hq := hz _ _ _ _ _ _ _ h1 e1.1 ra rb
            have hr := eqFs_sound hx hy hz r (j + 1) vc2 v2 h2 e1.2
            have hne : f.name ≠ "_" := by simpa using hn
            simp only [Op.eqFields, hne, ne_eq, not_false_eq_true, if_true, Sem.run_bind, pa, pb, hq, Result.andThen_ok]
            cases v1
            · simp
            · simpa using hr
          · cases h
      · cases h
theorem eqIt_sound {ρ : Rho} {e : TypeId} {m : Nat} {z : T → T → Option (Bool × Bool)} {D : Nat} {w : World} {x y : T} {xs ys : Array Value} (hx : (R ρ x).c xs.toList) (hy : (R ρ y).c ys.toList) (hm : szO P e = some m)
    (hz : ∀ a b vc v a' b', z a b = some (vc, v) → vc = true → (R ρ a).v a' → (R ρ b).v b' → (Op.equalIn D e a' b').run P w = .ok v w) :
    ∀ (k i : Nat) (vc v : Bool), eqIt P e m z x y k i = some (vc, v) → vc = true → (Op.eqItems D e m xs ys (List.range' i k)).run P w = .ok v w
  | 0, _, vc, v, h, _ => by cases h; rfl
  | k + 1, i, vc, v, h, hvc => by
    simp only [eqIt] at h
    split at h
    · rename_i a b ha hb
      cases hck : (Nat.beq a.size m && Nat.beq b.size m && aggIs P e a.isAgg && aggIs P e b.isAgg) with
      | false => rw [hck] at h; cases h
      | true =>
        rw [hck] at h
        simp only [cond_true] at h
        split at h
        · rename_i vc1 v1 vc2 v2 h1 h2
          simp only [Option.some.injEq, Prod.mk.injEq] at h
          obtain ⟨e1, rfl⟩ := h
          subst hvc
          simp only [Bool.and_eq_true] at e1 hck
          obtain ⟨a1, a2⟩ := zf7 hx ha e1.1.1
          obtain ⟨b1, b2⟩ := zf7 hy hb e1.1.2
          simp only [Step.off] at a1 a2 b1 b2
          obtain ⟨a', pa, ra⟩ := aggIs_R hm hck.1.1.1 hck.1.2 a1 a2 w
          obtain ⟨b', pb, rb⟩ := aggIs_R hm hck.1.1.2 hck.2 b1 b2 w
          have hq := hz _ _ _ _ _ _ h1 e1.2.1 ra rb
          have hr := eqIt_sound hx hy hm hz k (i + 1) vc2 v2 h2 e1.2.2
          rw [List.range'_succ]
          simp only [Op.eqItems, Sem.run_bind, pa, pb, hq, Result.andThen_ok]
          cases v1
          · simp
          · simpa using hr
        · cases h
    · cases h
theorem eqInts_sound {ρ : Rho} {e : TypeId} {k : IntKind} {n0 : Nat} {f g : Nat → Int} {D : Nat} {w : World} {xs ys : Array Value} {k' : IntKind} (hu : P.underlying e = some (.int k')) (hx : (R ρ (.ints k n0 f)).c xs.toList) (hy : (R ρ (.ints k n0 g)).c ys.toList) (hm : szO P e = some 1) :
    ∀ (n i : Nat), i + n ≤ n0 → (Op.eqItems (D + 1) e 1 xs ys (List.range' i n)).run P w = .ok ((List.range' i n).all fun i => f i == g i) w
  | 0, _, _ => rfl
  | n + 1, i, h => by
    have hag : aggIs P e false = true := by simp [aggIs, hu, rowD]
    have pt : ∀ (h0 : Nat → Int) (zs : Array Value), (R ρ (.ints k n0 h0)).c zs.toList → (part e zs (i * 1)).run P w = .ok (.int k (h0 i)) w := by
      intro h0 zs hz
      unfold part
      rw [Sem.run_bind, aggIs_run hag]
      have := hz.2 i (by omega)
      have h2 : zs[i]? = some (.int k (h0 i)) := by simpa using this
      simp [h2]
    have hr := eqInts_sound (D := D) (w := w) hu hx hy hm n (i + 1) (by omega)
    rw [List.range'_succ]
    simp only [Op.eqItems, Sem.run_bind, pt f xs hx, pt g ys hy, Result.andThen_ok, run_equalIn_int w D e k k' _ _ hu]
    cases h1 : (f i == g i)
    · simp [h1]
    · simp [h1]
      exact hr
theorem eqT_sound {ρ : Rho} {w : World} : ∀ (d : Nat) (t : TypeId) (x y : T) (vc v : Bool) (x' y' : Value), eqT P d t x y = some (vc, v) → vc = true → (R ρ x).v x' → (R ρ y).v y' → ∀ D, d ≤ D → (Op.equalIn D t x' y').run P w = .ok v w
  | 0, _, _, _, _, _, _, _, h, _, _, _, _, _ => by cases h
  | d + 1, t, x, y, vc, v, x', y', h, hvc, hx, hy, D, hD => by
    obtain ⟨D, rfl⟩ : ∃ D', D = D' + 1 := ⟨D - 1, by omega⟩
    have ih : ∀ (t : TypeId) (x y : T) (vc v : Bool) (x' y' : Value), eqT P d t x y = some (vc, v) → vc = true → (R ρ x).v x' → (R ρ y).v y' → (Op.equalIn D t x' y').run P w = .ok v w := fun t x y vc v x' y' h1 h2 h3 h4 => eqT_sound d t x y vc v x' y' h1 h2 h3 h4 D (by omega)
    simp only [eqT] at h
    split at h
    · rename_i hu
      split at h
      · obtain rfl : x' = _ := hx
        obtain rfl : y' = _ := hy
        cases h
        exact run_equalIn_bool w D t _ _ hu
      · cases h
    · rename_i k0 hu
      split at h
      · obtain rfl : x' = _ := hx
        obtain rfl : y' = _ := hy
        split at h
        · rename_i hk
          subst hk
          cases h
          exact run_equalIn_int w D t _ _ _ _ hu
        · cases h
      · cases h
    · rename_i hu
      split at h
      · obtain rfl : x' = _ := hx
        obtain rfl : y' = _ := hy
        cases h
        rw [beq_toListBytes]
        exact run_equalIn_string w D t _ _ hu
      · cases h
    · rename_i el hu
      split at h
      · obtain rfl : x' = _ := hx
        obtain rfl : y' = _ := hy
        cases h
        simp [Op.equalIn, run_underlying hu]
      · obtain ⟨b, sz, _, rfl⟩ := hx
        obtain rfl : y' = _ := hy
        cases h
        simp [Op.equalIn, run_underlying hu]
      · obtain ⟨b, sz, _, rfl⟩ := hy
        obtain rfl : x' = _ := hx
        cases h
        simp [Op.equalIn, run_underlying hu]
      · obtain ⟨b, off, cs, rfl, _⟩ := hx
        obtain rfl : y' = _ := hy
        cases h
        simp [Op.equalIn, run_underlying hu]
      · obtain ⟨b, off, cs, rfl, _⟩ := hy
        obtain rfl : x' = _ := hx
        cases h
        simp [Op.equalIn, run_underlying hu]
      · cases h
    · rename_i el hu
      split at h
      · obtain rfl : x' = _ := hx
        obtain rfl : y' = _ := hy
        cases h
        simp [Op.equalIn, run_underlying hu]
      · obtain ⟨b, sz, _, hs⟩ := zd8 hx
        obtain rfl : y' = _ := hy
        simp only [zc7] at hs
        subst hs
        cases h
        simp [Op.equalIn, run_underlying hu]
      · obtain rfl : y' = _ := hy
        cases h
        have h0 := of_decide_eq_true hvc
        rcases hx with ⟨b, sz, _, _, _, ⟨c, rfl, _⟩ | ⟨h1, _⟩⟩ | ⟨_, h1, _⟩
        · simp [Op.equalIn, run_underlying hu]
        · omega
        · omega
      · obtain rfl : y' = _ := hy
        cases h
        have h0 := of_decide_eq_true hvc
        obtain ⟨a, c, rfl, _, _, h4⟩ := hx
        obtain ⟨b, off, cs, rfl, _⟩ := h4 h0
        simp [Op.equalIn, run_underlying hu]
      · obtain rfl : y' = _ := hy
        cases h
        have h0 := of_decide_eq_true hvc
        obtain ⟨a, c, rfl, _, _, h4⟩ := hx
        obtain ⟨b, off, cs, rfl, _⟩ := h4 h0
        simp [Op.equalIn, run_underlying hu]
      · cases h
    · rename_i fs hu
      cases hb : (P.stoodInHeld t || !x.isAgg || !y.isAgg) with
      | true => rw [hb] at h; cases h
      | false =>
        rw [hb] at h
        simp only [cond_false] at h
        simp only [Bool.or_eq_false_iff, Bool.not_eq_false'] at hb
        obtain ⟨cx, rfl, hcx⟩ := (R_agg hb.1.2).1 hx
        obtain ⟨cy, rfl, hcy⟩ := (R_agg hb.2).1 hy
        have hf : P.fieldsOf t = fs := by simp [Program.fieldsOf, hu]
        rw [run_equalIn_struct w D t cx cy (by rw [hf]; exact hu) hb.1.1, hf]
        exact eqFs_sound hcx hcy ih fs.toList 0 vc v h hvc
    · rename_i n e hu
      split at h
      · rename_i k n1 f k' n2 g
        split at h
        · rename_i hc
          obtain ⟨rfl, rfl, rfl, h1, h2, h3⟩ := hc
          cases h
          obtain ⟨cx, rfl, hcx⟩ := (R_agg rfl).1 hx
          obtain ⟨cy, rfl, hcy⟩ := (R_agg rfl).1 hy
          obtain ⟨k', hk'⟩ : ∃ k', P.underlying e = some (.int k') := by
            unfold isIntT at h1
            split at h1
            · rename_i k' hk'; exact ⟨k', hk'⟩
            · cases h1
          obtain ⟨D', rfl⟩ : ∃ D', D = D' + 1 := ⟨D - 1, by omega⟩
          obtain ⟨i, hi⟩ : ∃ i, P.info? e = some i := by
            unfold szO at h2
            cases hq : P.info? e with
            | none => simp [hq] at h2
            | some i => exact ⟨i, rfl⟩
          have hc1 : P.cellsOf e = 1 := by unfold szO at h2; simp [Program.cellsOf, h2]
          rw [run_equalIn_array w (D' + 1) cx cy hu hi, hc1, List.range_eq_range']
          rw [eqInts_sound (ρ := ρ) hk' hcx hcy h2 n2 0 (by omega)]
          simp [eqN, List.range_eq_range']
        · cases h
      · cases hb : (!x.isAgg || !y.isAgg) with
        | true => rw [hb] at h; cases h
        | false =>
          rw [hb] at h
          simp only [cond_false] at h
          simp only [Bool.or_eq_false_iff, Bool.not_eq_false'] at hb
          split at h
          · rename_i m hm
            obtain ⟨cx, rfl, hcx⟩ := (R_agg hb.1).1 hx
            obtain ⟨cy, rfl, hcy⟩ := (R_agg hb.2).1 hy
            obtain ⟨i, hi⟩ : ∃ i, P.info? e = some i := by
              unfold szO at hm
              cases hq : P.info? e with
              | none => simp [hq] at hm
              | some i => exact ⟨i, rfl⟩
            have hc1 : P.cellsOf e = m := by unfold szO at hm; simp [Program.cellsOf, hm]
            rw [run_equalIn_array w D cx cy hu hi, hc1, List.range_eq_range']
            exact eqIt_sound hcx hcy hm (ih e) n 0 vc v h hvc
          · cases h
    · cases h
def plainTy (P : Program) : Nat → TypeId → Bool
  | 0, _ => false
  | d + 1, t => match P.underlying t with
    | some (.interface _) => false
    | some (.struct fs) => fs.toList.all fun f => plainTy P d f.type
    | some (.array _ e) => plainTy P d e
    | some _ => true
    | none => false
theorem zk5 : ∀ (d : Nat) (t : TypeId), plainTy P d t = true → ∀ D, d ≤ D → P.eqGuardType D t = false
  | 0, _, h, _, _ => by cases h
  | d + 1, t, h, D, hD => by
    obtain ⟨D, rfl⟩ : ∃ D', D = D' + 1 := ⟨D - 1, by omega⟩
    simp only [plainTy] at h
    simp only [Program.eqGuardType]
    split at h
    · cases h
    · rename_i fs hu
      rw [hu]
      simp only [List.all_eq_true] at h
      rw [← Bool.not_eq_true, Array.any_eq_true']
      rintro ⟨f, hf, hb⟩
      simp only [Bool.and_eq_true] at hb
      have := zk5 d f.type (h f (by simpa using hf)) D (by omega)
      rw [this] at hb
      cases hb.2
    · rename_i n e hu
      rw [hu]
      exact zk5 d e h D (by omega)
    · rename_i d0 h1 h2 h3 hu
      rw [hu]
      cases d0 <;> first | rfl | (exact (h1 _ rfl).elim) | (exact (h2 _ rfl).elim) | (exact (h3 _ _ rfl).elim)
    · cases h
def evEq (P : Program) (neg : Bool) (t : TypeId) (x y : T) : Option (Bool × T) :=
  match eqT P 20 t x y with
  | some (vc, v) => bif plainTy P 20 t && T.isAgg x && T.isAgg y then some (vc, .bool (bif neg then !v else v))
      else match P.underlying t with
        | some .bool | some (.pointer _) | some (.slice _) => some (vc, .bool (bif neg then !v else v))
        | _ => none
  | none => none
theorem depth_ge (P : Program) : 20 ≤ P.depth := by unfold Program.depth Made.depth; omega
theorem evEq_sound {ρ : Rho} {neg : Bool} {t : TypeId} {x y : T} {vc : Bool} {v : T} {x' y' : Value} {xo yo : Operand} (h : evEq P neg t x y = some (vc, v)) (hvc : vc = true) (hx : (R ρ x).v x') (hy : (R ρ y).v y') (w : World) :
    ∃ v', (do eqGuard (bif neg then .neq else .eql) t xo yo x' y'; binOp (bif neg then .neq else .eql) t x' y' : Sem Value).run P w = .ok v' w ∧ (R ρ v).v v' := by
  unfold evEq at h
  split at h
  · rename_i vc' v0 he
    have hq : vc' = true → (Op.equalIn 10000 t x' y').run P w = .ok v0 w := fun hv => eqT_sound 20 t x y vc' v0 x' y' he hv hx hy 10000 (by omega)
    cases hb : (plainTy P 20 t && x.isAgg && y.isAgg) with
    | true =>
      rw [hb] at h
      simp only [cond_true, Option.some.injEq, Prod.mk.injEq] at h
      obtain ⟨rfl, rfl⟩ := h
      simp only [Bool.and_eq_true] at hb
      obtain ⟨cx, rfl, _⟩ := (R_agg hb.1.2).1 hx
      obtain ⟨cy, rfl, _⟩ := (R_agg hb.2).1 hy
      have hg := zk5 20 t hb.1.1 P.depth (depth_ge P)
      refine ⟨.bool (bif neg then !v0 else v0), ?_, rfl⟩
      rw [Sem.run_bind, run_eqGuard_agg w _ t xo yo cx cy hg]
      cases neg
      · simp only [cond_false, Result.andThen_ok, run_eql_struct, hq hvc]
      · simp only [cond_true, Result.andThen_ok, run_neq_struct, hq hvc]
    | false =>
      rw [hb] at h
      simp only [cond_false] at h
      have shape : (P.underlying t = some .bool ∨ (∃ e, P.underlying t = some (.pointer e)) ∨ ∃ e, P.underlying t = some (.slice e)) ∧ vc' = vc ∧ v = .bool (bif neg then !v0 else v0) := by
        split at h
        · rename_i hu; cases h; exact ⟨.inl hu, rfl, rfl⟩
        · rename_i e hu; cases h; exact ⟨.inr (.inl ⟨e, hu⟩), rfl, rfl⟩
        · rename_i e hu; cases h; exact ⟨.inr (.inr ⟨e, hu⟩), rfl, rfl⟩
        · cases h
      obtain ⟨hu, rfl, rfl⟩ := shape
      have hq := hq hvc
      refine ⟨.bool (bif neg then !v0 else v0), ?_, rfl⟩
      have key : (eqGuard (bif neg then .neq else .eql) t xo yo x' y').run P w = .ok () w ∧ binOp (bif neg then .neq else .eql) t x' y' = (do let b ← Op.equal t x' y'; Pure.pure (.bool (bif neg then !b else b))) := by
        have he' : eqT P (19 + 1) t x y = some (vc', v0) := he
        clear he
        generalize 19 = d at he'
        have he := he'
        simp only [eqT] at he
        rcases hu with hu | ⟨e, hu⟩ | ⟨e, hu⟩ <;> rw [hu] at he <;> simp only at he
        · split at he
          · obtain rfl : x' = _ := hx
            obtain rfl : y' = _ := hy
            cases neg <;> exact ⟨rfl, rfl⟩
          · cases he
        · split at he
          · obtain rfl : x' = _ := hx
            obtain rfl : y' = _ := hy
            cases neg <;> exact ⟨rfl, rfl⟩
          · obtain ⟨b, sz, _, rfl⟩ := hx
            obtain rfl : y' = _ := hy
            cases neg <;> exact ⟨rfl, rfl⟩
          · obtain ⟨b, sz, _, rfl⟩ := hy
            obtain rfl : x' = _ := hx
            cases neg <;> exact ⟨rfl, rfl⟩
          · obtain ⟨b, off, cs, rfl, _⟩ := hx
            obtain rfl : y' = _ := hy
            cases neg <;> exact ⟨rfl, rfl⟩
          · obtain ⟨b, off, cs, rfl, _⟩ := hy
            obtain rfl : x' = _ := hx
            cases neg <;> exact ⟨rfl, rfl⟩
          · cases he
        · split at he
          · obtain rfl : x' = _ := hx
            obtain rfl : y' = _ := hy
            cases neg <;> exact ⟨rfl, rfl⟩
          · obtain ⟨b, sz, _, hs⟩ := zd8 hx
            obtain rfl : y' = _ := hy
            simp only [zc7] at hs
            subst hs
            cases neg <;> exact ⟨rfl, rfl⟩
          · obtain rfl : y' = _ := hy
            cases he
            have h0 := of_decide_eq_true hvc
            rcases hx with ⟨b, sz, _, _, _, ⟨c, rfl, _⟩ | ⟨h1, _⟩⟩ | ⟨_, h1, _⟩
            · cases neg <;> exact ⟨rfl, rfl⟩
            · omega
            · omega
          · obtain rfl : y' = _ := hy
            cases he
            have h0 := of_decide_eq_true hvc
            obtain ⟨a, c, rfl, _, _, h4⟩ := hx
            obtain ⟨b, off, cs, rfl, _⟩ := h4 h0
            cases neg <;> exact ⟨rfl, rfl⟩
          · obtain rfl : y' = _ := hy
            cases he
            have h0 := of_decide_eq_true hvc
            obtain ⟨a, c, rfl, _, _, h4⟩ := hx
            obtain ⟨b, off, cs, rfl, _⟩ := h4 h0
            cases neg <;> exact ⟨rfl, rfl⟩
          · cases he
      rw [Sem.run_bind, key.1]
      simp only [Result.andThen_ok, key.2]
      simp only [Sem.run_bind, Op.equal, Op.maxDepth, hq, Result.andThen_ok, Sem.run_pure]
  · cases h
end
end Go.AE
