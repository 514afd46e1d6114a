/- Numbers, the field, the curve and its points. No condition. -/
import Derived.Laws.BitsLemmas
import Derived.Laws.Entries
import Derived.Laws.Bits64

/-! Numbers: small prime theory in plain terms, and that 2^255 - 19 is prime; no condition. -/
namespace Fardel

/-- No divisor but 1 and itself. -/
def Irred (r : Nat) : Prop := 2 ≤ r ∧ ∀ d, d ∣ r → d = 1 ∨ d = r

theorem irred_dvd {r a b : Nat} (h : Irred r) (hd : r ∣ a * b) : r ∣ a ∨ r ∣ b := by
  rcases h.2 (Nat.gcd r a) (Nat.gcd_dvd_left r a) with h1 | h1
  · exact Or.inr (Nat.Coprime.dvd_of_dvd_mul_left h1 hd)
  · exact Or.inl (h1 ▸ Nat.gcd_dvd_right r a)

theorem irred_coprime {r a : Nat} (h : Irred r) (hd : ¬ r ∣ a) : Nat.Coprime r a := by
  rcases h.2 (Nat.gcd r a) (Nat.gcd_dvd_left r a) with h1 | h1
  · exact h1
  · exact absurd (h1 ▸ Nat.gcd_dvd_right r a) hd

theorem exists_irred (n : Nat) (h : 2 ≤ n) : ∃ r, Irred r ∧ r ∣ n := by
  induction n using Nat.strongRecOn with
  | _ n ih =>
    by_cases hi : Irred n
    · exact ⟨n, hi, Nat.dvd_refl n⟩
    · have : ∃ d, d ∣ n ∧ d ≠ 1 ∧ d ≠ n := Classical.byContradiction fun hc => hi ⟨h, fun d hd => by
        by_cases h1 : d = 1
        · exact Or.inl h1
        · by_cases h2 : d = n
          · exact Or.inr h2
          · exact absurd ⟨d, hd, h1, h2⟩ hc⟩
      obtain ⟨d, hd, h1, h2⟩ := this
      have hle := Nat.le_of_dvd (by omega) hd
      have h0 : d ≠ 0 := by rintro rfl; have := Nat.eq_zero_of_zero_dvd hd; omega
      obtain ⟨r, hr, hrd⟩ := ih d (by omega) (by omega)
      exact ⟨r, hr, Nat.dvd_trans hrd hd⟩

/-- Pascal's numbers. -/
def bin : Nat → Nat → Nat
  | _, 0 => 1
  | 0, _ + 1 => 0
  | n + 1, k + 1 => bin n k + bin n (k + 1)

theorem bin_zero (n : Nat) : bin n 0 = 1 := by cases n <;> rfl
theorem bin_succ (n k : Nat) : bin (n + 1) (k + 1) = bin n k + bin n (k + 1) := rfl
theorem bin_gt : ∀ (n k : Nat), n < k → bin n k = 0
  | 0, k + 1, _ => rfl
  | n + 1, k + 1, h => by rw [bin_succ, bin_gt n k (by omega), bin_gt n (k + 1) (by omega)]
theorem bin_self : ∀ n, bin n n = 1
  | 0 => rfl
  | n + 1 => by rw [bin_succ, bin_self n, bin_gt n (n + 1) (by omega)]

theorem bin_mul : ∀ (n k : Nat), (k + 1) * bin (n + 1) (k + 1) = (n + 1) * bin n k
  | 0, 0 => rfl
  | 0, k + 1 => by rw [bin_gt 1 (k + 2) (by omega), bin_gt 0 (k + 1) (by omega)]; rfl
  | n + 1, 0 => by
    have h := bin_mul n 0
    simp only [bin_succ, bin_zero] at *
    grind
  | n + 1, k + 1 => by
    have h1 := bin_mul n k
    have h2 := bin_mul n (k + 1)
    rw [bin_succ (n + 1) (k + 1)]
    have h3 := bin_succ n k
    generalize bin (n + 1) (k + 1) = A at *
    generalize bin (n + 1) (k + 1 + 1) = B at *
    generalize bin n k = C at *
    generalize bin n (k + 1) = D at *
    grind

/-- The first m terms of (a + 1)^n. -/
def bsum (a n : Nat) : Nat → Nat
  | 0 => 0
  | m + 1 => bsum a n m + bin n m * a ^ m

theorem bsum_succ (a n : Nat) : ∀ m, bsum a (n + 1) (m + 1) = bsum a n (m + 1) + a * bsum a n m
  | 0 => by simp [bsum, bin_zero]
  | m + 1 => by
    have h := bsum_succ a n m
    rw [bsum, h, bsum.eq_2 a n (m + 1), bsum.eq_2 a n m, bin_succ]
    generalize bsum a n m = S
    have : a ^ (m + 1) = a ^ m * a := Nat.pow_succ ..
    generalize a ^ (m + 1) = T at *
    generalize a ^ m = U at *
    grind

theorem bsum_all (a : Nat) : ∀ n, bsum a n (n + 1) = (a + 1) ^ n
  | 0 => by simp [bsum, bin_zero]
  | n + 1 => by
    rw [bsum_succ, bsum.eq_2 a n (n + 1), bin_gt n (n + 1) (by omega), bsum_all a n, Nat.pow_succ]
    grind

theorem bin_dvd {r k : Nat} (h : Irred r) (h0 : 0 < k) (hk : k < r) : r ∣ bin r k := by
  obtain ⟨m, rfl⟩ : ∃ m, r = m + 1 := ⟨r - 1, by omega⟩
  obtain ⟨j, rfl⟩ : ∃ j, k = j + 1 := ⟨k - 1, by omega⟩
  have hm := bin_mul m j
  have hd : (m + 1) ∣ (j + 1) * bin (m + 1) (j + 1) := ⟨_, hm⟩
  rcases irred_dvd h hd with h1 | h1
  · exact absurd (Nat.le_of_dvd (by omega) h1) (by omega)
  · exact h1

theorem bsum_mod {r : Nat} (h : Irred r) (a : Nat) : ∀ m, 0 < m → m ≤ r → bsum a r m % r = 1 % r
  | 0, h0, _ => by omega
  | 1, _, _ => by simp [bsum, bin_zero]
  | m + 2, _, hm => by
    have ih := bsum_mod h a (m + 1) (by omega) (by omega)
    obtain ⟨q, hq⟩ := bin_dvd h (k := m + 1) (by omega) (by omega)
    rw [bsum, hq, Nat.mul_assoc, Nat.add_mul_mod_self_left, ih]

theorem fermat_all {r : Nat} (h : Irred r) : ∀ a, a ^ r % r = a % r
  | 0 => by rw [Nat.zero_pow (by have := h.1; omega)]
  | a + 1 => by
    have ih := fermat_all h a
    have h2 := h.1
    rw [← bsum_all, bsum, bin_self, Nat.one_mul, Nat.add_mod, ih, bsum_mod h a r (by omega) (Nat.le_refl r), ← Nat.add_mod, Nat.add_comm]

theorem fermat {r a : Nat} (h : Irred r) (ha : ¬ r ∣ a) : a ^ (r - 1) % r = 1 := by
  have h2 := h.1
  have hf := fermat_all h a
  have hs : a ^ r = a * a ^ (r - 1) := by
    obtain ⟨m, rfl⟩ : ∃ m, r = m + 1 := ⟨r - 1, by omega⟩
    rw [Nat.pow_succ, Nat.add_sub_cancel, Nat.mul_comm]
  have hpos : 1 ≤ a ^ (r - 1) := Nat.pos_of_ne_zero fun h0 => by
    have : a = 0 := by
      rcases Nat.eq_zero_or_pos a with h1 | h1
      · exact h1
      · exact absurd h0 (Nat.pos_iff_ne_zero.1 (Nat.pow_pos h1))
    exact ha (this ▸ Nat.dvd_zero r)
  have hd : r ∣ a * (a ^ (r - 1) - 1) := by
    rw [Nat.mul_sub, Nat.mul_one, ← hs]
    have hle : a ≤ a ^ r := by rw [hs]; exact Nat.le_mul_of_pos_right a hpos
    exact Nat.dvd_of_mod_eq_zero (Nat.sub_mod_eq_zero_of_mod_eq hf)
  rcases irred_dvd h hd with h1 | h1
  · exact absurd h1 ha
  · obtain ⟨q, hq⟩ := h1
    have : a ^ (r - 1) = 1 + r * q := by omega
    rw [this, Nat.add_mul_mod_self_left, Nat.mod_eq_of_lt (by omega)]

/-- a to the power of e, modulo n, by halves; 'f' bounds the rounds. -/
def pm (n : Nat) : Nat → Nat → Nat → Nat
  | 0, _, _ => 1 % n
  | f + 1, a, e => if e = 0 then 1 % n else
    let s := pm n f (a * a % n) (e / 2)
    if e % 2 = 1 then s * a % n else s

theorem pm_eq (n : Nat) : ∀ f a e, e < 2 ^ f → pm n f a e = a ^ e % n
  | 0, a, e, h => by have : e = 0 := by simpa using h
                     simp [pm, this]
  | f + 1, a, e, h => by
    have h2 : e / 2 < 2 ^ f := by rw [Nat.pow_succ] at h; omega
    have ih := pm_eq n f (a * a % n) (e / 2) h2
    rw [pm]
    by_cases h0 : e = 0
    · simp [h0]
    · rw [if_neg h0]
      simp only [ih]
      have hsq : (a * a % n) ^ (e / 2) % n = a ^ (2 * (e / 2)) % n := by
        rw [← Nat.pow_mod, Nat.pow_mul]; congr 2; exact (Nat.pow_two a).symm
      by_cases h1 : e % 2 = 1
      · rw [if_pos h1, hsq, Nat.mod_mul_mod]
        have : (2 * (e / 2)).succ = e := by omega
        rw [← Nat.pow_succ, this]
      · rw [if_neg h1, hsq]
        have : 2 * (e / 2) = e := by omega
        rw [this]

/-- What shows, for a prime q that divides n - 1 = q * c, that each prime divisor of n is 1 more than a multiple of q. -/
structure Wit (n q : Nat) : Prop where
  irr : Irred q
  ex : ∃ a c, n = q * c + 1 ∧ a ^ (q * c) % n = 1 ∧ Nat.gcd (a ^ c % n + (n - 1)) n = 1

theorem pow_mod_one {a k r : Nat} (m : Nat) (h : a ^ k % r = 1 % r) : a ^ (k * m) % r = 1 % r := by
  rw [Nat.pow_mul, Nat.pow_mod, h, ← Nat.pow_mod, Nat.one_pow]


theorem pow_gcd_one {a r : Nat} (i : Nat) : ∀ j, a ^ i % r = 1 % r → a ^ j % r = 1 % r → a ^ Nat.gcd i j % r = 1 % r := by
  induction i using Nat.strongRecOn with
  | _ i ih =>
    intro j hi hj
    by_cases h0 : i = 0
    · subst h0; rw [Nat.gcd_zero_left]; exact hj
    · rw [Nat.gcd_rec]
      have hm : a ^ (j % i) % r = 1 % r := by
        have hd := Nat.div_add_mod j i
        have h1 := pow_mod_one (j / i) hi
        rw [← hd, Nat.pow_add, Nat.mul_mod, h1, ← Nat.mul_mod, Nat.one_mul] at hj
        exact hj
      exact ih (j % i) (Nat.mod_lt _ (by omega)) i hm hi

theorem wit_dvd {n q r : Nat} (h : Wit n q) (hr : Irred r) (hrn : r ∣ n) : q ∣ r - 1 := by
  obtain ⟨hq, a, c, hn, h1, hg⟩ := h
  have hr2 := hr.1
  have hn0 : 0 < n := by omega
  refine Classical.byContradiction fun hc => ?_
  have hco := irred_coprime hq hc
  have hb1 : (a ^ c) ^ q % r = 1 % r := by
    rw [← Nat.pow_mul, Nat.mul_comm c q]
    have : a ^ (q * c) % n % r = 1 % r := by rw [h1]
    rwa [Nat.mod_mod_of_dvd _ hrn] at this
  have hnd : ¬ r ∣ a ^ c := by
    intro hd
    obtain ⟨t, ht⟩ := hd
    have hq2 := hq.1
    obtain ⟨m, rfl⟩ : ∃ m, q = m + 1 := ⟨q - 1, by omega⟩
    rw [ht, Nat.mul_pow, Nat.pow_succ, Nat.mul_assoc, Nat.mul_comm (r ^ m), Nat.mul_assoc, Nat.mul_mod_right, Nat.mod_eq_of_lt (by omega)] at hb1
    omega
  have hb2 := fermat hr hnd
  have hb3 := pow_gcd_one q (r - 1) hb1 (by rw [hb2, Nat.mod_eq_of_lt (by omega)])
  rw [show Nat.gcd q (r - 1) = 1 from hco, Nat.pow_one] at hb3
  have hd : r ∣ a ^ c % n + (n - 1) := by
    refine Nat.dvd_of_mod_eq_zero ?_
    rw [Nat.add_mod, Nat.mod_mod_of_dvd _ hrn, hb3, ← Nat.add_mod, show 1 + (n - 1) = n from by omega]
    exact Nat.mod_eq_zero_of_dvd hrn
  have h1 := Nat.dvd_gcd hd hrn
  rw [hg] at h1
  have := Nat.le_of_dvd (by omega) h1
  omega

/-- POCKLINGTON: the primes qs are unlike, and the square of their product is past n. -/
theorem prod_dvd {n : Nat} : ∀ qs : List Nat, (∀ q ∈ qs, Irred q ∧ q ∣ n) → qs.Nodup → qs.foldr (· * ·) 1 ∣ n
  | [], _, _ => ⟨n, by simp⟩
  | q :: qs, h, hn => by
    simp only [List.foldr_cons]
    rw [List.nodup_cons] at hn
    refine Nat.Coprime.mul_dvd_of_dvd_of_dvd ?_ (h q (by simp)).2 (prod_dvd qs (fun x hx => h x (by simp [hx])) hn.2)
    have hq := (h q (by simp)).1
    have key : ∀ l : List Nat, (∀ x ∈ l, Irred x) → q ∉ l → Nat.Coprime q (l.foldr (· * ·) 1) := by
      intro l
      induction l with
      | nil => intro _ _; simp
      | cons x l ih =>
        intro hl hm
        simp only [List.foldr_cons]
        refine Nat.Coprime.mul_right (irred_coprime hq fun hd => ?_) (ih (fun y hy => hl y (by simp [hy])) (fun hy => hm (by simp [hy])))
        rcases (hl x (by simp)).2 q hd with h1 | h1
        · have := hq.1; omega
        · exact hm (by simp [h1])
    exact key qs (fun x hx => (h x (by simp [hx])).1) hn.1

theorem pock (n : Nat) (qs : List Nat) (h2 : 2 ≤ n) (hw : ∀ q ∈ qs, Wit n q) (hn : qs.Nodup) (hp : n < qs.foldr (· * ·) 1 * qs.foldr (· * ·) 1) : Irred n := by
  have big : ∀ r, Irred r → r ∣ n → n < r * r := by
    intro r hr hd
    have h1 := prod_dvd (n := r - 1) qs (fun q hq => ⟨(hw q hq).irr, wit_dvd (hw q hq) hr hd⟩) hn
    have hr2 := hr.1
    have h3 := Nat.le_of_dvd (by omega) h1
    have : qs.foldr (· * ·) 1 ≤ r := by omega
    exact Nat.lt_of_lt_of_le hp (Nat.mul_le_mul this this)
  refine ⟨h2, fun d hd => Classical.byContradiction fun hc => ?_⟩
  obtain ⟨e, he⟩ := hd
  have hd0 : d ≠ 0 := by rintro rfl; simp at he; omega
  have he0 : e ≠ 0 := by rintro rfl; simp at he; omega
  have hd1 : d ≠ 1 := fun h => hc (Or.inl h)
  have he1 : e ≠ 1 := fun h => hc (Or.inr (by rw [he, h, Nat.mul_one]))
  obtain ⟨r, hr, hrd⟩ := exists_irred d (by omega)
  obtain ⟨s, hs, hse⟩ := exists_irred e (by omega)
  have b1 := big r hr (he ▸ Nat.dvd_trans hrd ⟨e, rfl⟩)
  have b2 := big s hs (he ▸ Nat.dvd_trans hse ⟨d, Nat.mul_comm d e⟩)
  have l1 := Nat.le_of_dvd (by omega) hrd
  have l2 := Nat.le_of_dvd (by omega) hse
  have : r * s ≤ n := he ▸ Nat.mul_le_mul l1 l2
  rcases Nat.le_total r s with hrs | hrs
  · have := Nat.mul_le_mul_left r hrs; omega
  · have := Nat.mul_le_mul_right s hrs; omega

theorem wit_of (n q a c f : Nat) (hq : Irred q) (hn : n = q * c + 1) (hf : q * c < 2 ^ f)
    (h1 : pm n f a (q * c) = 1) (h2 : Nat.gcd (pm n f a c + (n - 1)) n = 1) (hc : c < 2 ^ f) : Wit n q :=
  ⟨hq, a, c, hn, by rw [← pm_eq n f a _ hf]; exact h1, by rw [← pm_eq n f a _ hc]; exact h2⟩

/-- No number from 2 to k divides n. -/
def noDiv (n : Nat) : Nat → Bool
  | 0 => true
  | k + 1 => (k + 1 == 1 || n % (k + 1) != 0) && noDiv n k

theorem noDiv_spec (n : Nat) : ∀ k, noDiv n k = true → ∀ d, 2 ≤ d → d ≤ k → ¬ d ∣ n
  | 0, _, d, h2, hk => by omega
  | k + 1, h, d, h2, hk => by
    simp only [noDiv, Bool.and_eq_true, Bool.or_eq_true, beq_iff_eq, bne_iff_ne] at h
    by_cases hd : d = k + 1
    · subst hd
      intro hdv
      have := Nat.mod_eq_zero_of_dvd hdv
      rcases h.1 with h1 | h1
      · omega
      · exact h1 this
    · exact noDiv_spec n k h.2 d h2 (by omega)

theorem irred_small (n k : Nat) (h2 : 2 ≤ n) (h : noDiv n k = true) (hk : n < (k + 1) * (k + 1)) : Irred n := by
  refine ⟨h2, fun d hd => Classical.byContradiction fun hc => ?_⟩
  obtain ⟨e, he⟩ := hd
  have hd0 : d ≠ 0 := by rintro rfl; simp at he; omega
  have he0 : e ≠ 0 := by rintro rfl; simp at he; omega
  have hd1 : d ≠ 1 := fun h => hc (Or.inl h)
  have he1 : e ≠ 1 := fun h => hc (Or.inr (by rw [he, h, Nat.mul_one]))
  have n1 : ¬ d ≤ k := fun hl => noDiv_spec n k h d (by omega) hl ⟨e, he⟩
  have n2 : ¬ e ≤ k := fun hl => noDiv_spec n k h e (by omega) hl ⟨d, by rw [he, Nat.mul_comm]⟩
  have := Nat.mul_le_mul (show k + 1 ≤ d by omega) (show k + 1 ≤ e by omega)
  omega

theorem irred_430751 : Irred 430751 := irred_small 430751 656 (by decide) (by decide +kernel) (by decide)
theorem irred_4153 : Irred 4153 := irred_small 4153 64 (by decide) (by decide +kernel) (by decide)
theorem irred_8574133 : Irred 8574133 := irred_small 8574133 2928 (by decide) (by decide +kernel) (by decide)
theorem irred_127 : Irred 127 := irred_small 127 11 (by decide) (by decide +kernel) (by decide)
theorem irred_569003 : Irred 569003 := irred_small 569003 754 (by decide) (by decide +kernel) (by decide)
theorem irred_q6 : Irred 2773320623 := by
  refine pock 2773320623 [569003] (by decide +kernel) ?_ (by decide +kernel) (by decide +kernel)
  intro q hq
  simp only [List.mem_cons, List.not_mem_nil, or_false] at hq
  subst hq
  exact wit_of 2773320623 569003 2 4874 33 irred_569003 (by decide +kernel) (by decide +kernel) (by decide +kernel) (by decide +kernel) (by decide +kernel)
theorem irred_q5 : Irred 72106336199 := by
  refine pock 72106336199 [2773320623] (by decide +kernel) ?_ (by decide +kernel) (by decide +kernel)
  intro q hq
  simp only [List.mem_cons, List.not_mem_nil, or_false] at hq
  subst hq
  exact wit_of 72106336199 2773320623 2 26 38 irred_q6 (by decide +kernel) (by decide +kernel) (by decide +kernel) (by decide +kernel) (by decide +kernel)
theorem irred_q4 : Irred 1919519569386763 := by
  refine pock 1919519569386763 [8574133, 127] (by decide +kernel) ?_ (by decide +kernel) (by decide +kernel)
  intro q hq
  simp only [List.mem_cons, List.not_mem_nil, or_false] at hq
  rcases hq with rfl | rfl
  · exact wit_of 1919519569386763 8574133 2 223873314 52 irred_8574133 (by decide +kernel) (by decide +kernel) (by decide +kernel) (by decide +kernel) (by decide +kernel)
  · exact wit_of 1919519569386763 127 2 15114327318006 52 irred_127 (by decide +kernel) (by decide +kernel) (by decide +kernel) (by decide +kernel) (by decide +kernel)
theorem irred_q3 : Irred 31757755568855353 := by
  refine pock 31757755568855353 [430751, 4153] (by decide +kernel) ?_ (by decide +kernel) (by decide +kernel)
  intro q hq
  simp only [List.mem_cons, List.not_mem_nil, or_false] at hq
  rcases hq with rfl | rfl
  · exact wit_of 31757755568855353 430751 2 73726481352 56 irred_430751 (by decide +kernel) (by decide +kernel) (by decide +kernel) (by decide +kernel) (by decide +kernel)
  · exact wit_of 31757755568855353 4153 2 7646943310584 56 irred_4153 (by decide +kernel) (by decide +kernel) (by decide +kernel) (by decide +kernel) (by decide +kernel)
theorem irred_q2 : Irred 75445702479781427272750846543864801 := by
  refine pock 75445702479781427272750846543864801 [1919519569386763, 72106336199] (by decide +kernel) ?_ (by decide +kernel) (by decide +kernel)
  intro q hq
  simp only [List.mem_cons, List.not_mem_nil, or_false] at hq
  rcases hq with rfl | rfl
  · exact wit_of 75445702479781427272750846543864801 1919519569386763 2 39304471641247389600 117 irred_q4 (by decide +kernel) (by decide +kernel) (by decide +kernel) (by decide +kernel) (by decide +kernel)
  · exact wit_of 75445702479781427272750846543864801 72106336199 2 1046311689884858398375200 117 irred_q5 (by decide +kernel) (by decide +kernel) (by decide +kernel) (by decide +kernel) (by decide +kernel)
theorem irred_q1 : Irred 74058212732561358302231226437062788676166966415465897661863160754340907 := by
  refine pock 74058212732561358302231226437062788676166966415465897661863160754340907 [75445702479781427272750846543864801, 31757755568855353] (by decide +kernel) ?_ (by decide +kernel) (by decide +kernel)
  intro q hq
  simp only [List.mem_cons, List.not_mem_nil, or_false] at hq
  rcases hq with rfl | rfl
  · exact wit_of 74058212732561358302231226437062788676166966415465897661863160754340907 75445702479781427272750846543864801 2 981609426360740691344999861639072106 237 irred_q2 (by decide +kernel) (by decide +kernel) (by decide +kernel) (by decide +kernel) (by decide +kernel)
  · exact wit_of 74058212732561358302231226437062788676166966415465897661863160754340907 31757755568855353 2 2331972502653487852620185443007392165117953542933313402 237 irred_q3 (by decide +kernel) (by decide +kernel) (by decide +kernel) (by decide +kernel) (by decide +kernel)
theorem irred_p : Irred 57896044618658097711785492504343953926634992332820282019728792003956564819949 := by
  refine pock 57896044618658097711785492504343953926634992332820282019728792003956564819949 [74058212732561358302231226437062788676166966415465897661863160754340907] (by decide +kernel) ?_ (by decide +kernel) (by decide +kernel)
  intro q hq
  simp only [List.mem_cons, List.not_mem_nil, or_false] at hq
  subst hq
  exact wit_of 57896044618658097711785492504343953926634992332820282019728792003956564819949 74058212732561358302231226437062788676166966415465897661863160754340907 2 781764 256 irred_q1 (by decide +kernel) (by decide +kernel) (by decide +kernel) (by decide +kernel) (by decide +kernel)

end Fardel

/-! The field of the numbers modulo 2^255 - 19, and the group of the twisted Edwards curve over it; no condition. -/
namespace Fardel

def P : Nat := 57896044618658097711785492504343953926634992332820282019728792003956564819949
theorem P_def : P = 57896044618658097711785492504343953926634992332820282019728792003956564819949 := rfl
theorem P_irred : Irred P := irred_p
instance : NeZero P := ⟨by decide +kernel⟩
theorem P_two : 2 < P := by decide +kernel
abbrev F := Fin P

theorem pow_val (x : F) : ∀ k : Nat, (x ^ k).val = x.val ^ k % P
  | 0 => by
    have : x ^ 0 = 1 := by grind
    rw [this, Nat.pow_zero]; rfl
  | k + 1 => by
    have : x ^ (k + 1) = x ^ k * x := by grind
    rw [this, Fin.val_mul, pow_val x k, Nat.mod_mul_mod, ← Nat.pow_succ]

/-- The inverse of 0 is 0. -/
def inv (x : F) : F := x ^ (P - 2)

theorem val_ne_zero {x : F} (h : x ≠ 0) : ¬ P ∣ x.val := fun hd => h (Fin.ext (Nat.eq_zero_of_dvd_of_lt hd x.isLt))

theorem one_val : (1 : F).val = 1 := Nat.mod_eq_of_lt (by decide +kernel)
theorem zero_val : (0 : F).val = 0 := rfl

theorem pow_p1 {x : F} (h : x ≠ 0) : x ^ (P - 1) = 1 := by
  apply Fin.ext
  rw [pow_val, fermat P_irred (val_ne_zero h), one_val]

theorem mul_inv {x : F} (h : x ≠ 0) : x * inv x = 1 := by
  have h1 := pow_p1 h
  have h2 : x ^ (P - 1) = x * x ^ (P - 2) := by
    rw [show P - 1 = (P - 2) + 1 from by have := P_two; omega]
    grind
  rw [← h1, h2]; rfl

theorem one_ne_zero : (1 : F) ≠ 0 := fun h => by have := congrArg Fin.val h; rw [one_val] at this; exact absurd this (by decide)

theorem mul_ne_zero {x y : F} (hx : x ≠ 0) (hy : y ≠ 0) : x * y ≠ 0 := fun h => by
  have h1 := mul_inv hx
  have h2 := mul_inv hy
  apply one_ne_zero
  have : (1 : F) = (x * y) * (inv x * inv y) := by grind
  rw [this, h]; grind

theorem mul_eq_zero {x y : F} (h : x * y = 0) : x = 0 ∨ y = 0 := by
  by_cases hx : x = 0
  · exact Or.inl hx
  · by_cases hy : y = 0
    · exact Or.inr hy
    · exact absurd h (mul_ne_zero hx hy)

theorem mul_cancel {x y z : F} (hz : z ≠ 0) (h : x * z = y * z) : x = y := by
  have h1 := mul_inv hz
  have : x = x * (z * inv z) := by rw [h1]; grind
  rw [this]
  have : y = y * (z * inv z) := by rw [h1]; grind
  rw [this]
  grind

theorem inv_zero : inv 0 = 0 := by
  apply Fin.ext
  rw [inv, pow_val, zero_val, Nat.zero_pow (by have := P_two; omega)]; rfl

theorem inv_one : inv 1 = 1 := by
  have := mul_inv one_ne_zero
  grind

theorem inv_ne_zero {x : F} (h : x ≠ 0) : inv x ≠ 0 := fun hc => by
  have := mul_inv h
  rw [hc] at this
  exact one_ne_zero (by grind)

theorem inv_eq {x y : F} (h : x * y = 1) : inv x = y := by
  have hx : x ≠ 0 := fun hc => one_ne_zero (by rw [← h, hc]; grind)
  have := mul_inv hx
  exact mul_cancel hx (by grind)

/-- The curve's number. -/
def d : F := Fin.ofNat P 37095705934669439343138083508754565189542113879843219016388785533085940283555
def i : F := Fin.ofNat P 19681161376707505956807079304988542015446066515923890162744021073123829784752

theorem d_def : d * 121666 = -121665 := by decide +kernel
theorem i_sq : i * i = -1 := by decide +kernel
theorem two_ne_zero : (2 : F) ≠ 0 := by decide +kernel

/-- d is no square. -/
theorem pm_pow (x : F) (e : Nat) (h : e < 2 ^ 256) : (x ^ e).val = pm P 256 x.val e := by
  rw [pow_val, pm_eq P 256 x.val e h]

theorem d_pow : d ^ ((P - 1) / 2) = -1 := by
  apply Fin.ext
  rw [pm_pow _ _ (by decide +kernel)]
  decide +kernel

theorem d_nonsq (s : F) : s * s ≠ d := fun h => by
  have h1 : d ^ ((P - 1) / 2) = s ^ (P - 1) := by
    have hk : P - 1 = 2 * ((P - 1) / 2) := by decide +kernel
    rw [← h]
    generalize (P - 1) / 2 = k at hk
    rw [hk]
    apply Fin.ext
    rw [pow_val, pow_val, Nat.pow_mul, Fin.val_mul, ← Nat.pow_mod, Nat.pow_two]
  by_cases hs : s = 0
  · subst hs
    have : d = 0 := by rw [← h]; grind
    exact absurd this (by decide +kernel)
  · rw [pow_p1 hs, d_pow] at h1
    exact absurd h1 (by decide +kernel)

theorem d_nonsq2 {s t : F} (ht : t ≠ 0) (h : s * s = d * (t * t)) : False := by
  have h1 := mul_inv ht
  refine d_nonsq (s * inv t) ?_
  have : s * inv t * (s * inv t) = (s * s) * (inv t * inv t) := by grind
  rw [this, h]
  have : d * (t * t) * (inv t * inv t) = d * ((t * inv t) * (t * inv t)) := by grind
  rw [this, h1]; grind

def On (x y : F) : Prop := y * y - x * x = 1 + d * (x * x * (y * y))

theorem complete {x1 y1 x2 y2 e : F} (h1 : On x1 y1) (h2 : On x2 y2) (he : e * e = 1) (h : d * (x1 * x2 * (y1 * y2)) = e) : False := by
  unfold On at h1 h2
  have hi := i_sq
  have hx : x1 * y1 ≠ 0 := fun hc => by
    have : e = 0 := by rw [← h, show x1 * x2 * (y1 * y2) = (x1 * y1) * (x2 * y2) from by grind, hc]; grind
    rw [this] at he
    exact one_ne_zero (by rw [← he]; grind)
  have hx2 : x2 * y2 ≠ 0 := fun hc => by
    have : e = 0 := by rw [← h, show x1 * x2 * (y1 * y2) = (x1 * y1) * (x2 * y2) from by grind, hc]; grind
    rw [this] at he
    exact one_ne_zero (by rw [← he]; grind)
  -- with u = i x: (u1 + f y1)^2 = -d u1^2 y1^2 (u2 + y2)^2 where f = -e
  have k1 : (i * x1 + e * y1) * (i * x1 + e * y1) = d * ((x1 * y1 * (i * x2 + y2)) * (x1 * y1 * (i * x2 + y2))) := by
    generalize d = d at *
    generalize i = i at *
    clear hx hx2
    grobner
  have k2 : (i * x1 - e * y1) * (i * x1 - e * y1) = d * ((x1 * y1 * (i * x2 - y2)) * (x1 * y1 * (i * x2 - y2))) := by
    generalize d = d at *
    generalize i = i at *
    clear hx hx2
    grobner
  by_cases c1 : i * x2 + y2 = 0
  · by_cases c2 : i * x2 - y2 = 0
    · have : (2 : F) * y2 = 0 := by grind
      rcases mul_eq_zero this with h | h
      · exact two_ne_zero h
      · exact hx2 (by rw [h]; grind)
    · exact d_nonsq2 (mul_ne_zero hx c2) k2
  · exact d_nonsq2 (mul_ne_zero hx c1) k1

end Fardel

/-! The points of the curve are a group; coordinates through z; multiples; the base point's order. No condition. -/
namespace Fardel

theorem dp_ne {x1 y1 x2 y2 : F} (h1 : On x1 y1) (h2 : On x2 y2) : 1 + d * (x1 * x2 * (y1 * y2)) ≠ 0 := fun h =>
  complete (e := -1) h1 h2 (by grobner) (by generalize d = d at *; grobner)
theorem dm_ne {x1 y1 x2 y2 : F} (h1 : On x1 y1) (h2 : On x2 y2) : 1 - d * (x1 * x2 * (y1 * y2)) ≠ 0 := fun h =>
  complete (e := 1) h1 h2 (by grobner) (by generalize d = d at *; grobner)

def sx (x1 y1 x2 y2 : F) : F := (x1 * y2 + y1 * x2) * inv (1 + d * (x1 * x2 * (y1 * y2)))
def sy (x1 y1 x2 y2 : F) : F := (y1 * y2 + x1 * x2) * inv (1 - d * (x1 * x2 * (y1 * y2)))

theorem on_aux {N M A B u v d : F} (hA : A * u = 1) (hB : B * v = 1) (hK : M * M * (A * A) - N * N * (B * B) = A * A * (B * B) + d * (N * N * (M * M))) :
    M * v * (M * v) - N * u * (N * u) = 1 + d * (N * u * (N * u) * (M * v * (M * v))) := by
  have e1 : M * v * (M * v) = (u * u * (v * v)) * (M * M * (A * A)) := by grobner
  have e2 : N * u * (N * u) = (u * u * (v * v)) * (N * N * (B * B)) := by grobner
  have e3 : (1 : F) = (u * u * (v * v)) * (A * A * (B * B)) := by grobner
  have e4 : N * u * (N * u) * (M * v * (M * v)) = (u * u * (v * v)) * (N * N * (M * M)) := by grobner
  rw [e4, e1, e2]
  generalize u * u * (v * v) = t at *
  grobner

theorem on_add {x1 y1 x2 y2 : F} (h1 : On x1 y1) (h2 : On x2 y2) : On (sx x1 y1 x2 y2) (sy x1 y1 x2 y2) := by
  have hA := mul_inv (dp_ne h1 h2)
  have hB := mul_inv (dm_ne h1 h2)
  refine on_aux hA hB ?_
  unfold On at h1 h2
  clear hA hB
  generalize d = d at *
  grobner

structure Pt where
  x : F
  y : F
  on : On x y

theorem Pt.ext' {p q : Pt} (hx : p.x = q.x) (hy : p.y = q.y) : p = q := by
  cases p; cases q; simp only at hx hy; subst hx; subst hy; rfl

def Pt.add (p q : Pt) : Pt := ⟨sx p.x p.y q.x q.y, sy p.x p.y q.x q.y, on_add p.on q.on⟩
def Pt.zero : Pt := ⟨0, 1, by unfold On; generalize d = d; grobner⟩
def Pt.neg (p : Pt) : Pt := ⟨-p.x, p.y, by have := p.on; unfold On at *; generalize d = d at *; grobner⟩

theorem Pt.add_comm (p q : Pt) : p.add q = q.add p := by
  apply Pt.ext'
  · show sx _ _ _ _ = sx _ _ _ _
    unfold sx
    rw [show p.x * q.x * (p.y * q.y) = q.x * p.x * (q.y * p.y) from by grobner]
    generalize inv _ = u
    grobner
  · show sy _ _ _ _ = sy _ _ _ _
    unfold sy
    rw [show p.x * q.x * (p.y * q.y) = q.x * p.x * (q.y * p.y) from by grobner]
    generalize inv _ = u
    grobner

theorem z1 {a b e : F} : 1 + e * (a * 0 * (b * 1)) = 1 := by
  have : e * (a * 0 * (b * 1)) = 0 := by grobner
  rw [this]
  exact Fin.add_zero 1
theorem z2 {a b e : F} : 1 - e * (a * 0 * (b * 1)) = 1 := by
  have : e * (a * 0 * (b * 1)) = 0 := by grobner
  rw [this]
  decide +kernel

theorem Pt.add_zero (p : Pt) : p.add .zero = p := by
  apply Pt.ext'
  · show sx _ _ 0 1 = _
    unfold sx
    rw [z1, inv_one]
    grobner
  · show sy _ _ 0 1 = _
    unfold sy
    rw [z2, inv_one]
    grobner

theorem Pt.add_neg (p : Pt) : p.add p.neg = .zero := by
  have h := p.on
  apply Pt.ext'
  · show sx _ _ (-p.x) p.y = 0
    unfold sx
    generalize inv _ = u
    grobner
  · show sy _ _ (-p.x) p.y = 1
    have hn := mul_inv (dm_ne p.on p.neg.on)
    unfold sy
    unfold On at h
    have e : p.y * p.y + p.x * -p.x = 1 - d * (p.x * -p.x * (p.y * p.y)) := by generalize d = d at *; clear hn; grobner
    rw [e]
    exact hn

theorem assoc_x {x1 y1 x2 y2 x3 y3 d : F} (h1 : y1 * y1 - x1 * x1 = 1 + d * (x1 * x1 * (y1 * y1))) (h2 : y2 * y2 - x2 * x2 = 1 + d * (x2 * x2 * (y2 * y2)))
    (h3 : y3 * y3 - x3 * x3 = 1 + d * (x3 * x3 * (y3 * y3))) (N M A B N' M' A' B' : F)
    (eN : N = x1 * y2 + y1 * x2) (eM : M = y1 * y2 + x1 * x2) (eA : A = 1 + d * (x1 * x2 * (y1 * y2))) (eB : B = 1 - d * (x1 * x2 * (y1 * y2)))
    (eN' : N' = x2 * y3 + y2 * x3) (eM' : M' = y2 * y3 + x2 * x3) (eA' : A' = 1 + d * (x2 * x3 * (y2 * y3))) (eB' : B' = 1 - d * (x2 * x3 * (y2 * y3))) :
    (N * B * y3 + M * A * x3) * (A' * B' + d * (x1 * N' * (y1 * M'))) = (x1 * (M' * A') + y1 * (N' * B')) * (A * B + d * (N * x3 * (M * y3))) := by
  subst eN eM eA eB eN' eM' eA' eB'
  grobner

theorem assoc_y {x1 y1 x2 y2 x3 y3 d : F} (h1 : y1 * y1 - x1 * x1 = 1 + d * (x1 * x1 * (y1 * y1))) (h2 : y2 * y2 - x2 * x2 = 1 + d * (x2 * x2 * (y2 * y2)))
    (h3 : y3 * y3 - x3 * x3 = 1 + d * (x3 * x3 * (y3 * y3))) (N M A B N' M' A' B' : F)
    (eN : N = x1 * y2 + y1 * x2) (eM : M = y1 * y2 + x1 * x2) (eA : A = 1 + d * (x1 * x2 * (y1 * y2))) (eB : B = 1 - d * (x1 * x2 * (y1 * y2)))
    (eN' : N' = x2 * y3 + y2 * x3) (eM' : M' = y2 * y3 + x2 * x3) (eA' : A' = 1 + d * (x2 * x3 * (y2 * y3))) (eB' : B' = 1 - d * (x2 * x3 * (y2 * y3))) :
    (M * A * y3 + N * B * x3) * (A' * B' - d * (x1 * N' * (y1 * M'))) = (y1 * (M' * A') + x1 * (N' * B')) * (A * B - d * (N * x3 * (M * y3))) := by
  subst eN eM eA eB eN' eM' eA' eB'
  grobner

theorem cross {a b w w' : F} (hw : w ≠ 0) (hw' : w' ≠ 0) (h : a * w' = b * w) : a * inv w = b * inv w' := by
  have h1 := mul_inv hw
  have h2 := mul_inv hw'
  generalize inv w = u at *
  generalize inv w' = u' at *
  have : a * u = (a * w') * (u * u') := by grobner
  rw [this, h]
  grobner

theorem cross_x {x1 y1 x3 y3 d N M A B N' M' A' B' u v u' v' : F} (hA : A * u = 1) (hB : B * v = 1) (hA' : A' * u' = 1) (hB' : B' * v' = 1)
    (h : (N * B * y3 + M * A * x3) * (A' * B' + d * (x1 * N' * (y1 * M'))) = (x1 * (M' * A') + y1 * (N' * B')) * (A * B + d * (N * x3 * (M * y3)))) :
    (N * u * y3 + M * v * x3) * (1 + d * (x1 * (N' * u') * (y1 * (M' * v')))) = (x1 * (M' * v') + y1 * (N' * u')) * (1 + d * (N * u * x3 * (M * v * y3))) := by
  have e1 : N * u * y3 + M * v * x3 = u * v * (N * B * y3 + M * A * x3) := by clear h; grobner
  have e2 : 1 + d * (x1 * (N' * u') * (y1 * (M' * v'))) = u' * v' * (A' * B' + d * (x1 * N' * (y1 * M'))) := by clear h; grobner
  have e3 : x1 * (M' * v') + y1 * (N' * u') = u' * v' * (x1 * (M' * A') + y1 * (N' * B')) := by clear h; grobner
  have e4 : 1 + d * (N * u * x3 * (M * v * y3)) = u * v * (A * B + d * (N * x3 * (M * y3))) := by clear h; grobner
  rw [e1, e2, e3, e4]
  generalize N * B * y3 + M * A * x3 = a at *
  generalize A' * B' + d * (x1 * N' * (y1 * M')) = b at *
  generalize x1 * (M' * A') + y1 * (N' * B') = c at *
  generalize A * B + d * (N * x3 * (M * y3)) = e at *
  clear e1 e2 e3 e4 hA hB hA' hB'
  grobner

theorem cross_y {x1 y1 x3 y3 d N M A B N' M' A' B' u v u' v' : F} (hA : A * u = 1) (hB : B * v = 1) (hA' : A' * u' = 1) (hB' : B' * v' = 1)
    (h : (M * A * y3 + N * B * x3) * (A' * B' - d * (x1 * N' * (y1 * M'))) = (y1 * (M' * A') + x1 * (N' * B')) * (A * B - d * (N * x3 * (M * y3)))) :
    (M * v * y3 + N * u * x3) * (1 - d * (x1 * (N' * u') * (y1 * (M' * v')))) = (y1 * (M' * v') + x1 * (N' * u')) * (1 - d * (N * u * x3 * (M * v * y3))) := by
  have e1 : M * v * y3 + N * u * x3 = u * v * (M * A * y3 + N * B * x3) := by clear h; grobner
  have e2 : 1 - d * (x1 * (N' * u') * (y1 * (M' * v'))) = u' * v' * (A' * B' - d * (x1 * N' * (y1 * M'))) := by clear h; grobner
  have e3 : y1 * (M' * v') + x1 * (N' * u') = u' * v' * (y1 * (M' * A') + x1 * (N' * B')) := by clear h; grobner
  have e4 : 1 - d * (N * u * x3 * (M * v * y3)) = u * v * (A * B - d * (N * x3 * (M * y3))) := by clear h; grobner
  rw [e1, e2, e3, e4]
  generalize M * A * y3 + N * B * x3 = a at *
  generalize A' * B' - d * (x1 * N' * (y1 * M')) = b at *
  generalize y1 * (M' * A') + x1 * (N' * B') = c at *
  generalize A * B - d * (N * x3 * (M * y3)) = e at *
  clear e1 e2 e3 e4 hA hB hA' hB'
  grobner

theorem Pt.add_assoc (p q r : Pt) : (p.add q).add r = p.add (q.add r) := by
  have hA := mul_inv (dp_ne p.on q.on)
  have hB := mul_inv (dm_ne p.on q.on)
  have hA' := mul_inv (dp_ne q.on r.on)
  have hB' := mul_inv (dm_ne q.on r.on)
  apply Pt.ext'
  · show sx (sx p.x p.y q.x q.y) (sy p.x p.y q.x q.y) r.x r.y = sx p.x p.y (sx q.x q.y r.x r.y) (sy q.x q.y r.x r.y)
    refine cross (dp_ne (p.add q).on r.on) (dp_ne p.on (q.add r).on) ?_
    exact cross_x hA hB hA' hB' (assoc_x p.on q.on r.on _ _ _ _ _ _ _ _ rfl rfl rfl rfl rfl rfl rfl rfl)
  · show sy (sx p.x p.y q.x q.y) (sy p.x p.y q.x q.y) r.x r.y = sy p.x p.y (sx q.x q.y r.x r.y) (sy q.x q.y r.x r.y)
    refine cross (dm_ne (p.add q).on r.on) (dm_ne p.on (q.add r).on) ?_
    exact cross_y hA hB hA' hB' (assoc_y p.on q.on r.on _ _ _ _ _ _ _ _ rfl rfl rfl rfl rfl rfl rfl rfl)

end Fardel

/-! Multiples of points, coordinates through z, the base point and its order, square roots; no condition. -/
namespace Fardel

theorem Pt.zero_add (p : Pt) : Pt.zero.add p = p := by rw [Pt.add_comm, Pt.add_zero]

def Pt.smul : Nat → Pt → Pt
  | 0, _ => .zero
  | k + 1, p => (smul k p).add p

theorem smul_zero (p : Pt) : p.smul 0 = .zero := rfl
theorem smul_succ (k : Nat) (p : Pt) : p.smul (k + 1) = (p.smul k).add p := rfl
theorem smul_one (p : Pt) : p.smul 1 = p := Pt.zero_add p
theorem smul_add (a : Nat) (p : Pt) : ∀ b, p.smul (a + b) = (p.smul a).add (p.smul b)
  | 0 => (Pt.add_zero _).symm
  | b + 1 => by rw [← Nat.add_assoc, smul_succ, smul_add a p b, smul_succ, Pt.add_assoc]
theorem smul_mul (a : Nat) (p : Pt) : ∀ b, p.smul (a * b) = (p.smul a).smul b
  | 0 => rfl
  | b + 1 => by rw [Nat.mul_succ, smul_add, smul_mul a p b, smul_succ]
theorem add4 (a b c e : Pt) : (a.add b).add (c.add e) = (a.add c).add (b.add e) := by
  rw [Pt.add_assoc, Pt.add_assoc, ← Pt.add_assoc b c e, Pt.add_comm b c, Pt.add_assoc c b e]
theorem smul_dist (p q : Pt) (k : Nat) : (p.add q).smul k = (p.smul k).add (q.smul k) := by
  induction k with
  | zero => rw [smul_zero, smul_zero, smul_zero, Pt.add_zero]
  | succ k ih =>
    have h := add4 (p.smul k) (q.smul k) p q
    rw [smul_succ k (p.add q), ih]
    exact h
theorem zero_smul : ∀ k, Pt.zero.smul k = .zero
  | 0 => rfl
  | k + 1 => by rw [smul_succ, zero_smul k, Pt.add_zero]
theorem smul_two (p : Pt) : p.smul 2 = p.add p := by rw [smul_succ, smul_one]
theorem smul_mod {p : Pt} {l : Nat} (h : p.smul l = .zero) (k : Nat) : p.smul (k % l) = p.smul k := by
  have e : p.smul k = p.smul (l * (k / l) + k % l) := by rw [Nat.div_add_mod]
  rw [e, smul_add, smul_mul, h, zero_smul, Pt.zero_add]
theorem add_left_cancel {p q r : Pt} (h : p.add q = p.add r) : q = r := by
  have := congrArg (Pt.add p.neg) h
  rwa [← Pt.add_assoc, ← Pt.add_assoc, Pt.add_comm p.neg p, Pt.add_neg, Pt.zero_add, Pt.zero_add] at this

/-- Coordinates through z, with t. -/
structure Ext (x y z t : F) (p : Pt) : Prop where
  z0 : z ≠ 0
  hx : x = p.x * z
  hy : y = p.y * z
  ht : t = p.x * p.y * z

theorem ext_zero : Ext 0 1 1 0 .zero := ⟨one_ne_zero, by show (0 : F) = 0 * 1; grobner, by show (1 : F) = 1 * 1; grobner, by show (0 : F) = 0 * 1 * 1; grobner⟩
theorem ext_of (p : Pt) : Ext p.x p.y 1 (p.x * p.y) p := ⟨one_ne_zero, by grobner, by grobner, by grobner⟩
theorem ext_neg {x y z t : F} {p : Pt} (h : Ext x y z t p) : Ext (-x) y z (-t) p.neg := by
  obtain ⟨h0, rfl, rfl, rfl⟩ := h
  exact ⟨h0, by show _ = -p.x * z; grobner, rfl, by show _ = -p.x * p.y * z; grobner⟩

theorem ext_places {x y z t : F} {p : Pt} (h : Ext x y z t p) : x * inv z = p.x ∧ y * inv z = p.y := by
  obtain ⟨h0, rfl, rfl, rfl⟩ := h
  have := mul_inv h0
  generalize inv z = u at *
  exact ⟨by grobner, by grobner⟩

theorem ext_same {x y z t x' y' z' t' : F} {p q : Pt} (h : Ext x y z t p) (h' : Ext x' y' z' t' q) :
    (x * z' = x' * z ∧ y * z' = y' * z) ↔ p = q := by
  obtain ⟨h0, rfl, rfl, rfl⟩ := h
  obtain ⟨h0', rfl, rfl, rfl⟩ := h'
  constructor
  · rintro ⟨h1, h2⟩
    have hz := mul_ne_zero h0 h0'
    exact Pt.ext' (mul_cancel hz (by grobner)) (mul_cancel hz (by grobner))
  · rintro rfl
    exact ⟨by grobner, by grobner⟩

theorem ext_add {x y z t x' y' z' t' : F} {p q : Pt} (h : Ext x y z t p) (h' : Ext x' y' z' t' q)
    {a b c zz e f g k : F} (ea : a = (y - x) * (y' - x')) (eb : b = (y + x) * (y' + x')) (ec : c = t * t' * (d + d)) (ez : zz = z * z' + z * z')
    (ee : e = b - a) (ef : f = zz - c) (eg : g = zz + c) (ek : k = b + a) :
    Ext (e * f) (g * k) (f * g) (e * k) (p.add q) := by
  obtain ⟨h0, rfl, rfl, rfl⟩ := h
  obtain ⟨h0', rfl, rfl, rfl⟩ := h'
  have hA := dp_ne p.on q.on
  have hB := dm_ne p.on q.on
  have hz := mul_ne_zero h0 h0'
  have h2 := mul_ne_zero two_ne_zero hz
  have iA := mul_inv hA
  have iB := mul_inv hB
  have efv : f = 2 * (z * z') * (1 - d * (p.x * q.x * (p.y * q.y))) := by subst ef ez ec; clear iA iB; generalize d = d at *; grobner
  have egv : g = 2 * (z * z') * (1 + d * (p.x * q.x * (p.y * q.y))) := by subst eg ez ec; clear iA iB; generalize d = d at *; grobner
  have eev : e = 2 * (z * z') * (p.x * q.y + p.y * q.x) := by subst ee eb ea; clear iA iB; grobner
  have ekv : k = 2 * (z * z') * (p.y * q.y + p.x * q.x) := by subst ek eb ea; clear iA iB; grobner
  clear ea eb ec ez ee ef eg ek
  have ex : (p.add q).x = (p.x * q.y + p.y * q.x) * inv (1 + d * (p.x * q.x * (p.y * q.y))) := rfl
  have ey : (p.add q).y = (p.y * q.y + p.x * q.x) * inv (1 - d * (p.x * q.x * (p.y * q.y))) := rfl
  generalize inv (1 + d * (p.x * q.x * (p.y * q.y))) = u at *
  generalize inv (1 - d * (p.x * q.x * (p.y * q.y))) = v at *
  generalize 1 + d * (p.x * q.x * (p.y * q.y)) = A at *
  generalize 1 - d * (p.x * q.x * (p.y * q.y)) = B at *
  generalize p.x * q.y + p.y * q.x = N at *
  generalize p.y * q.y + p.x * q.x = M at *
  generalize 2 * (z * z') = w at *
  refine ⟨?_, ?_, ?_, ?_⟩
  · rw [efv, egv]; exact mul_ne_zero (mul_ne_zero h2 hB) (mul_ne_zero h2 hA)
  · rw [ex, efv, egv, eev]; grobner
  · rw [ey, efv, egv, ekv]; grobner
  · rw [ex, ey, efv, egv, eev, ekv]; grobner

theorem ext_dbl {x y z t : F} {p : Pt} (h : Ext x y z t p) {a b c k e g f : F} (ea : a = x * x) (eb : b = y * y) (ec : c = z * z) (ek : k = a + b)
    (ee : e = k - (x + y) * (x + y)) (eg : g = a - b) (ef : f = c + c + g) : Ext (e * f) (g * k) (f * g) (e * k) (p.add p) := by
  obtain ⟨h0, rfl, rfl, rfl⟩ := h
  have hA := dp_ne p.on p.on
  have hB := dm_ne p.on p.on
  have hon := p.on
  unfold On at hon
  have hz := mul_ne_zero h0 h0
  have iA := mul_inv hA
  have iB := mul_inv hB
  have egv : g = -(z * z) * (1 + d * (p.x * p.x * (p.y * p.y))) := by subst eg ea eb; clear iA iB; generalize d = d at *; grobner
  have efv : f = (z * z) * (1 - d * (p.x * p.x * (p.y * p.y))) := by rw [ef, egv, ec]; clear iA iB; generalize d = d at *; grobner
  have ekv : k = (z * z) * (p.y * p.y + p.x * p.x) := by subst ek ea eb; clear iA iB; grobner
  have eev : e = -(z * z) * (p.x * p.y + p.y * p.x) := by rw [ee, ekv]; clear iA iB; grobner
  clear ea eb ec ek ee eg ef hon
  have ex : (p.add p).x = (p.x * p.y + p.y * p.x) * inv (1 + d * (p.x * p.x * (p.y * p.y))) := rfl
  have ey : (p.add p).y = (p.y * p.y + p.x * p.x) * inv (1 - d * (p.x * p.x * (p.y * p.y))) := rfl
  generalize inv (1 + d * (p.x * p.x * (p.y * p.y))) = u at *
  generalize inv (1 - d * (p.x * p.x * (p.y * p.y))) = v at *
  generalize 1 + d * (p.x * p.x * (p.y * p.y)) = A at *
  generalize 1 - d * (p.x * p.x * (p.y * p.y)) = B at *
  generalize p.x * p.y + p.y * p.x = N at *
  generalize p.y * p.y + p.x * p.x = M at *
  have hn : -(z * z) ≠ 0 := fun hc => hz (by grobner)
  generalize z * z = w at *
  refine ⟨?_, ?_, ?_, ?_⟩
  · rw [efv, egv]; exact mul_ne_zero (mul_ne_zero hz hB) (mul_ne_zero hn hA)
  · rw [ex, efv, egv, eev]; grobner
  · rw [ey, efv, egv, ekv]; grobner
  · rw [ex, ey, efv, egv, eev, ekv]; grobner

def bx : F := Fin.ofNat P 15112221349535400772501151409588531511454012693041857206046113283949847762202
def by' : F := Fin.ofNat P 46316835694926478169428394003475163141307993866256225615783033603165251855960
def Pt.base : Pt := ⟨bx, by', by unfold On; decide +kernel⟩

/-- Four coordinates. -/
structure Q4 where
  x : F
  y : F
  z : F
  t : F

def Q4.add (p q : Q4) : Q4 :=
  let a := (p.y - p.x) * (q.y - q.x)
  let b := (p.y + p.x) * (q.y + q.x)
  let c := p.t * q.t * (d + d)
  let zz := p.z * q.z + p.z * q.z
  let e := b - a
  let f := zz - c
  let g := zz + c
  let k := b + a
  ⟨e * f, g * k, f * g, e * k⟩

def Q4.is (q : Q4) (p : Pt) : Prop := Ext q.x q.y q.z q.t p

theorem Q4.is_add {a b : Q4} {p q : Pt} (h : a.is p) (h' : b.is q) : (a.add b).is (p.add q) :=
  ext_add h h' rfl rfl rfl rfl rfl rfl rfl rfl

def Q4.go : Nat → Nat → Q4 → Q4 → Q4
  | 0, _, _, r => r
  | f + 1, k, q, r => Q4.go f (k / 2) (q.add q) (if k % 2 = 1 then r.add q else r)

theorem Q4.is_go : ∀ (f k : Nat) (q r : Q4) (p s : Pt), k < 2 ^ f → q.is p → r.is s → (Q4.go f k q r).is (s.add (p.smul k))
  | 0, k, q, r, p, s, hk, _, hr => by
    have : k = 0 := by simpa using hk
    subst this
    rw [smul_zero, Pt.add_zero]; exact hr
  | f + 1, k, q, r, p, s, hk, hq, hr => by
    have ih := fun r s hr => Q4.is_go f (k / 2) (q.add q) r (p.add p) s (by rw [Nat.pow_succ] at hk; omega) (Q4.is_add hq hq) hr
    have e : (p.add p).smul (k / 2) = p.smul (2 * (k / 2)) := by rw [smul_mul, smul_two]
    rw [Q4.go]
    by_cases h1 : k % 2 = 1
    · rw [if_pos h1]
      have := ih (r.add q) (s.add p) (Q4.is_add hr hq)
      rw [e, Pt.add_assoc] at this
      rw [show k = 1 + 2 * (k / 2) from by omega, smul_add, smul_one, show (1 + 2 * (k / 2)) / 2 = k / 2 from by omega]
      exact this
    · rw [if_neg h1]
      have := ih r s hr
      rw [e, show 2 * (k / 2) = k from by omega] at this
      exact this

def L : Nat := 7237005577332262213973186563042994240857116359379907606001950938285454250989
theorem L_def : L = 7237005577332262213973186563042994240857116359379907606001950938285454250989 := rfl

theorem order_run : let q := Q4.go 253 L ⟨bx, by', 1, bx * by'⟩ ⟨0, 1, 1, 0⟩; q.x = 0 ∧ q.y = q.z := by decide +kernel

theorem base_order : Pt.base.smul L = .zero := by
  have h := Q4.is_go 253 L ⟨bx, by', 1, bx * by'⟩ ⟨0, 1, 1, 0⟩ .base .zero (by decide +kernel) (ext_of .base) ext_zero
  rw [Pt.zero_add] at h
  have hr := order_run
  simp only at hr
  generalize Q4.go 253 L ⟨bx, by', 1, bx * by'⟩ ⟨0, 1, 1, 0⟩ = q at *
  have := (ext_same h ext_zero).1 ⟨by rw [hr.1]; grobner, by rw [hr.2]; grobner⟩
  exact this

end Fardel

/-! What five limbs of 51 bits say of a number of the field, and what the program's first steps on them come to. No condition. -/
namespace Fardel
open Go

def toF (n : Int) : F := ⟨(n % (P : Int)).toNat, by
  have hp : (0 : Int) < (P : Int) := by have := P_two; omega
  have h1 := Int.emod_nonneg n (Int.ne_of_gt hp)
  have h2 := Int.emod_lt_of_pos n hp
  omega⟩

theorem toF_val (n : Int) : ((toF n).val : Int) = n % (P : Int) := by
  have hp : (0 : Int) < (P : Int) := by have := P_two; omega
  have h1 := Int.emod_nonneg n (Int.ne_of_gt hp)
  show (((n % (P : Int)).toNat : Nat) : Int) = _
  omega

theorem F_ext {x y : F} (h : (x.val : Int) = (y.val : Int)) : x = y := Fin.ext (by omega)

theorem toF_add (a b : Int) : toF (a + b) = toF a + toF b := F_ext (by
  rw [toF_val, Fin.val_add]
  push_cast
  rw [toF_val, toF_val, ← Int.add_emod])
theorem toF_mul (a b : Int) : toF (a * b) = toF a * toF b := F_ext (by
  rw [toF_val, Fin.val_mul]
  push_cast
  rw [toF_val, toF_val, ← Int.mul_emod])
theorem toF_nat (x : F) : toF (x.val : Int) = x := F_ext (by
  rw [toF_val]
  exact Int.emod_eq_of_lt (by omega) (by have := x.isLt; omega))
theorem toF_eq {a b : Int} (k : Int) (h : a = b + (P : Int) * k) : toF a = toF b := F_ext (by
  rw [toF_val, toF_val, h, Int.add_mul_emod_self_left])
theorem toF_zero : toF 0 = 0 := rfl
theorem toF_neg (a : Int) : toF (-a) = -toF a := by
  have h : toF (a + -a) = toF a + toF (-a) := toF_add a (-a)
  rw [Int.add_right_neg, toF_zero] at h
  grobner
theorem toF_sub (a b : Int) : toF (a - b) = toF a - toF b := by
  rw [Int.sub_eq_add_neg, toF_add, toF_neg]
  grobner
theorem toF_inj {a b : Int} (ha : 0 ≤ a) (ha' : a < (P : Int)) (hb : 0 ≤ b) (hb' : b < (P : Int)) (h : toF a = toF b) : a = b := by
  have := congrArg (fun x : F => (x.val : Int)) h
  simp only [toF_val] at this
  rwa [Int.emod_eq_of_lt ha ha', Int.emod_eq_of_lt hb hb'] at this

/-- Five limbs. -/
structure Fe where
  l0 : Int
  l1 : Int
  l2 : Int
  l3 : Int
  l4 : Int

abbrev feA (x : Fe) : Array Value := #[.int .u64 x.l0, .int .u64 x.l1, .int .u64 x.l2, .int .u64 x.l3, .int .u64 x.l4]
abbrev feV (x : Fe) : Value := .agg #[.int .u64 x.l0, .int .u64 x.l1, .int .u64 x.l2, .int .u64 x.l3, .int .u64 x.l4]

def Fe.sum (x : Fe) : Int := x.l0 + 2251799813685248 * x.l1 + 5070602400912917605986812821504 * x.l2 + 11417981541647679048466287755595961091061972992 * x.l3 + 25711008708143844408671393477458601640355247900524685364822016 * x.l4

/-- Each limb is below a bound. -/
structure Fe.lt (x : Fe) (B : Int) : Prop where
  a0 : 0 ≤ x.l0
  b0 : x.l0 < B
  a1 : 0 ≤ x.l1
  b1 : x.l1 < B
  a2 : 0 ≤ x.l2
  b2 : x.l2 < B
  a3 : 0 ≤ x.l3
  b3 : x.l3 < B
  a4 : 0 ≤ x.l4
  b4 : x.l4 < B

/-- The limbs, each below 2^52, are this number of the field. -/
structure Fe.is (x : Fe) (v : F) : Prop where
  lt : x.lt 4503599627370496
  val : toF x.sum = v

theorem Fe.lt.mono {x : Fe} {B C : Int} (h : x.lt B) (hB : B ≤ C) : x.lt C :=
  ⟨h.a0, Int.lt_of_lt_of_le h.b0 hB, h.a1, Int.lt_of_lt_of_le h.b1 hB, h.a2, Int.lt_of_lt_of_le h.b2 hB, h.a3, Int.lt_of_lt_of_le h.b3 hB, h.a4, Int.lt_of_lt_of_le h.b4 hB⟩

theorem wraps_u64 (n : Int) (h₀ : 0 ≤ n) (h₁ : n < 2 ^ 64) : IntKind.u64.wrap n = n := by rw [IntKind.wrap_u64]; omega
theorem and51 (x : Int) (h0 : 0 ≤ x) (h1 : x < 18446744073709551616) : bits .and .u64 x 2251799813685247 = x % 2251799813685248 :=
  bits_mask .u64 64 (by decide) wraps_u64 51 (by decide) x h0 h1

def carryL (x : Fe) : Fe :=
  ⟨IntKind.u64.wrap (bits .and .u64 x.l0 2251799813685247 + 19 * (x.l4 / 2251799813685248)),
   IntKind.u64.wrap (bits .and .u64 x.l1 2251799813685247 + x.l0 / 2251799813685248),
   IntKind.u64.wrap (bits .and .u64 x.l2 2251799813685247 + x.l1 / 2251799813685248),
   IntKind.u64.wrap (bits .and .u64 x.l3 2251799813685247 + x.l2 / 2251799813685248),
   IntKind.u64.wrap (bits .and .u64 x.l4 2251799813685247 + x.l3 / 2251799813685248)⟩

/-- The same without bits. -/
def carryN (x : Fe) : Fe :=
  ⟨x.l0 % 2251799813685248 + 19 * (x.l4 / 2251799813685248), x.l1 % 2251799813685248 + x.l0 / 2251799813685248, x.l2 % 2251799813685248 + x.l1 / 2251799813685248,
   x.l3 % 2251799813685248 + x.l2 / 2251799813685248, x.l4 % 2251799813685248 + x.l3 / 2251799813685248⟩

theorem carryL_eq {x : Fe} (h : x.lt 9223372036854775808) : carryL x = carryN x := by
  obtain ⟨a0, b0, a1, b1, a2, b2, a3, b3, a4, b4⟩ := h
  unfold carryL carryN
  rw [and51 _ a0 (by omega), and51 _ a1 (by omega), and51 _ a2 (by omega), and51 _ a3 (by omega), and51 _ a4 (by omega)]
  simp only [IntKind.wrap_u64]
  congr 1 <;> omega

theorem P_int : (P : Int) = 57896044618658097711785492504343953926634992332820282019728792003956564819949 := rfl

theorem carryN_lt {x : Fe} (h : x.lt 9223372036854775808) : (carryN x).lt 2251799813763072 := by
  obtain ⟨a0, b0, a1, b1, a2, b2, a3, b3, a4, b4⟩ := h
  unfold carryN
  constructor <;> simp only <;> omega

theorem carryN_sum (x : Fe) : (carryN x).sum = x.sum + (P : Int) * -(x.l4 / 2251799813685248) := by
  unfold Fe.sum carryN
  rw [P_int]
  simp only
  omega

theorem carryL_is {x : Fe} {v : F} (h : x.lt 9223372036854775808) (hv : toF x.sum = v) : (carryL x).is v := by
  rw [carryL_eq h]
  exact ⟨(carryN_lt h).mono (by decide), by rw [toF_eq _ (carryN_sum x)]; exact hv⟩

end Fardel
