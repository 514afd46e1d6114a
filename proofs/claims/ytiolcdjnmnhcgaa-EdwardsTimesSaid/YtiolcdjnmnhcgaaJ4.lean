/- fardelref01.folded by its model. No condition. -/
import Derived.Test.YtiolcdjnmnhcgaaJ3
namespace Go.Proofs.Ytiolcdjnmnhcgaa
open Go.AE Fardel
set_option maxRecDepth 100000

/-! ### A carry through digits -/

theorem cy_one {a c : Int} (ha : 0 ≤ a ∧ a < 281474976710656) (hc : 0 ≤ c ∧ c < 281474976710656) :
    IntKind.u64.wrap (a + c) = a + c ∧ (a + c).tmod 65536 = (a + c) % 65536 ∧ IntKind.u64.wrap ((a + c).tdiv 65536) = (a + c) / 65536 := by
  have h0 : 0 ≤ a + c := by omega
  rw [Int.tmod_eq_emod_of_nonneg h0, Int.tdiv_eq_ediv_of_nonneg h0]
  simp only [IntKind.wrap_u64]
  exact ⟨by omega, trivial, by omega⟩

def big (n : Nat) (f : Nat → Int) : Prop := ∀ i, i < n → 0 ≤ f i ∧ f i < 281474976710656

theorem cy_round {f : Nat → Int} {c : Int} {i : Nat} (hf : 0 ≤ f i ∧ f i < 281474976710656) (hc : 0 ≤ c ∧ c < 281474976710656) :
    ∃ r c' : Nat, r < 65536 ∧ c' < 281474976710656 ∧ cyD f c i = (r : Int) ∧ cyC f c i = (c' : Int) ∧ r + 65536 * c' = (f i).toNat + c.toNat := by
  obtain ⟨h1, h2, h3⟩ := cy_one hf hc
  unfold cyD cyC cyN
  rw [h1, h2, h3]
  refine ⟨((f i + c) % 65536).toNat, ((f i + c) / 65536).toNat, by omega, by omega, by omega, by omega, by omega⟩

/-- In place. -/
def loS (f : Nat → Int) : Nat → Int × (Nat → Int)
  | 0 => (0, f)
  | i + 1 => (cyC (loS f i).2 (loS f i).1 i, upd (loS f i).2 i (cyD (loS f i).2 (loS f i).1 i))
/-- Into another array. -/
def hoS (f : Nat → Int) : Nat → Int × (Nat → Int)
  | 0 => (0, fun _ => 0)
  | i + 1 => (cyC f (hoS f i).1 i, upd (hoS f i).2 i (cyD f (hoS f i).1 i))

theorem lo_inv {f : Nat → Int} {n : Nat} (hf : big n f) : ∀ i, i ≤ n → 0 ≤ (loS f i).1 ∧ (loS f i).1 < 281474976710656 ∧ digs 65536 i (loS f i).2 ∧ (∀ j, i ≤ j → (loS f i).2 j = f j) ∧
    natB 65536 (loS f i).2 i + (loS f i).1.toNat * 65536 ^ i = natB 65536 f i
  | 0, _ => ⟨Int.le_refl 0, by show (0 : Int) < 281474976710656; decide, fun j hj => by omega, fun _ _ => rfl, rfl⟩
  | i + 1, h => by
    obtain ⟨h1, h2, h3, h4, h5⟩ := lo_inv hf i (by omega)
    have hfi := hf i (by omega)
    obtain ⟨r, c', k1, k2, k3, k4, k5⟩ := cy_round (f := (loS f i).2) (c := (loS f i).1) (i := i) (by rw [h4 i (Nat.le_refl _)]; exact hfi) ⟨h1, h2⟩
    have eo : (loS f (i + 1)).2 = upd (loS f i).2 i (r : Int) := by show upd _ i _ = _; rw [k3]
    have eb : (loS f (i + 1)).1 = (c' : Int) := k4
    rw [h4 i (Nat.le_refl _)] at k5
    rw [eo, eb]
    refine ⟨by omega, by omega, fun j hj => ?_, fun j hj => ?_, ?_⟩
    · by_cases hji : j = i
      · subst hji; rw [upd_same]; omega
      · rw [upd_ne hji]; exact h3 j (by omega)
    · rw [upd_ne (by omega)]; exact h4 j (by omega)
    · unfold natB
      rw [natB_upd i (Nat.le_refl _), upd_same, Nat.pow_succ]
      generalize natB 65536 (loS f i).2 i = A at *
      generalize natB 65536 f i = F at *
      generalize (loS f i).1.toNat = c at *
      generalize (65536 : Nat) ^ i = W at *
      have e : W * (r + 65536 * c') = W * ((f i).toNat + c) := by rw [k5]
      simp only [Nat.mul_add] at e
      have e3 : c * W = W * c := Nat.mul_comm _ _
      have e4 : ((c' : Int)).toNat * (W * 65536) = W * (65536 * c') := by
        rw [Int.toNat_natCast, Nat.mul_comm, Nat.mul_assoc]
      rw [e4, Int.toNat_natCast]
      omega

theorem ho_inv {f : Nat → Int} {n : Nat} (hf : big n f) : ∀ i, i ≤ n → 0 ≤ (hoS f i).1 ∧ (hoS f i).1 < 281474976710656 ∧ digs 65536 i (hoS f i).2 ∧
    natB 65536 (hoS f i).2 i + (hoS f i).1.toNat * 65536 ^ i = natB 65536 f i
  | 0, _ => ⟨Int.le_refl 0, by show (0 : Int) < 281474976710656; decide, fun j hj => by omega, rfl⟩
  | i + 1, h => by
    obtain ⟨h1, h2, h3, h5⟩ := ho_inv hf i (by omega)
    have hfi := hf i (by omega)
    obtain ⟨r, c', k1, k2, k3, k4, k5⟩ := cy_round (f := f) (c := (hoS f i).1) (i := i) hfi ⟨h1, h2⟩
    have eo : (hoS f (i + 1)).2 = upd (hoS f i).2 i (r : Int) := by show upd _ i _ = _; rw [k3]
    have eb : (hoS f (i + 1)).1 = (c' : Int) := k4
    rw [eo, eb]
    refine ⟨by omega, by omega, fun j hj => ?_, ?_⟩
    · by_cases hji : j = i
      · subst hji; rw [upd_same]; omega
      · rw [upd_ne hji]; exact h3 j (by omega)
    · unfold natB
      rw [natB_upd i (Nat.le_refl _), upd_same, Nat.pow_succ]
      generalize natB 65536 (hoS f i).2 i = A at *
      generalize natB 65536 f i = F at *
      generalize (hoS f i).1.toNat = c at *
      generalize (65536 : Nat) ^ i = W at *
      have e : W * (r + 65536 * c') = W * ((f i).toNat + c) := by rw [k5]
      simp only [Nat.mul_add] at e
      have e3 : c * W = W * c := Nat.mul_comm _ _
      have e4 : ((c' : Int)).toNat * (W * 65536) = W * (65536 * c') := by
        rw [Int.toNat_natCast, Nat.mul_comm, Nat.mul_assoc]
      rw [e4, Int.toNat_natCast]
      omega

/-! ### The fold -/

def foS (f : Nat → Int) : Nat → Nat → Int
  | 0 => f
  | i + 1 => fo2 (foS f i) i

theorem fo_one {a b : Int} (ha : 0 ≤ a ∧ a < 65536) (hb : 0 ≤ b ∧ b < 65536) : IntKind.u64.wrap (a + IntKind.u64.wrap (38 * b)) = a + 38 * b := by
  simp only [IntKind.wrap_u64]
  omega

theorem fo_inv {f : Nat → Int} (hf : digs 65536 32 f) : ∀ i, i ≤ 16 → ∀ j, foS f i j = if j < i then f j + 38 * f (j + 16) else if 16 ≤ j ∧ j < 16 + i then 0 else f j
  | 0, _, j => by
    show f j = _
    split
    · omega
    · split
      · omega
      · rfl
  | i + 1, h, j => by
    have ih := fo_inv hf i (by omega)
    show upd (upd (foS f i) i _) (i + 16) 0 j = _
    rw [ih i, ih (i + 16)]
    rw [if_neg (by omega), if_neg (by omega), if_neg (by omega), if_neg (by omega)]
    rw [fo_one (hf i (by omega)) (hf (i + 16) (by omega))]
    by_cases h1 : j = i + 16
    · subst h1
      rw [upd_same, if_neg (by omega), if_pos (by omega)]
    · rw [upd_ne h1]
      by_cases h2 : j = i
      · subst h2
        rw [upd_same, if_pos (by omega)]
      · rw [upd_ne h2, ih j]
        by_cases h3 : j < i
        · rw [if_pos h3, if_pos (by omega)]
        · rw [if_neg h3, if_neg (by omega : ¬ j < i + 1)]
          by_cases h4 : 16 ≤ j ∧ j < 16 + i
          · rw [if_pos h4, if_pos (by omega)]
          · rw [if_neg h4, if_neg (by omega)]

theorem natB_add (B : Nat) (f : Nat → Int) (a : Nat) : ∀ b, natB B f (a + b) = natB B f a + B ^ a * natB B (fun j => f (a + j)) b
  | 0 => by simp [natB]
  | b + 1 => by
    show natB B f (a + b) + B ^ (a + b) * (f (a + b)).toNat = _ + B ^ a * (natB B (fun j => f (a + j)) b + B ^ b * (f (a + b)).toNat)
    rw [natB_add B f a b, Nat.pow_add, Nat.mul_add, Nat.mul_assoc]
    omega

theorem natB_zero (B : Nat) {f : Nat → Int} : ∀ n, (∀ i, i < n → f i = 0) → natB B f n = 0
  | 0, _ => rfl
  | n + 1, h => by
    unfold natB
    rw [natB_zero B n (fun i hi => h i (by omega)), h n (by omega)]
    simp

theorem natB_lin (B : Nat) {f g : Nat → Int} (k : Nat) : ∀ n, (∀ i, i < n → 0 ≤ f i ∧ 0 ≤ g i) → natB B (fun j => f j + (k : Int) * g j) n = natB B f n + k * natB B g n
  | 0, _ => by simp [natB]
  | n + 1, h => by
    unfold natB
    rw [natB_lin B k n (fun i hi => h i (by omega))]
    have hn := h n (by omega)
    have e : (f n + (k : Int) * g n).toNat = (f n).toNat + k * (g n).toNat := by
      obtain ⟨a, ha⟩ := Int.eq_ofNat_of_zero_le hn.1
      obtain ⟨b, hb⟩ := Int.eq_ofNat_of_zero_le hn.2
      rw [ha, hb]
      rw [show ((a : Int) + (k : Int) * (b : Int)) = ((a + k * b : Nat) : Int) by simp]
      simp only [Int.toNat_natCast]
    rw [e, Nat.mul_add, Nat.mul_add]
    have e2 : B ^ n * (k * (g n).toNat) = k * (B ^ n * (g n).toNat) := by rw [← Nat.mul_assoc, Nat.mul_comm (B ^ n) k, Nat.mul_assoc]
    rw [e2]
    omega

def W256 : Nat := 65536 ^ 16

/-- One round: the carry, and the fold. -/
def rdS (f : Nat → Int) : Nat → Int := foS (loS f 32).2 16

theorem rd_val {f : Nat → Int} (hf : big 32 f) (hv : natB 65536 f 32 < 65536 ^ 32) :
    big 32 (rdS f) ∧ natB 65536 (rdS f) 32 = natB 65536 f 32 % W256 + 38 * (natB 65536 f 32 / W256) := by
  obtain ⟨h1, h2, h3, _, h5⟩ := lo_inv hf 32 (Nat.le_refl _)
  have hc : (loS f 32).1.toNat = 0 := by
    rcases Nat.eq_zero_or_pos (loS f 32).1.toNat with h | h
    · exact h
    · have : 1 * 65536 ^ 32 ≤ (loS f 32).1.toNat * 65536 ^ 32 := Nat.mul_le_mul_right _ h
      omega
  rw [hc, Nat.zero_mul, Nat.add_zero] at h5
  rw [← h5]
  unfold rdS
  generalize (loS f 32).2 = g at *
  have hfo := fo_inv h3 16 (Nat.le_refl _)
  have hlow : ∀ j, j < 16 → foS g 16 j = g j + 38 * g (j + 16) := fun j hj => by rw [hfo j, if_pos hj]
  have hhigh : ∀ j, 16 ≤ j → j < 32 → foS g 16 j = 0 := fun j hj hj' => by rw [hfo j, if_neg (by omega), if_pos (by omega)]
  refine ⟨fun j hj => ?_, ?_⟩
  · rcases Nat.lt_or_ge j 16 with h | h
    · rw [hlow j h]
      have a := h3 j (by omega)
      have b := h3 (j + 16) (by omega)
      omega
    · rw [hhigh j h hj]; omega
  · have e1 : natB 65536 (foS g 16) 32 = natB 65536 (foS g 16) 16 := by
      have := natB_add 65536 (foS g 16) 16 16
      rw [natB_zero 65536 16 (fun i hi => hhigh (16 + i) (by omega) (by omega))] at this
      simpa using this
    have e2 : natB 65536 (foS g 16) 16 = natB 65536 g 16 + 38 * natB 65536 (fun j => g (16 + j)) 16 := by
      rw [← natB_lin 65536 (g := fun j => g (16 + j)) 38 16 (fun i hi => ⟨(h3 i (by omega)).1, (h3 (16 + i) (by omega)).1⟩)]
      refine natB_congr 16 fun i hi => ?_
      rw [hlow i hi, Nat.add_comm i 16]
      rfl
    have e3 := natB_add 65536 g 16 16
    have hl : natB 65536 g 16 < W256 := natB_lt 16 (fun i hi => h3 i (by omega))
    change natB 65536 g 32 = natB 65536 g 16 + W256 * natB 65536 (fun j => g (16 + j)) 16 at e3
    rw [e1, e2, e3]
    have hW : 0 < W256 := by decide
    rw [Nat.add_mul_mod_self_left, Nat.mod_eq_of_lt hl, Nat.add_mul_div_left _ _ hW, Nat.div_eq_of_lt hl, Nat.zero_add]

def foldN (V : Nat) : Nat := V % W256 + 38 * (V / W256)
theorem W256_P : W256 = 2 * P + 38 := by decide
theorem foldN_mod (V : Nat) : foldN V % P = V % P := by
  have h := Nat.div_add_mod V W256
  unfold foldN
  generalize V / W256 = q at *
  generalize V % W256 = r at *
  rw [← h, W256_P]
  have e : (2 * P + 38) * q + r = r + 38 * q + P * (2 * q) := by
    rw [Nat.add_mul, ← Nat.mul_assoc, Nat.mul_comm P 2]; omega
  rw [e, Nat.add_mul_mod_self_left]

theorem foldN_4 {V : Nat} (h : V < 65536 ^ 32) : foldN (foldN (foldN (foldN V))) < W256 := by
  have hW : 65536 ^ 32 = W256 * W256 := by unfold W256; rw [← Nat.pow_add]
  have key : ∀ {V k : Nat}, V < W256 * k → foldN V < W256 + 38 * k := by
    intro V k hk
    unfold foldN
    have h1 : V % W256 < W256 := Nat.mod_lt _ (by decide)
    have h2 : V / W256 < k := Nat.div_lt_of_lt_mul hk
    omega
  have h1 : foldN V < W256 * 39 := by
    have := key (k := W256) (by rw [← hW]; exact h)
    omega
  have h2 := key h1
  generalize foldN (foldN V) = A at *
  have hw : W256 = 115792089237316195423570985008687907853269984665640564039457584007913129639936 := rfl
  rw [hw] at h2 ⊢
  unfold foldN
  rw [hw]
  omega

def rdI (f : Nat → Int) : Nat → Nat → Int
  | 0 => f
  | r + 1 => rdS (rdI f r)

theorem foldN_le (V : Nat) : foldN V ≤ V := by
  have h := Nat.div_add_mod V W256
  unfold foldN
  have : 38 * (V / W256) ≤ W256 * (V / W256) := Nat.mul_le_mul_right _ (by decide)
  omega

theorem rdI_val {f : Nat → Int} (hf : big 32 f) (hv : natB 65536 f 32 < 65536 ^ 32) : big 32 (rdI f 4) ∧ natB 65536 (rdI f 4) 32 = foldN (foldN (foldN (foldN (natB 65536 f 32)))) := by
  have step : ∀ {g : Nat → Int}, big 32 g → natB 65536 g 32 < 65536 ^ 32 → big 32 (rdS g) ∧ natB 65536 (rdS g) 32 < 65536 ^ 32 ∧ natB 65536 (rdS g) 32 = foldN (natB 65536 g 32) := by
    intro g hg hl
    obtain ⟨a, b⟩ := rd_val hg hl
    have e : natB 65536 (rdS g) 32 = foldN (natB 65536 g 32) := b
    refine ⟨a, ?_, e⟩
    rw [e]
    exact Nat.lt_of_le_of_lt (foldN_le _) hl
  obtain ⟨a1, b1, c1⟩ := step hf hv
  obtain ⟨a2, b2, c2⟩ := step a1 b1
  obtain ⟨a3, b3, c3⟩ := step a2 b2
  obtain ⟨a4, b4, c4⟩ := step a3 b3
  exact ⟨a4, by rw [← c1, ← c2, ← c3, ← c4]; rfl⟩

/-- The digits behind the rounds. -/
def foOut (f : Nat → Int) : Nat → Int := (hoS (rdI f 4) 16).2

theorem foOut_val {f : Nat → Int} (hf : big 32 f) (hv : natB 65536 f 32 < 65536 ^ 32) : digs 65536 16 (foOut f) ∧ vD (foOut f) < W256 ∧ vD (foOut f) % P = natB 65536 f 32 % P := by
  obtain ⟨h1, h2⟩ := rdI_val hf hv
  have h4 := foldN_4 hv
  rw [← h2] at h4
  obtain ⟨k1, k2, k3, k5⟩ := ho_inv (n := 16) (fun i hi => h1 i (by omega)) 16 (Nat.le_refl _)
  have e3 := natB_add 65536 (rdI f 4) 16 16
  change natB 65536 (rdI f 4) 32 = natB 65536 (rdI f 4) 16 + W256 * natB 65536 (fun j => rdI f 4 (16 + j)) 16 at e3
  have hz : natB 65536 (fun j => rdI f 4 (16 + j)) 16 = 0 := by
    rcases Nat.eq_zero_or_pos (natB 65536 (fun j => rdI f 4 (16 + j)) 16) with h | h
    · exact h
    · have : W256 * 1 ≤ W256 * natB 65536 (fun j => rdI f 4 (16 + j)) 16 := Nat.mul_le_mul_left _ h
      omega
  rw [hz, Nat.mul_zero, Nat.add_zero] at e3
  change natB 65536 (foOut f) 16 + (hoS (rdI f 4) 16).1.toNat * W256 = natB 65536 (rdI f 4) 16 at k5
  have hc : (hoS (rdI f 4) 16).1.toNat = 0 := by
    rcases Nat.eq_zero_or_pos (hoS (rdI f 4) 16).1.toNat with h | h
    · exact h
    · have : 1 * W256 ≤ (hoS (rdI f 4) 16).1.toNat * W256 := Nat.mul_le_mul_right _ h
      omega
  rw [hc, Nat.zero_mul, Nat.add_zero] at k5
  have e : vD (foOut f) = natB 65536 (rdI f 4) 32 := by unfold vD; rw [k5, e3]
  refine ⟨k3, by rw [e]; exact h4, ?_⟩
  rw [e, h2, foldN_mod, foldN_mod, foldN_mod, foldN_mod]

/-! ### The walk put together -/

theorem fd_round (f : Nat → Int) (r : Nat) (hr : r < 4) : Tr Try.prog 0 fdRB (stOf (fdA (r : Nat)) (fdG f)) .normal (stOf (fdA ((r + 1 : Nat) : Int)) (fdG (rdS f))) := by
  rw [fdRB_eq]
  refine Tr.seq (fd_test f r hr) (Tr.seq (Tr.block (s1 := stOf (fdE (r : Nat) 16) (fdG (rdS f))) ?_ (by intro i h; cases h)) (fd_next _ r hr))
  refine Tr.pre envR0_ok mix 1 fdK (fd_zero f _) rfl ?_
  rw [fdI_eq]
  refine Tr.seq (s1 := stOf (fdB (r : Nat) (loS f 32).1 32) (fdG (loS f 32).2)) ?_ ?_
  · refine Tr.pre envR0_ok mix 1 fdK (fd_ini1 f _) rfl ?_
    exact Tr.iter (S := fun i => stOf (fdB (r : Nat) (loS f i).1 i) (fdG (loS f i).2)) (n := 32) (fun i hi => fd_step1 _ _ _ i hi) (fd_end1 _ _ _)
  · refine Tr.pre envR0_ok mix 1 fdK2 (fd_ini2 _ _ _) rfl ?_
    exact Tr.iter (S := fun i => stOf (fdE (r : Nat) i) (fdG (foS (loS f 32).2 i))) (n := 16) (fun i hi => fd_step2 _ _ i hi) (fd_end2 _ _)

theorem pD_digs : digs 65536 16 pD := digB_spec.1 (by decide +kernel)
theorem pD_val : vD pD = P := by decide +kernel

theorem suD_digs (f g : Nat → Int) : digs 65536 16 (suD f g) := by rw [suD_eq]; exact dgB_digs (by decide) _ _
theorem suD_val {f g : Nat → Int} (hf : digs 65536 16 f) : vD (suD f g) = vD f - vD g := by
  unfold vD
  rw [suD_eq, natB_dgB]
  have h := natB_lt 16 hf
  unfold vD
  exact Nat.mod_eq_of_lt (by omega)

theorem fd_while (f : Nat → Int) : ∀ (n : Nat) (o : Nat → Int), digs 65536 16 o → vD o < n * P + P →
    ∃ o', TrN Try.prog 0 fdB4 (n + 1) (stOf fdW (fdG4 f o)) (.exit 8) (stOf fdW (fdG4 f o')) ∧ digs 65536 16 o' ∧ vD o' = vD o % P
  | n, o, hd, hv => by
    by_cases h : vD o < P
    · have hl : ltD o pD = true := by rw [ltD_eq, pD_val]; simpa using h
      exact ⟨o, TrN.done (fd_done f o (digB_spec.2 hd) hl) (by intro h; cases h), hd, (Nat.mod_eq_of_lt h).symm⟩
    · have hl : ltD o pD = false := by rw [ltD_eq, pD_val]; simpa using h
      have hs : leD o pD = true := leD_iff.2 (by rw [pD_val]; omega)
      cases n with
      | zero => omega
      | succ n =>
        have hv' : vD (suD o pD) = vD o - P := by rw [suD_val hd, pD_val]
        obtain ⟨o', h1, h2, h3⟩ := fd_while f n (suD o pD) (suD_digs _ _) (by rw [hv']; rw [Nat.succ_mul] at hv; omega)
        refine ⟨o', TrN.next (fd_more f o (digB_spec.2 hd) hl hs) h1, h2, ?_⟩
        rw [h3, hv']
        exact (Nat.mod_eq_sub_mod (by omega)).symm

theorem fd_tr {f : Nat → Int} (hf : big 32 f) (hv : natB 65536 f 32 < 65536 ^ 32) : ∃ g o', Tr Try.prog 0 fdC (stOf ([D32 f] ++ undefs 74) []) .ret (stOf fdW (fdG5 g o')) ∧ digs 65536 16 o' ∧ vD o' = natB 65536 f 32 % P := by
  obtain ⟨k1, k2, k3⟩ := foOut_val hf hv
  obtain ⟨o', h1, h2, h3⟩ := fd_while (rdI f 4) 2 (foOut f) k1 (by rw [W256_P] at k2; have hp : 38 < P := (by decide +kernel); omega)
  refine ⟨rdI f 4, o', ?_, h2, h3.trans k3⟩
  refine Tr.pre envR0_ok mix 1 fdK (fd_pre f) rfl ?_
  rw [fdX1_eq]
  refine Tr.seq (s1 := stOf (fdA 4) (fdG (rdI f 4))) ?_ ?_
  · refine Tr.pre envR0_ok mix 1 fdK (fd_ini f) rfl ?_
    exact Tr.iter (S := fun r => stOf (fdA (r : Nat)) (fdG (rdI f r))) (n := 4) (fun r hr => fd_round _ r hr) (fd_last _)
  · refine Tr.pre envR0_ok mix 2 fdK3 (fd_pre3 _) rfl ?_
    rw [fdY_eq]
    refine Tr.seq (s1 := stOf (fdH (hoS (rdI f 4) 16).1 16) (fdG3 (rdI f 4) (foOut f))) ?_ ?_
    · refine Tr.pre envR0_ok mix 1 fdK3 (fd_ini3 _ _) rfl ?_
      exact Tr.iter (S := fun i => stOf (fdH (hoS (rdI f 4) i).1 i) (fdG3 (rdI f 4) (hoS (rdI f 4) i).2)) (n := 16) (fun i hi => fd_step3 _ _ _ i hi) (fd_end3 _ _ _)
    · refine Tr.pre envR0_ok mix 1 fdK4 (fd_pre4 _ _ _) rfl ?_
      rw [fdZ_eq]
      exact Tr.seq (Tr.blockX (Tr.loop h1)) (fd_post _ _)

/-! ### The model -/

noncomputable def foldB (f : Nat → Int) : Bool := hid (fun (f : Nat → Int) => (List.range 32).all (fun i => decide (0 ≤ f i ∧ f i < 281474976710656)) && decide (natB 65536 f 32 < 65536 ^ 32)) f
theorem foldB_iff {f : Nat → Int} : foldB f = true ↔ big 32 f ∧ natB 65536 f 32 < 65536 ^ 32 := by
  unfold foldB big
  rw [hid_eq, Bool.and_eq_true, List.all_eq_true, decide_eq_true_eq]
  constructor
  · rintro ⟨h, h'⟩
    exact ⟨fun i hi => by simpa using h i (by simpa using hi), h'⟩
  · rintro ⟨h, h'⟩
    exact ⟨fun i hi => by simpa using h i (by simpa using hi), h'⟩
noncomputable def foldF (f : Nat → Int) : F := hid (fun (f : Nat → Int) => toF (natB 65536 f 32 : Nat)) f
theorem foldF_eq (f : Nat → Int) : foldF f = toF (natB 65536 f 32 : Nat) := by unfold foldF; rw [hid_eq]

abbrev nnA (v : F) : T := .abs (.nn v)
noncomputable def foldM : PModel
  | [.ints .u64 32 f] => some (foldB f, nnA (foldF f))
  | _ => none

theorem nn_of {o : Nat → Int} {v : F} (hd : digs 65536 16 o) (hv : vD o = v.val) {ρ ρ' : Rho} {x : Value} (hx : (R ρ (D16 o)).v x) : (R ρ' (nnA v)).v x := by
  obtain ⟨cs, rfl, h1, h2⟩ := hx
  refine ⟨cs, rfl, h1, fun i hi => ?_⟩
  rw [h2 i hi, dg_dgB, dgB_of (by decide) hd hi]
  unfold vD at hv
  rw [hv]

theorem toF_val' (n : Nat) : (toF (n : Int)).val = n % P := by
  have := toF_val (n : Int)
  omega

theorem foldM_ok : SoundM Try.prog 76 (pureModel foldM) := by
  refine SoundM.refineX ?_
  intro args vc v hm hvc ρ xs hargs
  unfold foldM at hm
  split at hm
  · rename_i f
    cases hm
    obtain ⟨hb, hv⟩ := foldB_iff.1 hvc
    obtain ⟨g, o', htr, hd, hv'⟩ := fd_tr hb hv
    have hx : VLs (fun _ => none) [D32 f] xs := argsOK_VLs rfl hargs
    refine ⟨pureModel (fun args => open Classical in if args = [D32 f] then some (true, D16 o') else none), ?_, [D32 f], hx, ⟨true, D16 o', [], 0, 0⟩, ?_, rfl, fun ρ' w hw => ?_⟩
    · refine SoundM.of_tr0 (fn := Try.f76) (c := fdC) (by kernel_rfl) (by kernel_rfl) (by kernel_rfl) ?_
      intro args vc v hm hvc
      split at hm
      · rename_i e
        cases hm
        subst e
        exact ⟨rfl, rfl, .ret, _, [D16 o'], 2, .inl rfl, htr, by kernel_rfl, rfl⟩
      · cases hm
    · simp [pureModel]
    · exact nn_of hd (by rw [hv', foldF_eq, toF_val']) hw
  · cases hm

end Go.Proofs.Ytiolcdjnmnhcgaa
