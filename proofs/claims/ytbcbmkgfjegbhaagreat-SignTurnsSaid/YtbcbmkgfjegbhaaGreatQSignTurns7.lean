/- Part 7 of the proof. No condition. -/
import Derived.Test.YtbcbmkgfjegbhaaGreatQSignTurns6
set_option linter.unusedVariables false
set_option linter.unusedSimpArgs false
set_option linter.unusedSectionVars false
namespace Go.Proofs.YtbcbmkgfjegbhaaGreat
open Go.AE Fardel
set_option maxRecDepth 100000
theorem cy_one {a c : Int} (ha : 0 ≤ a ∧ a < 281474976710656) (hc : 0 ≤ c ∧ c < 281474976710656) :
    IntKind.u64.wrap (a + c) = a + c ∧ (a + c).tmod 65536 = (a + c) % 65536 ∧ IntKind.u64.wrap ((a + c).tdiv 65536) = (a + c) / 65536 := by
  have h0 : 0 ≤ a + c := by omega
  rw [Int.tmod_eq_emod_of_nonneg h0, Int.tdiv_eq_ediv_of_nonneg h0]
  simp only [IntKind.wrap_u64]
  exact ⟨by omega, trivial, by omega⟩
def big (n : Nat) (f : Nat → Int) : Prop := ∀ i, i < n → 0 ≤ f i ∧ f i < 281474976710656
theorem cy_round {f : Nat → Int} {c : Int} {i : Nat} (hf : 0 ≤ f i ∧ f i < 281474976710656) (hc : 0 ≤ c ∧ c < 281474976710656) :
    ∃ r c' : Nat, r < 65536 ∧ c' < 281474976710656 ∧ cyD f c i = (r : Int) ∧ cyC f c i = (c' : Int) ∧ r + 65536 * c' = (f i).toNat + c.toNat := by
  obtain ⟨h1, h2, h3⟩ := cy_one hf hc
  unfold cyD cyC cyN
  rw [h1, h2, h3]
  refine ⟨((f i + c) % 65536).toNat, ((f i + c) / 65536).toNat, by omega, by omega, by omega, by omega, by omega⟩
def loS (f : Nat → Int) : Nat → Int × (Nat → Int)
  | 0 => (0, f)
  | i + 1 => (cyC (loS f i).2 (loS f i).1 i, upd (loS f i).2 i (cyD (loS f i).2 (loS f i).1 i))
def hoS (f : Nat → Int) : Nat → Int × (Nat → Int)
  | 0 => (0, fun _ => 0)
  | i + 1 => (cyC f (hoS f i).1 i, upd (hoS f i).2 i (cyD f (hoS f i).1 i))
theorem lo_inv {f : Nat → Int} {n : Nat} (hf : big n f) : ∀ i, i ≤ n → 0 ≤ (loS f i).1 ∧ (loS f i).1 < 281474976710656 ∧ digs 65536 i (loS f i).2 ∧ (∀ j, i ≤ j → (loS f i).2 j = f j) ∧
    natB 65536 (loS f i).2 i + (loS f i).1.toNat * 65536 ^ i = natB 65536 f i
  | 0, _ => ⟨Int.le_refl 0, by show (0 : Int) < 281474976710656; decide, fun j hj => by omega, fun _ _ => rfl, rfl⟩
  | i + 1, h => by
    obtain ⟨h1, h2, h3, h4, h5⟩ := lo_inv hf i (by omega)
    have hfi := hf i (by omega)
    obtain ⟨r, c', k1, k2, k3, k4, k5⟩ := cy_round (f := (loS f i).2) (c := (loS f i).1) (i := i) (by rw [h4 i (Nat.le_refl _)]; exact hfi) ⟨h1, h2⟩
    have eo : (loS f (i + 1)).2 = upd (loS f i).2 i (r : Int) := by show upd _ i _ = _; rw [k3]
    have eb : (loS f (i + 1)).1 = (c' : Int) := k4
    rw [h4 i (Nat.le_refl _)] at k5
    rw [eo, eb]
    refine ⟨by omega, by omega, fun j hj => ?_, fun j hj => ?_, ?_⟩
    · by_cases hji : j = i
      · subst hji; rw [zb9]; omega
      · rw [zd3 hji]; exact h3 j (by omega)
    · rw [zd3 (by omega)]; exact h4 j (by omega)
    · unfold natB
      rw [zj9 i (Nat.le_refl _), zb9, Nat.pow_succ]
      generalize natB 65536 (loS f i).2 i = A at *
      generalize natB 65536 f i = F at *
      generalize (loS f i).1.toNat = c at *
      generalize (65536 : Nat) ^ i = W at *
      have e : W * (r + 65536 * c') = W * ((f i).toNat + c) := by rw [k5]
      simp only [Nat.mul_add] at e
      have e3 : c * W = W * c := Nat.mul_comm _ _
      have e4 : ((c' : Int)).toNat * (W * 65536) = W * (65536 * c') := by
        rw [Int.toNat_natCast, Nat.mul_comm, Nat.mul_assoc]
      rw [e4, Int.toNat_natCast]
      omega
theorem ho_inv {f : Nat → Int} {n : Nat} (hf : big n f) : ∀ i, i ≤ n → 0 ≤ (hoS f i).1 ∧ (hoS f i).1 < 281474976710656 ∧ digs 65536 i (hoS f i).2 ∧
    natB 65536 (hoS f i).2 i + (hoS f i).1.toNat * 65536 ^ i = natB 65536 f i
  | 0, _ => ⟨Int.le_refl 0, by show (0 : Int) < 281474976710656; decide, fun j hj => by omega, rfl⟩
  | i + 1, h => by
    obtain ⟨h1, h2, h3, h5⟩ := ho_inv hf i (by omega)
    have hfi := hf i (by omega)
    obtain ⟨r, c', k1, k2, k3, k4, k5⟩ := cy_round (f := f) (c := (hoS f i).1) (i := i) hfi ⟨h1, h2⟩
    have eo : (hoS f (i + 1)).2 = upd (hoS f i).2 i (r : Int) := by show upd _ i _ = _; rw [k3]
    have eb : (hoS f (i + 1)).1 = (c' : Int) := k4
    rw [eo, eb]
    refine ⟨by omega, by omega, fun j hj => ?_, ?_⟩
    · by_cases hji : j = i
      · subst hji; rw [zb9]; omega
      · rw [zd3 hji]; exact h3 j (by omega)
    · unfold natB
      rw [zj9 i (Nat.le_refl _), zb9, Nat.pow_succ]
      generalize natB 65536 (hoS f i).2 i = A at *
      generalize natB 65536 f i = F at *
      generalize (hoS f i).1.toNat = c at *
      generalize (65536 : Nat) ^ i = W at *
      have e : W * (r + 65536 * c') = W * ((f i).toNat + c) := by rw [k5]
      simp only [Nat.mul_add] at e
      have e3 : c * W = W * c := Nat.mul_comm _ _
      have e4 : ((c' : Int)).toNat * (W * 65536) = W * (65536 * c') := by
        rw [Int.toNat_natCast, Nat.mul_comm, Nat.mul_assoc]
      rw [e4, Int.toNat_natCast]
      omega
def foS (f : Nat → Int) : Nat → Nat → Int
  | 0 => f
  | i + 1 => fo2 (foS f i) i
theorem fo_one {a b : Int} (ha : 0 ≤ a ∧ a < 65536) (hb : 0 ≤ b ∧ b < 65536) : IntKind.u64.wrap (a + IntKind.u64.wrap (38 * b)) = a + 38 * b := by
  simp only [IntKind.wrap_u64]
  omega
theorem fo_inv {f : Nat → Int} (hf : digs 65536 32 f) : ∀ i, i ≤ 16 → ∀ j, foS f i j = if j < i then f j + 38 * f (j + 16) else if 16 ≤ j ∧ j < 16 + i then 0 else f j
  | 0, _, j => by
    show f j = _
    split
    · omega
    · split
      · omega
      · rfl
  | i + 1, h, j => by
    have ih := fo_inv hf i (by omega)
    show upd (upd (foS f i) i _) (i + 16) 0 j = _
    rw [ih i, ih (i + 16)]
    rw [if_neg (by omega), if_neg (by omega), if_neg (by omega), if_neg (by omega)]
    rw [fo_one (hf i (by omega)) (hf (i + 16) (by omega))]
    by_cases h1 : j = i + 16
    · subst h1
      rw [zb9, if_neg (by omega), if_pos (by omega)]
    · rw [zd3 h1]
      by_cases h2 : j = i
      · subst h2
        rw [zb9, if_pos (by omega)]
      · rw [zd3 h2, ih j]
        by_cases h3 : j < i
        · rw [if_pos h3, if_pos (by omega)]
        · rw [if_neg h3, if_neg (by omega : ¬ j < i + 1)]
          by_cases h4 : 16 ≤ j ∧ j < 16 + i
          · rw [if_pos h4, if_pos (by omega)]
          · rw [if_neg h4, if_neg (by omega)]
theorem natB_add (B : Nat) (f : Nat → Int) (a : Nat) : ∀ b, natB B f (a + b) = natB B f a + B ^ a * natB B (fun j => f (a + j)) b
  | 0 => by simp [natB]
  | b + 1 => by
    show natB B f (a + b) + B ^ (a + b) * (f (a + b)).toNat = _ + B ^ a * (natB B (fun j => f (a + j)) b + B ^ b * (f (a + b)).toNat)
    rw [natB_add B f a b, Nat.pow_add, Nat.mul_add, Nat.mul_assoc]
    omega
theorem zp7 (B : Nat) {f : Nat → Int} : ∀ n, (∀ i, i < n → f i = 0) → natB B f n = 0
  | 0, _ => rfl
  | n + 1, h => by
    unfold natB
    rw [zp7 B n (fun i hi => h i (by omega)), h n (by omega)]
    simp
theorem natB_lin (B : Nat) {f g : Nat → Int} (k : Nat) : ∀ n, (∀ i, i < n → 0 ≤ f i ∧ 0 ≤ g i) → natB B (fun j => f j + (k : Int) * g j) n = natB B f n + k * natB B g n
  | 0, _ => by simp [natB]
  | n + 1, h => by
    unfold natB
    rw [natB_lin B k n (fun i hi => h i (by omega))]
    have hn := h n (by omega)
    have e : (f n + (k : Int) * g n).toNat = (f n).toNat + k * (g n).toNat := by
      obtain ⟨a, ha⟩ := Int.eq_ofNat_of_zero_le hn.1
      obtain ⟨b, hb⟩ := Int.eq_ofNat_of_zero_le hn.2
      rw [ha, hb]
      rw [show ((a : Int) + (k : Int) * (b : Int)) = ((a + k * b : Nat) : Int) by simp]
      simp only [Int.toNat_natCast]
    rw [e, Nat.mul_add, Nat.mul_add]
    have e2 : B ^ n * (k * (g n).toNat) = k * (B ^ n * (g n).toNat) := by rw [← Nat.mul_assoc, Nat.mul_comm (B ^ n) k, Nat.mul_assoc]
    rw [e2]
    omega
def W256 : Nat := 65536 ^ 16
def rdS (f : Nat → Int) : Nat → Int := foS (loS f 32).2 16
theorem rd_val {f : Nat → Int} (hf : big 32 f) (hv : natB 65536 f 32 < 65536 ^ 32) :
    big 32 (rdS f) ∧ natB 65536 (rdS f) 32 = natB 65536 f 32 % W256 + 38 * (natB 65536 f 32 / W256) := by
  obtain ⟨h1, h2, h3, _, h5⟩ := lo_inv hf 32 (Nat.le_refl _)
  have hc : (loS f 32).1.toNat = 0 := by
    rcases Nat.eq_zero_or_pos (loS f 32).1.toNat with h | h
    · exact h
    · have : 1 * 65536 ^ 32 ≤ (loS f 32).1.toNat * 65536 ^ 32 := Nat.mul_le_mul_right _ h
      omega
  rw [hc, Nat.zero_mul, Nat.add_zero] at h5
  rw [← h5]
  unfold rdS
  generalize (loS f 32).2 = g at *
  have hfo := fo_inv h3 16 (Nat.le_refl _)
  have hlow : ∀ j, j < 16 → foS g 16 j = g j + 38 * g (j + 16) := fun j hj => by rw [hfo j, if_pos hj]
  have hhigh : ∀ j, 16 ≤ j → j < 32 → foS g 16 j = 0 := fun j hj hj' => by rw [hfo j, if_neg (by omega), if_pos (by omega)]
  refine ⟨fun j hj => ?_, ?_⟩
  · rcases Nat.lt_or_ge j 16 with h | h
    · rw [hlow j h]
      have a := h3 j (by omega)
      have b := h3 (j + 16) (by omega)
      omega
    · rw [hhigh j h hj]; omega
  · have e1 : natB 65536 (foS g 16) 32 = natB 65536 (foS g 16) 16 := by
      have := natB_add 65536 (foS g 16) 16 16
      rw [zp7 65536 16 (fun i hi => hhigh (16 + i) (by omega) (by omega))] at this
      simpa using this
    have e2 : natB 65536 (foS g 16) 16 = natB 65536 g 16 + 38 * natB 65536 (fun j => g (16 + j)) 16 := by
      rw [← natB_lin 65536 (g := fun j => g (16 + j)) 38 16 (fun i hi => ⟨(h3 i (by omega)).1, (h3 (16 + i) (by omega)).1⟩)]
      refine zc6 16 fun i hi => ?_
      rw [hlow i hi, Nat.add_comm i 16]
      rfl
    have e3 := natB_add 65536 g 16 16
    have hl : natB 65536 g 16 < W256 := zd2 16 (fun i hi => h3 i (by omega))
    change natB 65536 g 32 = natB 65536 g 16 + W256 * natB 65536 (fun j => g (16 + j)) 16 at e3
    rw [e1, e2, e3]
    have hW : 0 < W256 := by decide
    rw [Nat.add_mul_mod_self_left, Nat.mod_eq_of_lt hl, Nat.add_mul_div_left _ _ hW, Nat.div_eq_of_lt hl, Nat.zero_add]
def foldN (V : Nat) : Nat := V % W256 + 38 * (V / W256)
theorem W256_P : W256 = 2 * P + 38 := by decide
theorem foldN_mod (V : Nat) : foldN V % P = V % P := by
  have h := Nat.div_add_mod V W256
  unfold foldN
  generalize V / W256 = q at *
  generalize V % W256 = r at *
  rw [← h, W256_P]
  have e : (2 * P + 38) * q + r = r + 38 * q + P * (2 * q) := by
    rw [Nat.add_mul, ← Nat.mul_assoc, Nat.mul_comm P 2]; omega
  rw [e, Nat.add_mul_mod_self_left]
theorem foldN_4 {V : Nat} (h : V < 65536 ^ 32) : foldN (foldN (foldN (foldN V))) < W256 := by
  have hW : 65536 ^ 32 = W256 * W256 := by unfold W256; rw [← Nat.pow_add]
  have key : ∀ {V k : Nat}, V < W256 * k → foldN V < W256 + 38 * k := by
    intro V k hk
    unfold foldN
    have h1 : V % W256 < W256 := Nat.mod_lt _ (by decide)
    have h2 : V / W256 < k := Nat.div_lt_of_lt_mul hk
    omega
  have h1 : foldN V < W256 * 39 := by
    have := key (k := W256) (by rw [← hW]; exact h)
    omega
  have h2 := key h1
  generalize foldN (foldN V) = A at *
  have hw : W256 = 115792089237316195423570985008687907853269984665640564039457584007913129639936 := rfl
  rw [hw] at h2 ⊢
  unfold foldN
  rw [hw]
  omega
def rdI (f : Nat → Int) : Nat → Nat → Int
  | 0 => f
  | r + 1 => rdS (rdI f r)
theorem foldN_le (V : Nat) : foldN V ≤ V := by
  have h := Nat.div_add_mod V W256
  unfold foldN
  have : 38 * (V / W256) ≤ W256 * (V / W256) := Nat.mul_le_mul_right _ (by decide)
  omega
theorem rdI_val {f : Nat → Int} (hf : big 32 f) (hv : natB 65536 f 32 < 65536 ^ 32) : big 32 (rdI f 4) ∧ natB 65536 (rdI f 4) 32 = foldN (foldN (foldN (foldN (natB 65536 f 32)))) := by
  have step : ∀ {g : Nat → Int}, big 32 g → natB 65536 g 32 < 65536 ^ 32 → big 32 (rdS g) ∧ natB 65536 (rdS g) 32 < 65536 ^ 32 ∧ natB 65536 (rdS g) 32 = foldN (natB 65536 g 32) := by
    intro g hg hl
    obtain ⟨a, b⟩ := rd_val hg hl
    have e : natB 65536 (rdS g) 32 = foldN (natB 65536 g 32) := b
    refine ⟨a, ?_, e⟩
    rw [e]
    exact Nat.lt_of_le_of_lt (foldN_le _) hl
  obtain ⟨a1, b1, c1⟩ := step hf hv
  obtain ⟨a2, b2, c2⟩ := step a1 b1
  obtain ⟨a3, b3, c3⟩ := step a2 b2
  obtain ⟨a4, b4, c4⟩ := step a3 b3
  exact ⟨a4, by rw [← c1, ← c2, ← c3, ← c4]; rfl⟩
def foOut (f : Nat → Int) : Nat → Int := (hoS (rdI f 4) 16).2
theorem foOut_val {f : Nat → Int} (hf : big 32 f) (hv : natB 65536 f 32 < 65536 ^ 32) : digs 65536 16 (foOut f) ∧ vD (foOut f) < W256 ∧ vD (foOut f) % P = natB 65536 f 32 % P := by
  obtain ⟨h1, h2⟩ := rdI_val hf hv
  have h4 := foldN_4 hv
  rw [← h2] at h4
  obtain ⟨k1, k2, k3, k5⟩ := ho_inv (n := 16) (fun i hi => h1 i (by omega)) 16 (Nat.le_refl _)
  have e3 := natB_add 65536 (rdI f 4) 16 16
  change natB 65536 (rdI f 4) 32 = natB 65536 (rdI f 4) 16 + W256 * natB 65536 (fun j => rdI f 4 (16 + j)) 16 at e3
  have hz : natB 65536 (fun j => rdI f 4 (16 + j)) 16 = 0 := by
    rcases Nat.eq_zero_or_pos (natB 65536 (fun j => rdI f 4 (16 + j)) 16) with h | h
    · exact h
    · have : W256 * 1 ≤ W256 * natB 65536 (fun j => rdI f 4 (16 + j)) 16 := Nat.mul_le_mul_left _ h
      omega
  rw [hz, Nat.mul_zero, Nat.add_zero] at e3
  change natB 65536 (foOut f) 16 + (hoS (rdI f 4) 16).1.toNat * W256 = natB 65536 (rdI f 4) 16 at k5
  have hc : (hoS (rdI f 4) 16).1.toNat = 0 := by
    rcases Nat.eq_zero_or_pos (hoS (rdI f 4) 16).1.toNat with h | h
    · exact h
    · have : 1 * W256 ≤ (hoS (rdI f 4) 16).1.toNat * W256 := Nat.mul_le_mul_right _ h
      omega
  rw [hc, Nat.zero_mul, Nat.add_zero] at k5
  have e : vD (foOut f) = natB 65536 (rdI f 4) 32 := by unfold vD; rw [k5, e3]
  refine ⟨k3, by rw [e]; exact h4, ?_⟩
  rw [e, h2, foldN_mod, foldN_mod, foldN_mod, foldN_mod]
theorem fd_round (f : Nat → Int) (r : Nat) (hr : r < 4) : Tr Tryz.prog 0 fdRB (stOf (fdA (r : Nat)) (fdG f)) .normal (stOf (fdA ((r + 1 : Nat) : Int)) (fdG (rdS f))) := by
  rw [fdRB_eq]
  refine Tr.seq (fd_test f r hr) (Tr.seq (Tr.block (s1 := stOf (fdE (r : Nat) 16) (fdG (rdS f))) ?_ (by intro i h; cases h)) (fd_next _ r hr))
  refine Tr.pre envR0_ok mix 1 fdK (fd_zero f _) rfl ?_
  rw [fdI_eq]
  refine Tr.seq (s1 := stOf (fdB (r : Nat) (loS f 32).1 32) (fdG (loS f 32).2)) ?_ ?_
  · refine Tr.pre envR0_ok mix 1 fdK (fd_ini1 f _) rfl ?_
    exact Tr.iter (S := fun i => stOf (fdB (r : Nat) (loS f i).1 i) (fdG (loS f i).2)) (n := 32) (fun i hi => fd_step1 _ _ _ i hi) (fd_end1 _ _ _)
  · refine Tr.pre envR0_ok mix 1 fdK2 (fd_ini2 _ _ _) rfl ?_
    exact Tr.iter (S := fun i => stOf (fdE (r : Nat) i) (fdG (foS (loS f 32).2 i))) (n := 16) (fun i hi => fd_step2 _ _ i hi) (fd_end2 _ _)
theorem pD_digs : digs 65536 16 pD := digB_spec.1 (by decide +kernel)
theorem pD_val : vD pD = P := by decide +kernel
theorem suD_digs (f g : Nat → Int) : digs 65536 16 (suD f g) := by rw [suD_eq]; exact dgB_digs (by decide) _ _
theorem suD_val {f g : Nat → Int} (hf : digs 65536 16 f) : vD (suD f g) = vD f - vD g := by
  unfold vD
  rw [suD_eq, zm7]
  have h := zd2 16 hf
  unfold vD
  exact Nat.mod_eq_of_lt (by omega)
theorem fd_while (f : Nat → Int) : ∀ (n : Nat) (o : Nat → Int), digs 65536 16 o → vD o < n * P + P →
    ∃ o', TrN Tryz.prog 0 fdB4 (n + 1) (stOf fdW (fdG4 f o)) (.exit 8) (stOf fdW (fdG4 f o')) ∧ digs 65536 16 o' ∧ vD o' = vD o % P
  | n, o, hd, hv => by
    by_cases h : vD o < P
    · have hl : ltD o pD = true := by rw [ltD_eq, pD_val]; simpa using h
      exact ⟨o, TrN.done (fd_done f o (digB_spec.2 hd) hl) (by intro h; cases h), hd, (Nat.mod_eq_of_lt h).symm⟩
    · have hl : ltD o pD = false := by rw [ltD_eq, pD_val]; simpa using h
      have hs : leD o pD = true := leD_iff.2 (by rw [pD_val]; omega)
      cases n with
      | zero => omega
      | succ n =>
        have hv' : vD (suD o pD) = vD o - P := by rw [suD_val hd, pD_val]
        obtain ⟨o', h1, h2, h3⟩ := fd_while f n (suD o pD) (suD_digs _ _) (by rw [hv']; rw [Nat.succ_mul] at hv; omega)
        refine ⟨o', TrN.next (fd_more f o (digB_spec.2 hd) hl hs) h1, h2, ?_⟩
        rw [h3, hv']
        exact (Nat.mod_eq_sub_mod (by omega)).symm
theorem fd_tr {f : Nat → Int} (hf : big 32 f) (hv : natB 65536 f 32 < 65536 ^ 32) : ∃ g o', Tr Tryz.prog 0 fdC (stOf ([D32 f] ++ zb4 74) []) .ret (stOf fdW (fdG5 g o')) ∧ digs 65536 16 o' ∧ vD o' = natB 65536 f 32 % P := by
  obtain ⟨k1, k2, k3⟩ := foOut_val hf hv
  obtain ⟨o', h1, h2, h3⟩ := fd_while (rdI f 4) 2 (foOut f) k1 (by rw [W256_P] at k2; have hp : 38 < P := (by decide +kernel); omega)
  refine ⟨rdI f 4, o', ?_, h2, h3.trans k3⟩
  refine Tr.pre envR0_ok mix 1 fdK (fd_pre f) rfl ?_
  rw [fdX1_eq]
  refine Tr.seq (s1 := stOf (fdA 4) (fdG (rdI f 4))) ?_ ?_
  · refine Tr.pre envR0_ok mix 1 fdK (fd_ini f) rfl ?_
    exact Tr.iter (S := fun r => stOf (fdA (r : Nat)) (fdG (rdI f r))) (n := 4) (fun r hr => fd_round _ r hr) (fd_last _)
  · refine Tr.pre envR0_ok mix 2 fdK3 (fd_pre3 _) rfl ?_
    rw [fdY_eq]
    refine Tr.seq (s1 := stOf (fdH (hoS (rdI f 4) 16).1 16) (fdG3 (rdI f 4) (foOut f))) ?_ ?_
    · refine Tr.pre envR0_ok mix 1 fdK3 (fd_ini3 _ _) rfl ?_
      exact Tr.iter (S := fun i => stOf (fdH (hoS (rdI f 4) i).1 i) (fdG3 (rdI f 4) (hoS (rdI f 4) i).2)) (n := 16) (fun i hi => fd_step3 _ _ _ i hi) (fd_end3 _ _ _)
    · refine Tr.pre envR0_ok mix 1 fdK4 (fd_pre4 _ _ _) rfl ?_
      rw [fdZ_eq]
      exact Tr.seq (Tr.blockX (Tr.loop h1)) (fd_post _ _)
noncomputable def foldB (f : Nat → Int) : Bool := hid (fun (f : Nat → Int) => (List.range 32).all (fun i => decide (0 ≤ f i ∧ f i < 281474976710656)) && decide (natB 65536 f 32 < 65536 ^ 32)) f
theorem foldB_iff {f : Nat → Int} : foldB f = true ↔ big 32 f ∧ natB 65536 f 32 < 65536 ^ 32 := by
  unfold foldB big
  rw [zb5, Bool.and_eq_true, List.all_eq_true, decide_eq_true_eq]
  constructor
  · rintro ⟨h, h'⟩
    exact ⟨fun i hi => by simpa using h i (by simpa using hi), h'⟩
  · rintro ⟨h, h'⟩
    exact ⟨fun i hi => by simpa using h i (by simpa using hi), h'⟩
noncomputable def foldF (f : Nat → Int) : F := hid (fun (f : Nat → Int) => toF (natB 65536 f 32 : Nat)) f
theorem foldF_eq (f : Nat → Int) : foldF f = toF (natB 65536 f 32 : Nat) := by unfold foldF; rw [zb5]
abbrev nnA (v : F) : T := .abs (.nn v)
noncomputable def foldM : zb1
  | [.ints .u64 32 f] => some (foldB f, nnA (foldF f))
  | _ => none
theorem nn_of {o : Nat → Int} {v : F} (hd : digs 65536 16 o) (hv : vD o = v.val) {ρ ρ' : Rho} {x : Value} (hx : (R ρ (D16 o)).v x) : (R ρ' (nnA v)).v x := by
  obtain ⟨cs, rfl, h1, h2⟩ := hx
  refine ⟨cs, rfl, h1, fun i hi => ?_⟩
  rw [h2 i hi, dg_dgB, dgB_of (by decide) hd hi]
  unfold vD at hv
  rw [hv]
theorem toF_val' (n : Nat) : (toF (n : Int)).val = n % P := by
  have := zk3 (n : Int)
  omega
theorem foldM_ok : SoundM Tryz.prog 95 (za1 foldM) := by
  refine SoundM.refineX ?_
  intro args vc v hm hvc ρ xs hargs
  unfold foldM at hm
  split at hm
  · rename_i f
    cases hm
    obtain ⟨hb, hv⟩ := foldB_iff.1 hvc
    obtain ⟨g, o', htr, hd, hv'⟩ := fd_tr hb hv
    have hx : VLs rho0 [D32 f] xs := zd6 rfl hargs
    refine ⟨za1 (fun args => open Classical in if args = [D32 f] then some (true, D16 o') else none), ?_, [D32 f], hx, ⟨true, D16 o', [], 0, 0⟩, ?_, rfl, fun ρ' w hw => ?_⟩
    · refine SoundM.of_tr0 (fn := Tryz.f95) (c := fdC) (by kernel_rfl) (by kernel_rfl) (by kernel_rfl) ?_
      intro args vc v hm hvc
      split at hm
      · rename_i e
        cases hm
        subst e
        exact ⟨rfl, rfl, .ret, _, [D16 o'], 2, .inl rfl, htr, by kernel_rfl, rfl⟩
      · cases hm
    · simp [za1]
    · exact nn_of hd (by rw [hv', foldF_eq, toF_val']) hw
  · cases hm
noncomputable def envR1 : Env := envR0.set 95 (za1 foldM)
theorem envR1_ok : EnvOK Tryz.prog envR1 := envR0_ok.set foldM_ok
def adL (f g : Nat → Int) : Nat → Int := updN 16 fun i => IntKind.u64.wrap (f i + g i)
theorem add1_mv (f g : Nat → Int) : mv (evFn Tryz.prog envR1 1000000 Tryz.f72) [D16 f, D16 g] = some ((foldB (adL f g) && true) && true, nnA (foldF (adL f g))) := by kernel_rfl
def ofL (n : Int) : Nat → Int := upd (upd (fun _ => 0) 0 (n.tmod 65536)) 1 ((IntKind.u64.wrap (n.tdiv 65536)).tmod 65536)
theorem of_mv (n : Int) : mv (evFn Tryz.prog envR1 1000000 Tryz.f71) [.int .u64 n] = some ((foldB (ofL n) && true) && true, nnA (foldF (ofL n))) := by kernel_rfl
def loL (b : Nat → Int) : Nat → Int := updN 16 fun i => IntKind.u64.wrap (IntKind.u64.wrap (b (2 * i)) + IntKind.u64.wrap (256 * IntKind.u64.wrap (b (2 * i + 1))))
theorem load1_mv (b : Nat → Int) : mv (evFn Tryz.prog envR1 1000000 Tryz.f66) [.ints .u8 32 b] = some ((foldB (loL b) && true) && true, nnA (foldF (loL b))) := by kernel_rfl
def byL (f : Nat → Int) : Nat → Nat → Int
  | 0 => fun _ => 0
  | i + 1 => upd (upd (byL f i) (2 * i) (IntKind.u8.wrap (f i))) (2 * i + 1) (IntKind.u8.wrap (shrI .u64 (f i) 8))
theorem bytes1_mv (f : Nat → Int) : mv (evFn Tryz.prog env0 40 Tryz.f67) [D16 f] = some (true, .ints .u8 32 (byL f 16)) := by kernel_rfl
noncomputable def muC : Code := bodyC Tryz.f69
noncomputable def muX : Code := postC 2 muC
noncomputable def muRB : Code := cB (cB (cR (cL muX)))
noncomputable def muI : Code := cB (cL (cR muRB))
noncomputable def muB : Code := cB (cB (cR muI))
theorem muX_eq : postC 2 muC = .seq (.seq (cL (cL muX)) (.block 0 (.loop muRB))) (cR muX) := by kernel_rfl
theorem muRB_eq : muRB = .seq (cL muRB) (.seq (.block 1 muI) (cR (cR muRB))) := by kernel_rfl
theorem muI_eq : postC 1 muI = .block 2 (.loop muB) := by kernel_rfl
def muK : Nat := za2 [2, 3, 4, 5, 6, 7]
def muT0 : List T := tmk [(2, .ptr 0 []), (3, .ptr 1 []), (4, .ptr 2 []), (5, .ptr 3 [])] 0 36
def muA (i : Int) : List T := tmk [(2, .ptr 0 []), (3, .ptr 1 []), (4, .ptr 2 []), (5, .ptr 3 []), (6, .int .i64 i)] 0 36
def muT (i : Nat) (k : Nat) : List T := tmk [(2, .ptr 0 []), (3, .ptr 1 []), (4, .ptr 2 []), (5, .ptr 3 []), (6, .int .i64 (i : Nat)), (7, .int .i64 (k : Nat))] 0 36
def muG (f g l : Nat → Int) : Heap := [some (D16 f), some (D16 g), some z16, some (D32 l)]
def muV (f g l : Nat → Int) (i k : Nat) : Nat → Int := upd l (i + k) (IntKind.u64.wrap (l (i + k) + IntKind.u64.wrap (f i * g k)))
theorem mu_pre (f g : Nat → Int) : (za3 Tryz.prog env0 10 (preC 2 muC) (stOf ([D16 f, D16 g] ++ zb4 34) [])).map (cutP muK) = some (.normal, true, muT0, muG f g fun _ => 0, true) := by kernel_rfl
theorem mu_ini (f g l : Nat → Int) : (za3 Tryz.prog env0 10 (preC 1 (cL muX)) (stOf muT0 (muG f g l))).map (cutP muK) = some (.normal, true, muA 0, muG f g l, true) := by kernel_rfl
theorem mu_test (f g l : Nat → Int) : ∀ i, i < 16 → Tr Tryz.prog 0 (cL muRB) (stOf (muA (i : Nat)) (muG f g l)) .normal (stOf (muA (i : Nat)) (muG f g l))
  | 0, _ => Tr.ev (n := 40) (N := 4) (keep := za2 [2, 3, 4, 5, 6]) (vc := true) (za0 _) mix (by kernel_rfl) rfl rfl rfl
  | 1, _ => Tr.ev (n := 40) (N := 4) (keep := za2 [2, 3, 4, 5, 6]) (vc := true) (za0 _) mix (by kernel_rfl) rfl rfl rfl
  | 2, _ => Tr.ev (n := 40) (N := 4) (keep := za2 [2, 3, 4, 5, 6]) (vc := true) (za0 _) mix (by kernel_rfl) rfl rfl rfl
  | 3, _ => Tr.ev (n := 40) (N := 4) (keep := za2 [2, 3, 4, 5, 6]) (vc := true) (za0 _) mix (by kernel_rfl) rfl rfl rfl
  | 4, _ => Tr.ev (n := 40) (N := 4) (keep := za2 [2, 3, 4, 5, 6]) (vc := true) (za0 _) mix (by kernel_rfl) rfl rfl rfl
  | 5, _ => Tr.ev (n := 40) (N := 4) (keep := za2 [2, 3, 4, 5, 6]) (vc := true) (za0 _) mix (by kernel_rfl) rfl rfl rfl
  | 6, _ => Tr.ev (n := 40) (N := 4) (keep := za2 [2, 3, 4, 5, 6]) (vc := true) (za0 _) mix (by kernel_rfl) rfl rfl rfl
  | 7, _ => Tr.ev (n := 40) (N := 4) (keep := za2 [2, 3, 4, 5, 6]) (vc := true) (za0 _) mix (by kernel_rfl) rfl rfl rfl
  | 8, _ => Tr.ev (n := 40) (N := 4) (keep := za2 [2, 3, 4, 5, 6]) (vc := true) (za0 _) mix (by kernel_rfl) rfl rfl rfl
  | 9, _ => Tr.ev (n := 40) (N := 4) (keep := za2 [2, 3, 4, 5, 6]) (vc := true) (za0 _) mix (by kernel_rfl) rfl rfl rfl
  | 10, _ => Tr.ev (n := 40) (N := 4) (keep := za2 [2, 3, 4, 5, 6]) (vc := true) (za0 _) mix (by kernel_rfl) rfl rfl rfl
  | 11, _ => Tr.ev (n := 40) (N := 4) (keep := za2 [2, 3, 4, 5, 6]) (vc := true) (za0 _) mix (by kernel_rfl) rfl rfl rfl
  | 12, _ => Tr.ev (n := 40) (N := 4) (keep := za2 [2, 3, 4, 5, 6]) (vc := true) (za0 _) mix (by kernel_rfl) rfl rfl rfl
  | 13, _ => Tr.ev (n := 40) (N := 4) (keep := za2 [2, 3, 4, 5, 6]) (vc := true) (za0 _) mix (by kernel_rfl) rfl rfl rfl
  | 14, _ => Tr.ev (n := 40) (N := 4) (keep := za2 [2, 3, 4, 5, 6]) (vc := true) (za0 _) mix (by kernel_rfl) rfl rfl rfl
  | 15, _ => Tr.ev (n := 40) (N := 4) (keep := za2 [2, 3, 4, 5, 6]) (vc := true) (za0 _) mix (by kernel_rfl) rfl rfl rfl
  | k + 16, h => absurd h (by omega)
theorem mu_last (f g l : Nat → Int) : Tr Tryz.prog 0 muRB (stOf (muA 16) (muG f g l)) (.exit 0) (stOf (muA 16) (muG f g l)) :=
  Tr.ev (n := 40) (N := 4) (keep := za2 [2, 3, 4, 5, 6]) (vc := true) (za0 _) mix (by kernel_rfl) rfl rfl rfl
theorem mu_zero (f g l : Nat → Int) (i : Nat) : (za3 Tryz.prog env0 10 (preC 1 muI) (stOf (muA (i : Nat)) (muG f g l))).map (cutP muK) = some (.normal, true, muT i 0, muG f g l, true) := by kernel_rfl
theorem mu_end (f g l : Nat → Int) (i : Nat) : Tr Tryz.prog 0 muB (stOf (muT i 16) (muG f g l)) (.exit 2) (stOf (muT i 16) (muG f g l)) :=
  Tr.ev (n := 40) (N := 4) (keep := muK) (vc := true) (za0 _) mix (by kernel_rfl) rfl rfl rfl
theorem mu_next (f g l : Nat → Int) : ∀ i, i < 16 → Tr Tryz.prog 0 (cR (cR muRB)) (stOf (muT i 16) (muG f g l)) .normal (stOf (muA ((i + 1 : Nat) : Int)) (muG f g l))
  | 0, _ => Tr.ev (n := 40) (N := 4) (keep := za2 [2, 3, 4, 5, 6]) (vc := true) (za0 _) mix (by kernel_rfl) rfl rfl rfl
  | 1, _ => Tr.ev (n := 40) (N := 4) (keep := za2 [2, 3, 4, 5, 6]) (vc := true) (za0 _) mix (by kernel_rfl) rfl rfl rfl
  | 2, _ => Tr.ev (n := 40) (N := 4) (keep := za2 [2, 3, 4, 5, 6]) (vc := true) (za0 _) mix (by kernel_rfl) rfl rfl rfl
  | 3, _ => Tr.ev (n := 40) (N := 4) (keep := za2 [2, 3, 4, 5, 6]) (vc := true) (za0 _) mix (by kernel_rfl) rfl rfl rfl
  | 4, _ => Tr.ev (n := 40) (N := 4) (keep := za2 [2, 3, 4, 5, 6]) (vc := true) (za0 _) mix (by kernel_rfl) rfl rfl rfl
  | 5, _ => Tr.ev (n := 40) (N := 4) (keep := za2 [2, 3, 4, 5, 6]) (vc := true) (za0 _) mix (by kernel_rfl) rfl rfl rfl
  | 6, _ => Tr.ev (n := 40) (N := 4) (keep := za2 [2, 3, 4, 5, 6]) (vc := true) (za0 _) mix (by kernel_rfl) rfl rfl rfl
  | 7, _ => Tr.ev (n := 40) (N := 4) (keep := za2 [2, 3, 4, 5, 6]) (vc := true) (za0 _) mix (by kernel_rfl) rfl rfl rfl
  | 8, _ => Tr.ev (n := 40) (N := 4) (keep := za2 [2, 3, 4, 5, 6]) (vc := true) (za0 _) mix (by kernel_rfl) rfl rfl rfl
  | 9, _ => Tr.ev (n := 40) (N := 4) (keep := za2 [2, 3, 4, 5, 6]) (vc := true) (za0 _) mix (by kernel_rfl) rfl rfl rfl
  | 10, _ => Tr.ev (n := 40) (N := 4) (keep := za2 [2, 3, 4, 5, 6]) (vc := true) (za0 _) mix (by kernel_rfl) rfl rfl rfl
  | 11, _ => Tr.ev (n := 40) (N := 4) (keep := za2 [2, 3, 4, 5, 6]) (vc := true) (za0 _) mix (by kernel_rfl) rfl rfl rfl
  | 12, _ => Tr.ev (n := 40) (N := 4) (keep := za2 [2, 3, 4, 5, 6]) (vc := true) (za0 _) mix (by kernel_rfl) rfl rfl rfl
  | 13, _ => Tr.ev (n := 40) (N := 4) (keep := za2 [2, 3, 4, 5, 6]) (vc := true) (za0 _) mix (by kernel_rfl) rfl rfl rfl
  | 14, _ => Tr.ev (n := 40) (N := 4) (keep := za2 [2, 3, 4, 5, 6]) (vc := true) (za0 _) mix (by kernel_rfl) rfl rfl rfl
  | 15, _ => Tr.ev (n := 40) (N := 4) (keep := za2 [2, 3, 4, 5, 6]) (vc := true) (za0 _) mix (by kernel_rfl) rfl rfl rfl
  | k + 16, h => absurd h (by omega)
theorem mu_step0 (f g l : Nat → Int) : ∀ k, k < 16 → Tr Tryz.prog 0 muB (stOf (muT 0 k) (muG f g l)) .normal (stOf (muT 0 (k + 1)) (muG f g (muV f g l 0 k)))
  | 0, _ => Tr.ev (n := 40) (N := 4) (keep := muK) (vc := true) (za0 _) mix (by kernel_rfl) rfl rfl rfl
  | 1, _ => Tr.ev (n := 40) (N := 4) (keep := muK) (vc := true) (za0 _) mix (by kernel_rfl) rfl rfl rfl
  | 2, _ => Tr.ev (n := 40) (N := 4) (keep := muK) (vc := true) (za0 _) mix (by kernel_rfl) rfl rfl rfl
  | 3, _ => Tr.ev (n := 40) (N := 4) (keep := muK) (vc := true) (za0 _) mix (by kernel_rfl) rfl rfl rfl
  | 4, _ => Tr.ev (n := 40) (N := 4) (keep := muK) (vc := true) (za0 _) mix (by kernel_rfl) rfl rfl rfl
  | 5, _ => Tr.ev (n := 40) (N := 4) (keep := muK) (vc := true) (za0 _) mix (by kernel_rfl) rfl rfl rfl
  | 6, _ => Tr.ev (n := 40) (N := 4) (keep := muK) (vc := true) (za0 _) mix (by kernel_rfl) rfl rfl rfl
  | 7, _ => Tr.ev (n := 40) (N := 4) (keep := muK) (vc := true) (za0 _) mix (by kernel_rfl) rfl rfl rfl
  | 8, _ => Tr.ev (n := 40) (N := 4) (keep := muK) (vc := true) (za0 _) mix (by kernel_rfl) rfl rfl rfl
  | 9, _ => Tr.ev (n := 40) (N := 4) (keep := muK) (vc := true) (za0 _) mix (by kernel_rfl) rfl rfl rfl
  | 10, _ => Tr.ev (n := 40) (N := 4) (keep := muK) (vc := true) (za0 _) mix (by kernel_rfl) rfl rfl rfl
  | 11, _ => Tr.ev (n := 40) (N := 4) (keep := muK) (vc := true) (za0 _) mix (by kernel_rfl) rfl rfl rfl
  | 12, _ => Tr.ev (n := 40) (N := 4) (keep := muK) (vc := true) (za0 _) mix (by kernel_rfl) rfl rfl rfl
  | 13, _ => Tr.ev (n := 40) (N := 4) (keep := muK) (vc := true) (za0 _) mix (by kernel_rfl) rfl rfl rfl
  | 14, _ => Tr.ev (n := 40) (N := 4) (keep := muK) (vc := true) (za0 _) mix (by kernel_rfl) rfl rfl rfl
  | 15, _ => Tr.ev (n := 40) (N := 4) (keep := muK) (vc := true) (za0 _) mix (by kernel_rfl) rfl rfl rfl
  | k + 16, h => absurd h (by omega)
theorem mu_step1 (f g l : Nat → Int) : ∀ k, k < 16 → Tr Tryz.prog 0 muB (stOf (muT 1 k) (muG f g l)) .normal (stOf (muT 1 (k + 1)) (muG f g (muV f g l 1 k)))
  | 0, _ => Tr.ev (n := 40) (N := 4) (keep := muK) (vc := true) (za0 _) mix (by kernel_rfl) rfl rfl rfl
  | 1, _ => Tr.ev (n := 40) (N := 4) (keep := muK) (vc := true) (za0 _) mix (by kernel_rfl) rfl rfl rfl
  | 2, _ => Tr.ev (n := 40) (N := 4) (keep := muK) (vc := true) (za0 _) mix (by kernel_rfl) rfl rfl rfl
  | 3, _ => Tr.ev (n := 40) (N := 4) (keep := muK) (vc := true) (za0 _) mix (by kernel_rfl) rfl rfl rfl
  | 4, _ => Tr.ev (n := 40) (N := 4) (keep := muK) (vc := true) (za0 _) mix (by kernel_rfl) rfl rfl rfl
  | 5, _ => Tr.ev (n := 40) (N := 4) (keep := muK) (vc := true) (za0 _) mix (by kernel_rfl) rfl rfl rfl
  | 6, _ => Tr.ev (n := 40) (N := 4) (keep := muK) (vc := true) (za0 _) mix (by kernel_rfl) rfl rfl rfl
  | 7, _ => Tr.ev (n := 40) (N := 4) (keep := muK) (vc := true) (za0 _) mix (by kernel_rfl) rfl rfl rfl
  | 8, _ => Tr.ev (n := 40) (N := 4) (keep := muK) (vc := true) (za0 _) mix (by kernel_rfl) rfl rfl rfl
  | 9, _ => Tr.ev (n := 40) (N := 4) (keep := muK) (vc := true) (za0 _) mix (by kernel_rfl) rfl rfl rfl
  | 10, _ => Tr.ev (n := 40) (N := 4) (keep := muK) (vc := true) (za0 _) mix (by kernel_rfl) rfl rfl rfl
  | 11, _ => Tr.ev (n := 40) (N := 4) (keep := muK) (vc := true) (za0 _) mix (by kernel_rfl) rfl rfl rfl
  | 12, _ => Tr.ev (n := 40) (N := 4) (keep := muK) (vc := true) (za0 _) mix (by kernel_rfl) rfl rfl rfl
  | 13, _ => Tr.ev (n := 40) (N := 4) (keep := muK) (vc := true) (za0 _) mix (by kernel_rfl) rfl rfl rfl
  | 14, _ => Tr.ev (n := 40) (N := 4) (keep := muK) (vc := true) (za0 _) mix (by kernel_rfl) rfl rfl rfl
  | 15, _ => Tr.ev (n := 40) (N := 4) (keep := muK) (vc := true) (za0 _) mix (by kernel_rfl) rfl rfl rfl
  | k + 16, h => absurd h (by omega)
theorem mu_step2 (f g l : Nat → Int) : ∀ k, k < 16 → Tr Tryz.prog 0 muB (stOf (muT 2 k) (muG f g l)) .normal (stOf (muT 2 (k + 1)) (muG f g (muV f g l 2 k)))
  | 0, _ => Tr.ev (n := 40) (N := 4) (keep := muK) (vc := true) (za0 _) mix (by kernel_rfl) rfl rfl rfl
  | 1, _ => Tr.ev (n := 40) (N := 4) (keep := muK) (vc := true) (za0 _) mix (by kernel_rfl) rfl rfl rfl
  | 2, _ => Tr.ev (n := 40) (N := 4) (keep := muK) (vc := true) (za0 _) mix (by kernel_rfl) rfl rfl rfl
  | 3, _ => Tr.ev (n := 40) (N := 4) (keep := muK) (vc := true) (za0 _) mix (by kernel_rfl) rfl rfl rfl
  | 4, _ => Tr.ev (n := 40) (N := 4) (keep := muK) (vc := true) (za0 _) mix (by kernel_rfl) rfl rfl rfl
  | 5, _ => Tr.ev (n := 40) (N := 4) (keep := muK) (vc := true) (za0 _) mix (by kernel_rfl) rfl rfl rfl
  | 6, _ => Tr.ev (n := 40) (N := 4) (keep := muK) (vc := true) (za0 _) mix (by kernel_rfl) rfl rfl rfl
  | 7, _ => Tr.ev (n := 40) (N := 4) (keep := muK) (vc := true) (za0 _) mix (by kernel_rfl) rfl rfl rfl
  | 8, _ => Tr.ev (n := 40) (N := 4) (keep := muK) (vc := true) (za0 _) mix (by kernel_rfl) rfl rfl rfl
  | 9, _ => Tr.ev (n := 40) (N := 4) (keep := muK) (vc := true) (za0 _) mix (by kernel_rfl) rfl rfl rfl
  | 10, _ => Tr.ev (n := 40) (N := 4) (keep := muK) (vc := true) (za0 _) mix (by kernel_rfl) rfl rfl rfl
  | 11, _ => Tr.ev (n := 40) (N := 4) (keep := muK) (vc := true) (za0 _) mix (by kernel_rfl) rfl rfl rfl
  | 12, _ => Tr.ev (n := 40) (N := 4) (keep := muK) (vc := true) (za0 _) mix (by kernel_rfl) rfl rfl rfl
  | 13, _ => Tr.ev (n := 40) (N := 4) (keep := muK) (vc := true) (za0 _) mix (by kernel_rfl) rfl rfl rfl
  | 14, _ => Tr.ev (n := 40) (N := 4) (keep := muK) (vc := true) (za0 _) mix (by kernel_rfl) rfl rfl rfl
  | 15, _ => Tr.ev (n := 40) (N := 4) (keep := muK) (vc := true) (za0 _) mix (by kernel_rfl) rfl rfl rfl
  | k + 16, h => absurd h (by omega)
theorem mu_step3 (f g l : Nat → Int) : ∀ k, k < 16 → Tr Tryz.prog 0 muB (stOf (muT 3 k) (muG f g l)) .normal (stOf (muT 3 (k + 1)) (muG f g (muV f g l 3 k)))
  | 0, _ => Tr.ev (n := 40) (N := 4) (keep := muK) (vc := true) (za0 _) mix (by kernel_rfl) rfl rfl rfl
  | 1, _ => Tr.ev (n := 40) (N := 4) (keep := muK) (vc := true) (za0 _) mix (by kernel_rfl) rfl rfl rfl
  | 2, _ => Tr.ev (n := 40) (N := 4) (keep := muK) (vc := true) (za0 _) mix (by kernel_rfl) rfl rfl rfl
  | 3, _ => Tr.ev (n := 40) (N := 4) (keep := muK) (vc := true) (za0 _) mix (by kernel_rfl) rfl rfl rfl
  | 4, _ => Tr.ev (n := 40) (N := 4) (keep := muK) (vc := true) (za0 _) mix (by kernel_rfl) rfl rfl rfl
  | 5, _ => Tr.ev (n := 40) (N := 4) (keep := muK) (vc := true) (za0 _) mix (by kernel_rfl) rfl rfl rfl
  | 6, _ => Tr.ev (n := 40) (N := 4) (keep := muK) (vc := true) (za0 _) mix (by kernel_rfl) rfl rfl rfl
  | 7, _ => Tr.ev (n := 40) (N := 4) (keep := muK) (vc := true) (za0 _) mix (by kernel_rfl) rfl rfl rfl
  | 8, _ => Tr.ev (n := 40) (N := 4) (keep := muK) (vc := true) (za0 _) mix (by kernel_rfl) rfl rfl rfl
  | 9, _ => Tr.ev (n := 40) (N := 4) (keep := muK) (vc := true) (za0 _) mix (by kernel_rfl) rfl rfl rfl
  | 10, _ => Tr.ev (n := 40) (N := 4) (keep := muK) (vc := true) (za0 _) mix (by kernel_rfl) rfl rfl rfl
  | 11, _ => Tr.ev (n := 40) (N := 4) (keep := muK) (vc := true) (za0 _) mix (by kernel_rfl) rfl rfl rfl
  | 12, _ => Tr.ev (n := 40) (N := 4) (keep := muK) (vc := true) (za0 _) mix (by kernel_rfl) rfl rfl rfl
  | 13, _ => Tr.ev (n := 40) (N := 4) (keep := muK) (vc := true) (za0 _) mix (by kernel_rfl) rfl rfl rfl
  | 14, _ => Tr.ev (n := 40) (N := 4) (keep := muK) (vc := true) (za0 _) mix (by kernel_rfl) rfl rfl rfl
  | 15, _ => Tr.ev (n := 40) (N := 4) (keep := muK) (vc := true) (za0 _) mix (by kernel_rfl) rfl rfl rfl
  | k + 16, h => absurd h (by omega)
theorem mu_step4 (f g l : Nat → Int) : ∀ k, k < 16 → Tr Tryz.prog 0 muB (stOf (muT 4 k) (muG f g l)) .normal (stOf (muT 4 (k + 1)) (muG f g (muV f g l 4 k)))
  | 0, _ => Tr.ev (n := 40) (N := 4) (keep := muK) (vc := true) (za0 _) mix (by kernel_rfl) rfl rfl rfl
  | 1, _ => Tr.ev (n := 40) (N := 4) (keep := muK) (vc := true) (za0 _) mix (by kernel_rfl) rfl rfl rfl
  | 2, _ => Tr.ev (n := 40) (N := 4) (keep := muK) (vc := true) (za0 _) mix (by kernel_rfl) rfl rfl rfl
  | 3, _ => Tr.ev (n := 40) (N := 4) (keep := muK) (vc := true) (za0 _) mix (by kernel_rfl) rfl rfl rfl
  | 4, _ => Tr.ev (n := 40) (N := 4) (keep := muK) (vc := true) (za0 _) mix (by kernel_rfl) rfl rfl rfl
  | 5, _ => Tr.ev (n := 40) (N := 4) (keep := muK) (vc := true) (za0 _) mix (by kernel_rfl) rfl rfl rfl
  | 6, _ => Tr.ev (n := 40) (N := 4) (keep := muK) (vc := true) (za0 _) mix (by kernel_rfl) rfl rfl rfl
  | 7, _ => Tr.ev (n := 40) (N := 4) (keep := muK) (vc := true) (za0 _) mix (by kernel_rfl) rfl rfl rfl
  | 8, _ => Tr.ev (n := 40) (N := 4) (keep := muK) (vc := true) (za0 _) mix (by kernel_rfl) rfl rfl rfl
  | 9, _ => Tr.ev (n := 40) (N := 4) (keep := muK) (vc := true) (za0 _) mix (by kernel_rfl) rfl rfl rfl
  | 10, _ => Tr.ev (n := 40) (N := 4) (keep := muK) (vc := true) (za0 _) mix (by kernel_rfl) rfl rfl rfl
  | 11, _ => Tr.ev (n := 40) (N := 4) (keep := muK) (vc := true) (za0 _) mix (by kernel_rfl) rfl rfl rfl
  | 12, _ => Tr.ev (n := 40) (N := 4) (keep := muK) (vc := true) (za0 _) mix (by kernel_rfl) rfl rfl rfl
  | 13, _ => Tr.ev (n := 40) (N := 4) (keep := muK) (vc := true) (za0 _) mix (by kernel_rfl) rfl rfl rfl
  | 14, _ => Tr.ev (n := 40) (N := 4) (keep := muK) (vc := true) (za0 _) mix (by kernel_rfl) rfl rfl rfl
  | 15, _ => Tr.ev (n := 40) (N := 4) (keep := muK) (vc := true) (za0 _) mix (by kernel_rfl) rfl rfl rfl
  | k + 16, h => absurd h (by omega)
theorem mu_step5 (f g l : Nat → Int) : ∀ k, k < 16 → Tr Tryz.prog 0 muB (stOf (muT 5 k) (muG f g l)) .normal (stOf (muT 5 (k + 1)) (muG f g (muV f g l 5 k)))
  | 0, _ => Tr.ev (n := 40) (N := 4) (keep := muK) (vc := true) (za0 _) mix (by kernel_rfl) rfl rfl rfl
  | 1, _ => Tr.ev (n := 40) (N := 4) (keep := muK) (vc := true) (za0 _) mix (by kernel_rfl) rfl rfl rfl
  | 2, _ => Tr.ev (n := 40) (N := 4) (keep := muK) (vc := true) (za0 _) mix (by kernel_rfl) rfl rfl rfl
  | 3, _ => Tr.ev (n := 40) (N := 4) (keep := muK) (vc := true) (za0 _) mix (by kernel_rfl) rfl rfl rfl
  | 4, _ => Tr.ev (n := 40) (N := 4) (keep := muK) (vc := true) (za0 _) mix (by kernel_rfl) rfl rfl rfl
  | 5, _ => Tr.ev (n := 40) (N := 4) (keep := muK) (vc := true) (za0 _) mix (by kernel_rfl) rfl rfl rfl
  | 6, _ => Tr.ev (n := 40) (N := 4) (keep := muK) (vc := true) (za0 _) mix (by kernel_rfl) rfl rfl rfl
  | 7, _ => Tr.ev (n := 40) (N := 4) (keep := muK) (vc := true) (za0 _) mix (by kernel_rfl) rfl rfl rfl
  | 8, _ => Tr.ev (n := 40) (N := 4) (keep := muK) (vc := true) (za0 _) mix (by kernel_rfl) rfl rfl rfl
  | 9, _ => Tr.ev (n := 40) (N := 4) (keep := muK) (vc := true) (za0 _) mix (by kernel_rfl) rfl rfl rfl
  | 10, _ => Tr.ev (n := 40) (N := 4) (keep := muK) (vc := true) (za0 _) mix (by kernel_rfl) rfl rfl rfl
  | 11, _ => Tr.ev (n := 40) (N := 4) (keep := muK) (vc := true) (za0 _) mix (by kernel_rfl) rfl rfl rfl
  | 12, _ => Tr.ev (n := 40) (N := 4) (keep := muK) (vc := true) (za0 _) mix (by kernel_rfl) rfl rfl rfl
  | 13, _ => Tr.ev (n := 40) (N := 4) (keep := muK) (vc := true) (za0 _) mix (by kernel_rfl) rfl rfl rfl
  | 14, _ => Tr.ev (n := 40) (N := 4) (keep := muK) (vc := true) (za0 _) mix (by kernel_rfl) rfl rfl rfl
  | 15, _ => Tr.ev (n := 40) (N := 4) (keep := muK) (vc := true) (za0 _) mix (by kernel_rfl) rfl rfl rfl
  | k + 16, h => absurd h (by omega)
theorem mu_step6 (f g l : Nat → Int) : ∀ k, k < 16 → Tr Tryz.prog 0 muB (stOf (muT 6 k) (muG f g l)) .normal (stOf (muT 6 (k + 1)) (muG f g (muV f g l 6 k)))
  | 0, _ => Tr.ev (n := 40) (N := 4) (keep := muK) (vc := true) (za0 _) mix (by kernel_rfl) rfl rfl rfl
  | 1, _ => Tr.ev (n := 40) (N := 4) (keep := muK) (vc := true) (za0 _) mix (by kernel_rfl) rfl rfl rfl
  | 2, _ => Tr.ev (n := 40) (N := 4) (keep := muK) (vc := true) (za0 _) mix (by kernel_rfl) rfl rfl rfl
  | 3, _ => Tr.ev (n := 40) (N := 4) (keep := muK) (vc := true) (za0 _) mix (by kernel_rfl) rfl rfl rfl
  | 4, _ => Tr.ev (n := 40) (N := 4) (keep := muK) (vc := true) (za0 _) mix (by kernel_rfl) rfl rfl rfl
  | 5, _ => Tr.ev (n := 40) (N := 4) (keep := muK) (vc := true) (za0 _) mix (by kernel_rfl) rfl rfl rfl
  | 6, _ => Tr.ev (n := 40) (N := 4) (keep := muK) (vc := true) (za0 _) mix (by kernel_rfl) rfl rfl rfl
  | 7, _ => Tr.ev (n := 40) (N := 4) (keep := muK) (vc := true) (za0 _) mix (by kernel_rfl) rfl rfl rfl
  | 8, _ => Tr.ev (n := 40) (N := 4) (keep := muK) (vc := true) (za0 _) mix (by kernel_rfl) rfl rfl rfl
  | 9, _ => Tr.ev (n := 40) (N := 4) (keep := muK) (vc := true) (za0 _) mix (by kernel_rfl) rfl rfl rfl
  | 10, _ => Tr.ev (n := 40) (N := 4) (keep := muK) (vc := true) (za0 _) mix (by kernel_rfl) rfl rfl rfl
  | 11, _ => Tr.ev (n := 40) (N := 4) (keep := muK) (vc := true) (za0 _) mix (by kernel_rfl) rfl rfl rfl
  | 12, _ => Tr.ev (n := 40) (N := 4) (keep := muK) (vc := true) (za0 _) mix (by kernel_rfl) rfl rfl rfl
  | 13, _ => Tr.ev (n := 40) (N := 4) (keep := muK) (vc := true) (za0 _) mix (by kernel_rfl) rfl rfl rfl
  | 14, _ => Tr.ev (n := 40) (N := 4) (keep := muK) (vc := true) (za0 _) mix (by kernel_rfl) rfl rfl rfl
  | 15, _ => Tr.ev (n := 40) (N := 4) (keep := muK) (vc := true) (za0 _) mix (by kernel_rfl) rfl rfl rfl
  | k + 16, h => absurd h (by omega)
theorem mu_step7 (f g l : Nat → Int) : ∀ k, k < 16 → Tr Tryz.prog 0 muB (stOf (muT 7 k) (muG f g l)) .normal (stOf (muT 7 (k + 1)) (muG f g (muV f g l 7 k)))
  | 0, _ => Tr.ev (n := 40) (N := 4) (keep := muK) (vc := true) (za0 _) mix (by kernel_rfl) rfl rfl rfl
  | 1, _ => Tr.ev (n := 40) (N := 4) (keep := muK) (vc := true) (za0 _) mix (by kernel_rfl) rfl rfl rfl
  | 2, _ => Tr.ev (n := 40) (N := 4) (keep := muK) (vc := true) (za0 _) mix (by kernel_rfl) rfl rfl rfl
  | 3, _ => Tr.ev (n := 40) (N := 4) (keep := muK) (vc := true) (za0 _) mix (by kernel_rfl) rfl rfl rfl
  | 4, _ => Tr.ev (n := 40) (N := 4) (keep := muK) (vc := true) (za0 _) mix (by kernel_rfl) rfl rfl rfl
  | 5, _ => Tr.ev (n := 40) (N := 4) (keep := muK) (vc := true) (za0 _) mix (by kernel_rfl) rfl rfl rfl
  | 6, _ => Tr.ev (n := 40) (N := 4) (keep := muK) (vc := true) (za0 _) mix (by kernel_rfl) rfl rfl rfl
  | 7, _ => Tr.ev (n := 40) (N := 4) (keep := muK) (vc := true) (za0 _) mix (by kernel_rfl) rfl rfl rfl
  | 8, _ => Tr.ev (n := 40) (N := 4) (keep := muK) (vc := true) (za0 _) mix (by kernel_rfl) rfl rfl rfl
  | 9, _ => Tr.ev (n := 40) (N := 4) (keep := muK) (vc := true) (za0 _) mix (by kernel_rfl) rfl rfl rfl
  | 10, _ => Tr.ev (n := 40) (N := 4) (keep := muK) (vc := true) (za0 _) mix (by kernel_rfl) rfl rfl rfl
  | 11, _ => Tr.ev (n := 40) (N := 4) (keep := muK) (vc := true) (za0 _) mix (by kernel_rfl) rfl rfl rfl
  | 12, _ => Tr.ev (n := 40) (N := 4) (keep := muK) (vc := true) (za0 _) mix (by kernel_rfl) rfl rfl rfl
  | 13, _ => Tr.ev (n := 40) (N := 4) (keep := muK) (vc := true) (za0 _) mix (by kernel_rfl) rfl rfl rfl
  | 14, _ => Tr.ev (n := 40) (N := 4) (keep := muK) (vc := true) (za0 _) mix (by kernel_rfl) rfl rfl rfl
  | 15, _ => Tr.ev (n := 40) (N := 4) (keep := muK) (vc := true) (za0 _) mix (by kernel_rfl) rfl rfl rfl
  | k + 16, h => absurd h (by omega)
theorem mu_step8 (f g l : Nat → Int) : ∀ k, k < 16 → Tr Tryz.prog 0 muB (stOf (muT 8 k) (muG f g l)) .normal (stOf (muT 8 (k + 1)) (muG f g (muV f g l 8 k)))
  | 0, _ => Tr.ev (n := 40) (N := 4) (keep := muK) (vc := true) (za0 _) mix (by kernel_rfl) rfl rfl rfl
  | 1, _ => Tr.ev (n := 40) (N := 4) (keep := muK) (vc := true) (za0 _) mix (by kernel_rfl) rfl rfl rfl
  | 2, _ => Tr.ev (n := 40) (N := 4) (keep := muK) (vc := true) (za0 _) mix (by kernel_rfl) rfl rfl rfl
  | 3, _ => Tr.ev (n := 40) (N := 4) (keep := muK) (vc := true) (za0 _) mix (by kernel_rfl) rfl rfl rfl
  | 4, _ => Tr.ev (n := 40) (N := 4) (keep := muK) (vc := true) (za0 _) mix (by kernel_rfl) rfl rfl rfl
  | 5, _ => Tr.ev (n := 40) (N := 4) (keep := muK) (vc := true) (za0 _) mix (by kernel_rfl) rfl rfl rfl
  | 6, _ => Tr.ev (n := 40) (N := 4) (keep := muK) (vc := true) (za0 _) mix (by kernel_rfl) rfl rfl rfl
  | 7, _ => Tr.ev (n := 40) (N := 4) (keep := muK) (vc := true) (za0 _) mix (by kernel_rfl) rfl rfl rfl
  | 8, _ => Tr.ev (n := 40) (N := 4) (keep := muK) (vc := true) (za0 _) mix (by kernel_rfl) rfl rfl rfl
  | 9, _ => Tr.ev (n := 40) (N := 4) (keep := muK) (vc := true) (za0 _) mix (by kernel_rfl) rfl rfl rfl
  | 10, _ => Tr.ev (n := 40) (N := 4) (keep := muK) (vc := true) (za0 _) mix (by kernel_rfl) rfl rfl rfl
  | 11, _ => Tr.ev (n := 40) (N := 4) (keep := muK) (vc := true) (za0 _) mix (by kernel_rfl) rfl rfl rfl
  | 12, _ => Tr.ev (n := 40) (N := 4) (keep := muK) (vc := true) (za0 _) mix (by kernel_rfl) rfl rfl rfl
  | 13, _ => Tr.ev (n := 40) (N := 4) (keep := muK) (vc := true) (za0 _) mix (by kernel_rfl) rfl rfl rfl
  | 14, _ => Tr.ev (n := 40) (N := 4) (keep := muK) (vc := true) (za0 _) mix (by kernel_rfl) rfl rfl rfl
  | 15, _ => Tr.ev (n := 40) (N := 4) (keep := muK) (vc := true) (za0 _) mix (by kernel_rfl) rfl rfl rfl
  | k + 16, h => absurd h (by omega)
theorem mu_step9 (f g l : Nat → Int) : ∀ k, k < 16 → Tr Tryz.prog 0 muB (stOf (muT 9 k) (muG f g l)) .normal (stOf (muT 9 (k + 1)) (muG f g (muV f g l 9 k)))
  | 0, _ => Tr.ev (n := 40) (N := 4) (keep := muK) (vc := true) (za0 _) mix (by kernel_rfl) rfl rfl rfl
  | 1, _ => Tr.ev (n := 40) (N := 4) (keep := muK) (vc := true) (za0 _) mix (by kernel_rfl) rfl rfl rfl
  | 2, _ => Tr.ev (n := 40) (N := 4) (keep := muK) (vc := true) (za0 _) mix (by kernel_rfl) rfl rfl rfl
  | 3, _ => Tr.ev (n := 40) (N := 4) (keep := muK) (vc := true) (za0 _) mix (by kernel_rfl) rfl rfl rfl
  | 4, _ => Tr.ev (n := 40) (N := 4) (keep := muK) (vc := true) (za0 _) mix (by kernel_rfl) rfl rfl rfl
  | 5, _ => Tr.ev (n := 40) (N := 4) (keep := muK) (vc := true) (za0 _) mix (by kernel_rfl) rfl rfl rfl
  | 6, _ => Tr.ev (n := 40) (N := 4) (keep := muK) (vc := true) (za0 _) mix (by kernel_rfl) rfl rfl rfl
  | 7, _ => Tr.ev (n := 40) (N := 4) (keep := muK) (vc := true) (za0 _) mix (by kernel_rfl) rfl rfl rfl
  | 8, _ => Tr.ev (n := 40) (N := 4) (keep := muK) (vc := true) (za0 _) mix (by kernel_rfl) rfl rfl rfl
  | 9, _ => Tr.ev (n := 40) (N := 4) (keep := muK) (vc := true) (za0 _) mix (by kernel_rfl) rfl rfl rfl
  | 10, _ => Tr.ev (n := 40) (N := 4) (keep := muK) (vc := true) (za0 _) mix (by kernel_rfl) rfl rfl rfl
  | 11, _ => Tr.ev (n := 40) (N := 4) (keep := muK) (vc := true) (za0 _) mix (by kernel_rfl) rfl rfl rfl
  | 12, _ => Tr.ev (n := 40) (N := 4) (keep := muK) (vc := true) (za0 _) mix (by kernel_rfl) rfl rfl rfl
  | 13, _ => Tr.ev (n := 40) (N := 4) (keep := muK) (vc := true) (za0 _) mix (by kernel_rfl) rfl rfl rfl
  | 14, _ => Tr.ev (n := 40) (N := 4) (keep := muK) (vc := true) (za0 _) mix (by kernel_rfl) rfl rfl rfl
  | 15, _ => Tr.ev (n := 40) (N := 4) (keep := muK) (vc := true) (za0 _) mix (by kernel_rfl) rfl rfl rfl
  | k + 16, h => absurd h (by omega)
theorem mu_step10 (f g l : Nat → Int) : ∀ k, k < 16 → Tr Tryz.prog 0 muB (stOf (muT 10 k) (muG f g l)) .normal (stOf (muT 10 (k + 1)) (muG f g (muV f g l 10 k)))
  | 0, _ => Tr.ev (n := 40) (N := 4) (keep := muK) (vc := true) (za0 _) mix (by kernel_rfl) rfl rfl rfl
  | 1, _ => Tr.ev (n := 40) (N := 4) (keep := muK) (vc := true) (za0 _) mix (by kernel_rfl) rfl rfl rfl
  | 2, _ => Tr.ev (n := 40) (N := 4) (keep := muK) (vc := true) (za0 _) mix (by kernel_rfl) rfl rfl rfl
  | 3, _ => Tr.ev (n := 40) (N := 4) (keep := muK) (vc := true) (za0 _) mix (by kernel_rfl) rfl rfl rfl
  | 4, _ => Tr.ev (n := 40) (N := 4) (keep := muK) (vc := true) (za0 _) mix (by kernel_rfl) rfl rfl rfl
  | 5, _ => Tr.ev (n := 40) (N := 4) (keep := muK) (vc := true) (za0 _) mix (by kernel_rfl) rfl rfl rfl
  | 6, _ => Tr.ev (n := 40) (N := 4) (keep := muK) (vc := true) (za0 _) mix (by kernel_rfl) rfl rfl rfl
  | 7, _ => Tr.ev (n := 40) (N := 4) (keep := muK) (vc := true) (za0 _) mix (by kernel_rfl) rfl rfl rfl
  | 8, _ => Tr.ev (n := 40) (N := 4) (keep := muK) (vc := true) (za0 _) mix (by kernel_rfl) rfl rfl rfl
  | 9, _ => Tr.ev (n := 40) (N := 4) (keep := muK) (vc := true) (za0 _) mix (by kernel_rfl) rfl rfl rfl
  | 10, _ => Tr.ev (n := 40) (N := 4) (keep := muK) (vc := true) (za0 _) mix (by kernel_rfl) rfl rfl rfl
  | 11, _ => Tr.ev (n := 40) (N := 4) (keep := muK) (vc := true) (za0 _) mix (by kernel_rfl) rfl rfl rfl
  | 12, _ => Tr.ev (n := 40) (N := 4) (keep := muK) (vc := true) (za0 _) mix (by kernel_rfl) rfl rfl rfl
  | 13, _ => Tr.ev (n := 40) (N := 4) (keep := muK) (vc := true) (za0 _) mix (by kernel_rfl) rfl rfl rfl
  | 14, _ => Tr.ev (n := 40) (N := 4) (keep := muK) (vc := true) (za0 _) mix (by kernel_rfl) rfl rfl rfl
  | 15, _ => Tr.ev (n := 40) (N := 4) (keep := muK) (vc := true) (za0 _) mix (by kernel_rfl) rfl rfl rfl
  | k + 16, h => absurd h (by omega)
theorem mu_step11 (f g l : Nat → Int) : ∀ k, k < 16 → Tr Tryz.prog 0 muB (stOf (muT 11 k) (muG f g l)) .normal (stOf (muT 11 (k + 1)) (muG f g (muV f g l 11 k)))
  | 0, _ => Tr.ev (n := 40) (N := 4) (keep := muK) (vc := true) (za0 _) mix (by kernel_rfl) rfl rfl rfl
  | 1, _ => Tr.ev (n := 40) (N := 4) (keep := muK) (vc := true) (za0 _) mix (by kernel_rfl) rfl rfl rfl
  | 2, _ => Tr.ev (n := 40) (N := 4) (keep := muK) (vc := true) (za0 _) mix (by kernel_rfl) rfl rfl rfl
  | 3, _ => Tr.ev (n := 40) (N := 4) (keep := muK) (vc := true) (za0 _) mix (by kernel_rfl) rfl rfl rfl
  | 4, _ => Tr.ev (n := 40) (N := 4) (keep := muK) (vc := true) (za0 _) mix (by kernel_rfl) rfl rfl rfl
  | 5, _ => Tr.ev (n := 40) (N := 4) (keep := muK) (vc := true) (za0 _) mix (by kernel_rfl) rfl rfl rfl
  | 6, _ => Tr.ev (n := 40) (N := 4) (keep := muK) (vc := true) (za0 _) mix (by kernel_rfl) rfl rfl rfl
  | 7, _ => Tr.ev (n := 40) (N := 4) (keep := muK) (vc := true) (za0 _) mix (by kernel_rfl) rfl rfl rfl
  | 8, _ => Tr.ev (n := 40) (N := 4) (keep := muK) (vc := true) (za0 _) mix (by kernel_rfl) rfl rfl rfl
  | 9, _ => Tr.ev (n := 40) (N := 4) (keep := muK) (vc := true) (za0 _) mix (by kernel_rfl) rfl rfl rfl
  | 10, _ => Tr.ev (n := 40) (N := 4) (keep := muK) (vc := true) (za0 _) mix (by kernel_rfl) rfl rfl rfl
  | 11, _ => Tr.ev (n := 40) (N := 4) (keep := muK) (vc := true) (za0 _) mix (by kernel_rfl) rfl rfl rfl
  | 12, _ => Tr.ev (n := 40) (N := 4) (keep := muK) (vc := true) (za0 _) mix (by kernel_rfl) rfl rfl rfl
  | 13, _ => Tr.ev (n := 40) (N := 4) (keep := muK) (vc := true) (za0 _) mix (by kernel_rfl) rfl rfl rfl
  | 14, _ => Tr.ev (n := 40) (N := 4) (keep := muK) (vc := true) (za0 _) mix (by kernel_rfl) rfl rfl rfl
  | 15, _ => Tr.ev (n := 40) (N := 4) (keep := muK) (vc := true) (za0 _) mix (by kernel_rfl) rfl rfl rfl
  | k + 16, h => absurd h (by omega)
theorem mu_step12 (f g l : Nat → Int) : ∀ k, k < 16 → Tr Tryz.prog 0 muB (stOf (muT 12 k) (muG f g l)) .normal (stOf (muT 12 (k + 1)) (muG f g (muV f g l 12 k)))
  | 0, _ => Tr.ev (n := 40) (N := 4) (keep := muK) (vc := true) (za0 _) mix (by kernel_rfl) rfl rfl rfl
  | 1, _ => Tr.ev (n := 40) (N := 4) (keep := muK) (vc := true) (za0 _) mix (by kernel_rfl) rfl rfl rfl
  | 2, _ => Tr.ev (n := 40) (N := 4) (keep := muK) (vc := true) (za0 _) mix (by kernel_rfl) rfl rfl rfl
  | 3, _ => Tr.ev (n := 40) (N := 4) (keep := muK) (vc := true) (za0 _) mix (by kernel_rfl) rfl rfl rfl
  | 4, _ => Tr.ev (n := 40) (N := 4) (keep := muK) (vc := true) (za0 _) mix (by kernel_rfl) rfl rfl rfl
  | 5, _ => Tr.ev (n := 40) (N := 4) (keep := muK) (vc := true) (za0 _) mix (by kernel_rfl) rfl rfl rfl
  | 6, _ => Tr.ev (n := 40) (N := 4) (keep := muK) (vc := true) (za0 _) mix (by kernel_rfl) rfl rfl rfl
  | 7, _ => Tr.ev (n := 40) (N := 4) (keep := muK) (vc := true) (za0 _) mix (by kernel_rfl) rfl rfl rfl
  | 8, _ => Tr.ev (n := 40) (N := 4) (keep := muK) (vc := true) (za0 _) mix (by kernel_rfl) rfl rfl rfl
  | 9, _ => Tr.ev (n := 40) (N := 4) (keep := muK) (vc := true) (za0 _) mix (by kernel_rfl) rfl rfl rfl
  | 10, _ => Tr.ev (n := 40) (N := 4) (keep := muK) (vc := true) (za0 _) mix (by kernel_rfl) rfl rfl rfl
  | 11, _ => Tr.ev (n := 40) (N := 4) (keep := muK) (vc := true) (za0 _) mix (by kernel_rfl) rfl rfl rfl
  | 12, _ => Tr.ev (n := 40) (N := 4) (keep := muK) (vc := true) (za0 _) mix (by kernel_rfl) rfl rfl rfl
  | 13, _ => Tr.ev (n := 40) (N := 4) (keep := muK) (vc := true) (za0 _) mix (by kernel_rfl) rfl rfl rfl
  | 14, _ => Tr.ev (n := 40) (N := 4) (keep := muK) (vc := true) (za0 _) mix (by kernel_rfl) rfl rfl rfl
  | 15, _ => Tr.ev (n := 40) (N := 4) (keep := muK) (vc := true) (za0 _) mix (by kernel_rfl) rfl rfl rfl
  | k + 16, h => absurd h (by omega)
theorem mu_step13 (f g l : Nat → Int) : ∀ k, k < 16 → Tr Tryz.prog 0 muB (stOf (muT 13 k) (muG f g l)) .normal (stOf (muT 13 (k + 1)) (muG f g (muV f g l 13 k)))
  | 0, _ => Tr.ev (n := 40) (N := 4) (keep := muK) (vc := true) (za0 _) mix (by kernel_rfl) rfl rfl rfl
  | 1, _ => Tr.ev (n := 40) (N := 4) (keep := muK) (vc := true) (za0 _) mix (by kernel_rfl) rfl rfl rfl
  | 2, _ => Tr.ev (n := 40) (N := 4) (keep := muK) (vc := true) (za0 _) mix (by kernel_rfl) rfl rfl rfl
  | 3, _ => Tr.ev (n := 40) (N := 4) (keep := muK) (vc := true) (za0 _) mix (by kernel_rfl) rfl rfl rfl
  | 4, _ => Tr.ev (n := 40) (N := 4) (keep := muK) (vc := true) (za0 _) mix (by kernel_rfl) rfl rfl rfl
  | 5, _ => Tr.ev (n := 40) (N := 4) (keep := muK) (vc := true) (za0 _) mix (by kernel_rfl) rfl rfl rfl
  | 6, _ => Tr.ev (n := 40) (N := 4) (keep := muK) (vc := true) (za0 _) mix (by kernel_rfl) rfl rfl rfl
  | 7, _ => Tr.ev (n := 40) (N := 4) (keep := muK) (vc := true) (za0 _) mix (by kernel_rfl) rfl rfl rfl
  | 8, _ => Tr.ev (n := 40) (N := 4) (keep := muK) (vc := true) (za0 _) mix (by kernel_rfl) rfl rfl rfl
  | 9, _ => Tr.ev (n := 40) (N := 4) (keep := muK) (vc := true) (za0 _) mix (by kernel_rfl) rfl rfl rfl
  | 10, _ => Tr.ev (n := 40) (N := 4) (keep := muK) (vc := true) (za0 _) mix (by kernel_rfl) rfl rfl rfl
  | 11, _ => Tr.ev (n := 40) (N := 4) (keep := muK) (vc := true) (za0 _) mix (by kernel_rfl) rfl rfl rfl
  | 12, _ => Tr.ev (n := 40) (N := 4) (keep := muK) (vc := true) (za0 _) mix (by kernel_rfl) rfl rfl rfl
  | 13, _ => Tr.ev (n := 40) (N := 4) (keep := muK) (vc := true) (za0 _) mix (by kernel_rfl) rfl rfl rfl
  | 14, _ => Tr.ev (n := 40) (N := 4) (keep := muK) (vc := true) (za0 _) mix (by kernel_rfl) rfl rfl rfl
  | 15, _ => Tr.ev (n := 40) (N := 4) (keep := muK) (vc := true) (za0 _) mix (by kernel_rfl) rfl rfl rfl
  | k + 16, h => absurd h (by omega)
theorem mu_step14 (f g l : Nat → Int) : ∀ k, k < 16 → Tr Tryz.prog 0 muB (stOf (muT 14 k) (muG f g l)) .normal (stOf (muT 14 (k + 1)) (muG f g (muV f g l 14 k)))
  | 0, _ => Tr.ev (n := 40) (N := 4) (keep := muK) (vc := true) (za0 _) mix (by kernel_rfl) rfl rfl rfl
  | 1, _ => Tr.ev (n := 40) (N := 4) (keep := muK) (vc := true) (za0 _) mix (by kernel_rfl) rfl rfl rfl
  | 2, _ => Tr.ev (n := 40) (N := 4) (keep := muK) (vc := true) (za0 _) mix (by kernel_rfl) rfl rfl rfl
  | 3, _ => Tr.ev (n := 40) (N := 4) (keep := muK) (vc := true) (za0 _) mix (by kernel_rfl) rfl rfl rfl
  | 4, _ => Tr.ev (n := 40) (N := 4) (keep := muK) (vc := true) (za0 _) mix (by kernel_rfl) rfl rfl rfl
  | 5, _ => Tr.ev (n := 40) (N := 4) (keep := muK) (vc := true) (za0 _) mix (by kernel_rfl) rfl rfl rfl
  | 6, _ => Tr.ev (n := 40) (N := 4) (keep := muK) (vc := true) (za0 _) mix (by kernel_rfl) rfl rfl rfl
  | 7, _ => Tr.ev (n := 40) (N := 4) (keep := muK) (vc := true) (za0 _) mix (by kernel_rfl) rfl rfl rfl
  | 8, _ => Tr.ev (n := 40) (N := 4) (keep := muK) (vc := true) (za0 _) mix (by kernel_rfl) rfl rfl rfl
  | 9, _ => Tr.ev (n := 40) (N := 4) (keep := muK) (vc := true) (za0 _) mix (by kernel_rfl) rfl rfl rfl
  | 10, _ => Tr.ev (n := 40) (N := 4) (keep := muK) (vc := true) (za0 _) mix (by kernel_rfl) rfl rfl rfl
  | 11, _ => Tr.ev (n := 40) (N := 4) (keep := muK) (vc := true) (za0 _) mix (by kernel_rfl) rfl rfl rfl
  | 12, _ => Tr.ev (n := 40) (N := 4) (keep := muK) (vc := true) (za0 _) mix (by kernel_rfl) rfl rfl rfl
  | 13, _ => Tr.ev (n := 40) (N := 4) (keep := muK) (vc := true) (za0 _) mix (by kernel_rfl) rfl rfl rfl
  | 14, _ => Tr.ev (n := 40) (N := 4) (keep := muK) (vc := true) (za0 _) mix (by kernel_rfl) rfl rfl rfl
  | 15, _ => Tr.ev (n := 40) (N := 4) (keep := muK) (vc := true) (za0 _) mix (by kernel_rfl) rfl rfl rfl
  | k + 16, h => absurd h (by omega)
theorem mu_step15 (f g l : Nat → Int) : ∀ k, k < 16 → Tr Tryz.prog 0 muB (stOf (muT 15 k) (muG f g l)) .normal (stOf (muT 15 (k + 1)) (muG f g (muV f g l 15 k)))
  | 0, _ => Tr.ev (n := 40) (N := 4) (keep := muK) (vc := true) (za0 _) mix (by kernel_rfl) rfl rfl rfl
  | 1, _ => Tr.ev (n := 40) (N := 4) (keep := muK) (vc := true) (za0 _) mix (by kernel_rfl) rfl rfl rfl
  | 2, _ => Tr.ev (n := 40) (N := 4) (keep := muK) (vc := true) (za0 _) mix (by kernel_rfl) rfl rfl rfl
  | 3, _ => Tr.ev (n := 40) (N := 4) (keep := muK) (vc := true) (za0 _) mix (by kernel_rfl) rfl rfl rfl
  | 4, _ => Tr.ev (n := 40) (N := 4) (keep := muK) (vc := true) (za0 _) mix (by kernel_rfl) rfl rfl rfl
  | 5, _ => Tr.ev (n := 40) (N := 4) (keep := muK) (vc := true) (za0 _) mix (by kernel_rfl) rfl rfl rfl
  | 6, _ => Tr.ev (n := 40) (N := 4) (keep := muK) (vc := true) (za0 _) mix (by kernel_rfl) rfl rfl rfl
  | 7, _ => Tr.ev (n := 40) (N := 4) (keep := muK) (vc := true) (za0 _) mix (by kernel_rfl) rfl rfl rfl
  | 8, _ => Tr.ev (n := 40) (N := 4) (keep := muK) (vc := true) (za0 _) mix (by kernel_rfl) rfl rfl rfl
  | 9, _ => Tr.ev (n := 40) (N := 4) (keep := muK) (vc := true) (za0 _) mix (by kernel_rfl) rfl rfl rfl
  | 10, _ => Tr.ev (n := 40) (N := 4) (keep := muK) (vc := true) (za0 _) mix (by kernel_rfl) rfl rfl rfl
  | 11, _ => Tr.ev (n := 40) (N := 4) (keep := muK) (vc := true) (za0 _) mix (by kernel_rfl) rfl rfl rfl
  | 12, _ => Tr.ev (n := 40) (N := 4) (keep := muK) (vc := true) (za0 _) mix (by kernel_rfl) rfl rfl rfl
  | 13, _ => Tr.ev (n := 40) (N := 4) (keep := muK) (vc := true) (za0 _) mix (by kernel_rfl) rfl rfl rfl
  | 14, _ => Tr.ev (n := 40) (N := 4) (keep := muK) (vc := true) (za0 _) mix (by kernel_rfl) rfl rfl rfl
  | 15, _ => Tr.ev (n := 40) (N := 4) (keep := muK) (vc := true) (za0 _) mix (by kernel_rfl) rfl rfl rfl
  | k + 16, h => absurd h (by omega)
theorem mu_step (f g l : Nat → Int) : ∀ i, i < 16 → ∀ k, k < 16 → Tr Tryz.prog 0 muB (stOf (muT i k) (muG f g l)) .normal (stOf (muT i (k + 1)) (muG f g (muV f g l i k)))
  | 0, _ => mu_step0 f g l
  | 1, _ => mu_step1 f g l
  | 2, _ => mu_step2 f g l
  | 3, _ => mu_step3 f g l
  | 4, _ => mu_step4 f g l
  | 5, _ => mu_step5 f g l
  | 6, _ => mu_step6 f g l
  | 7, _ => mu_step7 f g l
  | 8, _ => mu_step8 f g l
  | 9, _ => mu_step9 f g l
  | 10, _ => mu_step10 f g l
  | 11, _ => mu_step11 f g l
  | 12, _ => mu_step12 f g l
  | 13, _ => mu_step13 f g l
  | 14, _ => mu_step14 f g l
  | 15, _ => mu_step15 f g l
  | k + 16, h => absurd h (by omega)
def muR (f g l : Nat → Int) (i : Nat) : Nat → Nat → Int
  | 0 => l
  | k + 1 => muV f g (muR f g l i k) i k
def muL (f g : Nat → Int) : Nat → Nat → Int
  | 0 => fun _ => 0
  | i + 1 => muR f g (muL f g i) i 16
theorem mu_round (f g l : Nat → Int) (i : Nat) (hi : i < 16) : Tr Tryz.prog 0 muRB (stOf (muA (i : Nat)) (muG f g l)) .normal (stOf (muA ((i + 1 : Nat) : Int)) (muG f g (muR f g l i 16))) := by
  rw [muRB_eq]
  refine Tr.seq (mu_test f g l i hi) (Tr.seq (Tr.block (s1 := stOf (muT i 16) (muG f g (muR f g l i 16))) ?_ (by intro i h; cases h)) (mu_next f g _ i hi))
  refine Tr.pre (za0 _) mix 1 muK (mu_zero f g l i) rfl ?_
  rw [muI_eq]
  exact Tr.iter (S := fun k => stOf (muT i k) (muG f g (muR f g l i k))) (n := 16) (fun k hk => mu_step f g _ i hi k hk) (mu_end f g _ i)
def muT9 : List T := tmk [(4, .ptr 2 [])] 0 36
noncomputable def muG9 (f g l : Nat → Int) : Heap := [some (D16 f), some (D16 g), some (nnA (foldF l)), some (D32 l)]
theorem mu_post (f g l : Nat → Int) (h : foldB l = true) : Tr Tryz.prog 0 (cR muX) (stOf (muA 16) (muG f g l)) .ret (stOf muT9 (muG9 f g l)) :=
  Tr.ev (n := 1000000) (N := 4) (keep := za2 [4]) (vc := (foldB l && true) && true) envR1_ok mix (by kernel_rfl) (by rw [h]; rfl) rfl rfl
theorem mu_tr (f g : Nat → Int) (h : foldB (muL f g 16) = true) : Tr Tryz.prog 0 muC (stOf ([D16 f, D16 g] ++ zb4 34) []) .ret (stOf muT9 (muG9 f g (muL f g 16))) := by
  refine Tr.pre (za0 _) mix 2 muK (mu_pre f g) rfl ?_
  rw [muX_eq]
  refine Tr.seq (s1 := stOf (muA 16) (muG f g (muL f g 16))) ?_ (mu_post f g _ h)
  refine Tr.pre (za0 _) mix 1 muK (mu_ini f g _) rfl ?_
  exact Tr.iter (S := fun i => stOf (muA (i : Nat)) (muG f g (muL f g i))) (n := 16) (fun i hi => mu_round f g _ i hi) (mu_last f g _)
noncomputable def vF (f : Nat → Int) : F := hid (fun (f : Nat → Int) => toF (vD f : Nat)) f
theorem vF_eq (f : Nat → Int) : vF f = toF (vD f : Nat) := by unfold vF; rw [zb5]
theorem vF_dg (v : F) : vF (dg v) = v := by rw [vF_eq, vD_dg, toF_nat]
noncomputable def asN : T → Option (Bool × F)
  | .ints .u64 16 f => some (digB f, vF f)
  | .abs (.nn v) => some (true, v)
  | _ => none
theorem asN_v {t : T} {c : Bool} {u : F} {ρ ρ' : Rho} {x : Value} (h : asN t = some (c, u)) (hc : c = true) (hx : (R ρ t).v x) : ∃ f, digs 65536 16 f ∧ vF f = u ∧ (R ρ' (D16 f)).v x := by
  unfold asN at h
  split at h
  · rename_i f
    cases h
    exact ⟨f, digB_spec.1 hc, rfl, (zc5 (t := .ints .u64 16 f) rfl ρ ρ').2.1 _ hx⟩
  · cases h
    exact ⟨dg _, dg_digs _, vF_dg _, hx⟩
  · cases h
theorem natB_up {f : Nat → Int} (h : ∀ j, 16 ≤ j → j < 32 → f j = 0) : natB 65536 f 32 = natB 65536 f 16 := by
  have := natB_add 65536 f 16 16
  rw [zp7 65536 16 (fun i hi => h (16 + i) (by omega) (by omega))] at this
  simpa using this
theorem W256_sq : (65536 : Nat) ^ 32 = W256 * W256 := by unfold W256; rw [← Nat.pow_add]
theorem ad_one {a b : Int} (ha : 0 ≤ a ∧ a < 65536) (hb : 0 ≤ b ∧ b < 65536) : IntKind.u64.wrap (a + b) = a + b := by
  simp only [IntKind.wrap_u64]; omega
theorem ad_val {f g : Nat → Int} (hf : digs 65536 16 f) (hg : digs 65536 16 g) : foldB (adL f g) = true ∧ foldF (adL f g) = vF f + vF g := by
  have hl : ∀ j, j < 16 → adL f g j = f j + (1 : Nat) * g j := fun j hj => by
    unfold adL
    rw [updN_eq hj, ad_one (hf j hj) (hg j hj)]
    omega
  have hh : ∀ j, 16 ≤ j → j < 32 → adL f g j = 0 := fun j hj _ => updN_ge hj
  have hv : natB 65536 (adL f g) 32 = vD f + vD g := by
    rw [natB_up hh, zc6 16 hl, natB_lin 65536 1 16 (fun i hi => ⟨(hf i hi).1, (hg i hi).1⟩), Nat.one_mul]
    rfl
  refine ⟨foldB_iff.2 ⟨fun i hi => ?_, ?_⟩, ?_⟩
  · rcases Nat.lt_or_ge i 16 with h | h
    · rw [hl i h]
      have := hf i h
      have := hg i h
      omega
    · rw [hh i h hi]; omega
  · rw [hv, W256_sq]
    have h1 : vD f < W256 := zd2 16 hf
    have h2 : vD g < W256 := zd2 16 hg
    have h3 : 2 * W256 ≤ W256 * W256 := Nat.mul_le_mul_right _ (by decide)
    omega
  · rw [foldF_eq, hv, vF_eq, vF_eq, ← toF_add]
    congr 1
noncomputable def n2M (op : F → F → F) : zb1
  | [a, b] => match asN a, asN b with
    | some (c, u), some (c', v) => some (c && c', nnA (op u v))
    | _, _ => none
  | _ => none
theorem n2M_ok {f : FuncId} {op : F → F → F} (h : ∀ a b : Nat → Int, digs 65536 16 a → digs 65536 16 b → ∃ M, SoundM Tryz.prog f M ∧ ∃ r, M [D16 a, D16 b] [] = some r ∧ r.vc = true ∧ r.v = nnA (op (vF a) (vF b))) : SoundM Tryz.prog f (za1 (n2M op)) := by
  refine SoundM.refineX ?_
  intro args vc v hm hvc ρ xs hargs
  unfold n2M at hm
  split at hm
  · split at hm
    · rename_i c u c' v' h1 h2
      cases hm
      simp only [Bool.and_eq_true] at hvc
      obtain ⟨x, _, rfl, hx, y, _, rfl, hy, rfl⟩ := hargs
      obtain ⟨a, da, rfl, hx'⟩ := asN_v (ρ' := rho0) h1 hvc.1 hx
      obtain ⟨b, db, rfl, hy'⟩ := asN_v (ρ' := rho0) h2 hvc.2 hy
      obtain ⟨M, hM, r, k1, k2, k3⟩ := h a b da db
      refine ⟨M, hM, [D16 a, D16 b], ⟨_, _, rfl, hx', _, _, rfl, hy', rfl⟩, r, k1, k2, fun ρ' w hw => ?_⟩
      rw [k3] at hw
      exact (zc5 (t := nnA _) rfl ρ' ρ).2.1 _ hw
    · cases hm
  · cases hm
theorem nAdd_ok : SoundM Tryz.prog 72 (za1 (n2M fadd)) := n2M_ok fun a b da db => by
  obtain ⟨h1, h2⟩ := ad_val da db
  obtain ⟨r, h3, h4, h5⟩ := za8 (add1_mv a b)
  exact ⟨_, SoundM.of_ev envR1_ok mix (n := 1000000) (fn := Tryz.f72) (by kernel_rfl) (by kernel_rfl) (by kernel_rfl), r, h3, by rw [h4, h1]; rfl, by rw [h5, h2, zj7]⟩
theorem natB_inc {l : Nat → Int} {p : Nat} {x : Nat} (hl : 0 ≤ l p) : ∀ n, p < n → natB 65536 (upd l p (l p + x)) n = natB 65536 l n + 65536 ^ p * x
  | 0, h => by omega
  | n + 1, h => by
    unfold natB
    by_cases hp : p = n
    · subst hp
      rw [zj9 p (Nat.le_refl _), zb9]
      have e : (l p + (x : Int)).toNat = (l p).toNat + x := by omega
      rw [e, Nat.mul_add]
      omega
    · rw [natB_inc hl n (by omega), zd3 (by omega)]
      omega
theorem mu_one {l a b : Int} (hl : 0 ≤ l ∧ l ≤ 68717379600) (ha : 0 ≤ a ∧ a < 65536) (hb : 0 ≤ b ∧ b < 65536) :
    ∃ x : Nat, (x : Int) = a * b ∧ (x : Int) ≤ 4294836225 ∧ x = a.toNat * b.toNat ∧ IntKind.u64.wrap (l + IntKind.u64.wrap (a * b)) = l + (x : Int) := by
  obtain ⟨a', rfl⟩ := Int.eq_ofNat_of_zero_le ha.1
  obtain ⟨b', rfl⟩ := Int.eq_ofNat_of_zero_le hb.1
  have h : a' * b' ≤ 65535 * 65535 := Nat.mul_le_mul (by omega) (by omega)
  refine ⟨a' * b', by simp, by omega, by simp, ?_⟩
  rw [show ((a' : Int) * (b' : Int)) = ((a' * b' : Nat) : Int) by simp]
  simp only [IntKind.wrap_u64]
  omega
theorem muR_inv {f g l : Nat → Int} (hf : digs 65536 16 f) (hg : digs 65536 16 g) {i : Nat} (hi : i < 16) (hl : ∀ j, 0 ≤ l j ∧ l j ≤ (i : Int) * 4294836225) : ∀ k, k ≤ 16 →
    (∀ j, 0 ≤ muR f g l i k j ∧ muR f g l i k j ≤ (if i + k ≤ j then (i : Int) else (i : Int) + 1) * 4294836225) ∧ natB 65536 (muR f g l i k) 32 = natB 65536 l 32 + 65536 ^ i * ((f i).toNat * natB 65536 g k)
  | 0, _ => ⟨fun j => ⟨(hl j).1, by
      have := (hl j).2
      show l j ≤ _
      split <;> omega⟩, by show natB 65536 l 32 = _; simp [natB]⟩
  | k + 1, h => by
    obtain ⟨h1, h2⟩ := muR_inv hf hg hi hl k (by omega)
    have hik := h1 (i + k)
    rw [if_pos (by omega)] at hik
    obtain ⟨x, hx1, hx2, hx3, hx4⟩ := mu_one (l := muR f g l i k (i + k)) (a := f i) (b := g k) (by omega) (hf i hi) (hg k (by omega))
    have e : muR f g l i (k + 1) = upd (muR f g l i k) (i + k) (muR f g l i k (i + k) + (x : Int)) := by
      show upd _ _ _ = _
      rw [hx4]
    rw [e]
    refine ⟨fun j => ?_, ?_⟩
    · by_cases hj : j = i + k
      · subst hj
        rw [zb9, if_neg (by omega)]
        omega
      · rw [zd3 hj]
        have := h1 j
        split at this
        · rw [if_pos (by omega)]; exact this
        · rw [if_neg (by omega)]; exact this
    · rw [natB_inc hik.1 32 (by omega), h2]
      show _ = _ + 65536 ^ i * ((f i).toNat * (natB 65536 g k + 65536 ^ k * (g k).toNat))
      rw [hx3, Nat.pow_add, Nat.mul_add, Nat.mul_add]
      have : 65536 ^ i * 65536 ^ k * ((f i).toNat * (g k).toNat) = 65536 ^ i * ((f i).toNat * (65536 ^ k * (g k).toNat)) := by
        rw [Nat.mul_assoc, Nat.mul_left_comm (65536 ^ k)]
      omega
theorem muL_inv {f g : Nat → Int} (hf : digs 65536 16 f) (hg : digs 65536 16 g) : ∀ i, i ≤ 16 → (∀ j, 0 ≤ muL f g i j ∧ muL f g i j ≤ (i : Int) * 4294836225) ∧ natB 65536 (muL f g i) 32 = natB 65536 f i * vD g
  | 0, _ => ⟨fun j => ⟨by show (0 : Int) ≤ 0; decide, by show (0 : Int) ≤ _; decide⟩, by
      rw [show muL f g 0 = fun _ => 0 from rfl, zp7 65536 32 (fun _ _ => rfl)]; simp [natB]⟩
  | i + 1, h => by
    obtain ⟨h1, h2⟩ := muL_inv hf hg i (by omega)
    obtain ⟨k1, k2⟩ := muR_inv hf hg (i := i) (by omega) h1 16 (Nat.le_refl _)
    refine ⟨fun j => ?_, ?_⟩
    · have := k1 j
      have e : muL f g (i + 1) j = muR f g (muL f g i) i 16 j := rfl
      rw [e]
      split at this <;> omega
    · show natB 65536 (muR f g (muL f g i) i 16) 32 = (natB 65536 f i + 65536 ^ i * (f i).toNat) * vD g
      rw [k2, h2, Nat.add_mul, Nat.mul_assoc]
      rfl
theorem mu_val {f g : Nat → Int} (hf : digs 65536 16 f) (hg : digs 65536 16 g) : foldB (muL f g 16) = true ∧ foldF (muL f g 16) = vF f * vF g := by
  obtain ⟨h1, h2⟩ := muL_inv hf hg 16 (Nat.le_refl _)
  refine ⟨foldB_iff.2 ⟨fun i hi => ?_, ?_⟩, ?_⟩
  · have := h1 i
    omega
  · rw [h2, W256_sq]
    have a : natB 65536 f 16 < W256 := zd2 16 hf
    have b : vD g < W256 := zd2 16 hg
    exact Nat.lt_of_le_of_lt (Nat.mul_le_mul (Nat.le_of_lt a) (Nat.le_refl _)) (Nat.mul_lt_mul_of_pos_left b (by decide))
  · rw [foldF_eq, h2, vF_eq, vF_eq, ← toF_mul]
    congr 1
theorem nMul_ok : SoundM Tryz.prog 69 (za1 (n2M fmul)) := n2M_ok fun a b da db => by
  obtain ⟨h1, h2⟩ := mu_val da db
  refine ⟨za1 (fun args => open Classical in if args = [D16 a, D16 b] then some (true, nnA (foldF (muL a b 16))) else none), ?_, ⟨true, nnA (foldF (muL a b 16)), [], 0, 0⟩, by simp [za1], rfl, by rw [h2, zc4]⟩
  refine SoundM.of_tr0 (fn := Tryz.f69) (c := muC) (by kernel_rfl) (by kernel_rfl) (by kernel_rfl) ?_
  intro args vc v hm hvc
  split at hm
  · rename_i e
    cases hm
    subst e
    exact ⟨rfl, rfl, .ret, _, [nnA (foldF (muL a b 16))], 4, .inl rfl, mu_tr a b h1, by kernel_rfl, rfl⟩
  · cases hm
noncomputable def nof (n : Int) : F := hid (fun (n : Int) => toF n) n
theorem nof_eq (n : Int) : nof n = toF n := by unfold nof; rw [zb5]
noncomputable def OfM : zb1
  | [.int .u64 n] => some (decide (0 ≤ n ∧ n < 4294967296), nnA (nof n))
  | _ => none
theorem of_val {n : Int} (h : 0 ≤ n ∧ n < 4294967296) : foldB (ofL n) = true ∧ foldF (ofL n) = toF n := by
  have h0 : ofL n 0 = n % 65536 := by
    unfold ofL
    rw [zd3 (by decide), zb9, Int.tmod_eq_emod_of_nonneg h.1]
  have h1 : ofL n 1 = n / 65536 := by
    unfold ofL
    rw [zb9, Int.tdiv_eq_ediv_of_nonneg h.1]
    have : IntKind.u64.wrap (n / 65536) = n / 65536 := by simp only [IntKind.wrap_u64]; omega
    rw [this, Int.tmod_eq_emod_of_nonneg (by omega)]
    omega
  have h2 : ∀ j, 2 ≤ j → ofL n j = 0 := fun j hj => by
    unfold ofL
    rw [zd3 (by omega), zd3 (by omega)]
  have hv : natB 65536 (ofL n) 32 = n.toNat := by
    have := natB_add 65536 (ofL n) 2 30
    rw [zp7 65536 30 (fun i _ => h2 (2 + i) (by omega))] at this
    rw [this]
    show 0 + 65536 ^ 0 * (ofL n 0).toNat + 65536 ^ 1 * (ofL n 1).toNat + _ = _
    rw [h0, h1]
    omega
  refine ⟨foldB_iff.2 ⟨fun i hi => ?_, ?_⟩, ?_⟩
  · rcases Nat.lt_or_ge i 2 with h3 | h3
    · have : i = 0 ∨ i = 1 := by omega
      rcases this with rfl | rfl
      · rw [h0]; omega
      · rw [h1]; omega
    · rw [h2 i h3]; omega
  · rw [hv]
    have : n.toNat < 4294967296 := by omega
    exact Nat.lt_trans this (by decide)
  · rw [foldF_eq, hv]
    congr 1
    omega
theorem Of_ok : SoundM Tryz.prog 71 (za1 OfM) := by
  refine (SoundM.of_ev envR1_ok mix (n := 1000000) (fn := Tryz.f71) (by kernel_rfl) (by kernel_rfl) (by kernel_rfl)).pure ?_
  intro args vc v h hvc
  unfold OfM at h
  split at h
  · cases h
    rw [decide_eq_true_eq] at hvc
    obtain ⟨h1, h2⟩ := of_val hvc
    obtain ⟨r, h3, h4, h5⟩ := za8 (of_mv _)
    exact ⟨rfl, rfl, r, h3, by rw [h4, h1]; rfl, by rw [h5, h2, nof_eq]⟩
  · cases h
theorem natB_pair (b : Nat → Int) (h : ∀ i, 0 ≤ b i) : ∀ n, natB 65536 (fun i => b (2 * i) + 256 * b (2 * i + 1)) n = natB 256 b (2 * n)
  | 0 => rfl
  | n + 1 => by
    rw [show 2 * (n + 1) = 2 * n + 1 + 1 by omega]
    show natB 65536 _ n + 65536 ^ n * (b (2 * n) + 256 * b (2 * n + 1)).toNat = natB 256 b (2 * n) + 256 ^ (2 * n) * (b (2 * n)).toNat + 256 ^ (2 * n + 1) * (b (2 * n + 1)).toNat
    rw [natB_pair b h n, Nat.pow_succ 256 (2 * n), Nat.pow_mul, show (256 : Nat) ^ 2 = 65536 from rfl]
    have e : (b (2 * n) + 256 * b (2 * n + 1)).toNat = (b (2 * n)).toNat + 256 * (b (2 * n + 1)).toNat := by
      have := h (2 * n)
      have := h (2 * n + 1)
      omega
    rw [e, Nat.mul_add, Nat.mul_assoc]
    omega
noncomputable def nLoadM : zb1
  | [.ints .u8 32 f] => some (za4 32 f, nnA (toF (num32 f)))
  | _ => none
theorem load_val {b : Nat → Int} (h : ∀ i, 0 ≤ b i ∧ b i < 256) : foldB (loL b) = true ∧ foldF (loL b) = toF (num32 b) := by
  have hl : ∀ j, j < 16 → loL b j = b (2 * j) + 256 * b (2 * j + 1) := fun j hj => by
    unfold loL
    rw [updN_eq hj]
    have h1 := h (2 * j)
    have h2 := h (2 * j + 1)
    simp only [IntKind.wrap_u64]
    omega
  have hh : ∀ j, 16 ≤ j → j < 32 → loL b j = 0 := fun j hj _ => updN_ge hj
  have hv : natB 65536 (loL b) 32 = natN b 32 := by
    rw [natB_up hh, zc6 16 hl, natB_pair b (fun i => (h i).1), natN_natB]
  have hd : digs 65536 16 (loL b) := fun i hi => by
    rw [hl i hi]
    have h1 := h (2 * i)
    have h2 := h (2 * i + 1)
    omega
  refine ⟨foldB_iff.2 ⟨fun i hi => ?_, ?_⟩, ?_⟩
  · rcases Nat.lt_or_ge i 16 with h3 | h3
    · have := hd i h3
      omega
    · rw [hh i h3 hi]; omega
  · rw [natB_up hh, W256_sq]
    exact Nat.lt_of_lt_of_le (zd2 16 hd) (Nat.le_mul_of_pos_left _ (by decide))
  · rw [foldF_eq, hv, num32_nat (fun i _ => h i)]
theorem nLoad_ok : SoundM Tryz.prog 66 (za1 nLoadM) := by
  refine (SoundM.of_ev envR1_ok mix (n := 1000000) (fn := Tryz.f66) (by kernel_rfl) (by kernel_rfl) (by kernel_rfl)).refine ?_
  intro args vc v hm hvc ρ xs hargs
  unfold nLoadM at hm
  split at hm
  · rename_i f
    cases hm
    obtain ⟨x, _, rfl, hx, rfl⟩ := hargs
    have hb := za9 hvc
    have hc : ∀ i, 0 ≤ clip 32 f i ∧ clip 32 f i < 256 := fun i => by
      unfold clip
      split
      · exact hb i (by assumption)
      · exact ⟨by decide, by decide⟩
    obtain ⟨h1, h2⟩ := load_val hc
    obtain ⟨r, h3, h4, h5⟩ := za8 (load1_mv (clip 32 f))
    refine ⟨[.ints .u8 32 (clip 32 f)], ⟨x, _, rfl, ze7 (fun i hi => by simp [clip, hi]) hx, rfl⟩, r, h3, by rw [h4, h1]; rfl, fun ρ' w hw => ?_⟩
    rw [h5, h2, num32_clip] at hw
    exact (zc5 (t := nnA _) rfl ρ' ρ).2.1 _ hw
  · cases hm
noncomputable def nBytesM : zb1
  | [.abs (.nn v)] => some (true, .ints .u8 32 (zb6 v))
  | _ => none
theorem byL_eq (f : Nat → Int) : ∀ i j, j < 2 * i → byL f i j = bif Nat.beq (j % 2) 0 then IntKind.u8.wrap (f (j / 2)) else IntKind.u8.wrap (shrI .u64 (f (j / 2)) 8)
  | 0, _, h => by omega
  | i + 1, j, h => by
    show upd (upd (byL f i) (2 * i) _) (2 * i + 1) _ j = _
    by_cases h1 : j = 2 * i + 1
    · subst h1
      rw [zb9, show (2 * i + 1) % 2 = 1 by omega, show (2 * i + 1) / 2 = i by omega]
      rfl
    · rw [zd3 h1]
      by_cases h2 : j = 2 * i
      · subst h2
        rw [zb9, show (2 * i) % 2 = 0 by omega, show (2 * i) / 2 = i by omega]
        rfl
      · rw [zd3 h2]
        exact byL_eq f i j (by omega)
theorem byL_dg (v : F) (j : Nat) (hj : j < 32) : byL (dg v) 16 j = zb6 v j := by
  rw [byL_eq _ 16 j (by omega)]
  have hw : ∀ n : Nat, IntKind.u8.wrap (n : Int) = ((n % 256 : Nat) : Int) := fun n => by simp [IntKind.wrap, IntKind.bits, IntKind.signed]
  rw [dg_dgB]
  unfold dgB zb6
  have e : (65536 : Nat) ^ (j / 2) = 256 ^ (2 * (j / 2)) := by rw [Nat.pow_mul]
  rw [e]
  rcases Nat.mod_two_eq_zero_or_one j with h | h <;> rw [h]
  · rw [show 2 * (j / 2) = j by omega]
    show IntKind.u8.wrap _ = _
    rw [hw]
    congr 1
    generalize v.val / 256 ^ j = m
    omega
  · show IntKind.u8.wrap (shrI .u64 _ ((8 : Nat) : Int)) = _
    rw [zd9 _ 8 (by decide)]
    have e2 : v.val / 256 ^ j = v.val / 256 ^ (2 * (j / 2)) / 256 := by
      conv => lhs; rw [show j = 2 * (j / 2) + 1 by omega]
      rw [Nat.pow_succ, Nat.div_div_eq_div_mul]
    rw [e2]
    generalize v.val / 256 ^ (2 * (j / 2)) = m
    rw [show (((m % 65536 : Nat) : Int) / 2 ^ 8) = ((m % 65536 / 256 : Nat) : Int) by omega, hw]
    congr 1
    omega
theorem nBytes_ok : SoundM Tryz.prog 67 (za1 nBytesM) := by
  refine (SoundM.of_ev (za0 _) mix (n := 40) (fn := Tryz.f67) (by kernel_rfl) (by kernel_rfl) (by kernel_rfl)).refine ?_
  intro args vc v hm hvc ρ xs hargs
  unfold nBytesM at hm
  split at hm
  · rename_i v
    cases hm
    obtain ⟨x, _, rfl, hx, rfl⟩ := hargs
    obtain ⟨r, h3, h4, h5⟩ := za8 (bytes1_mv (dg v))
    refine ⟨[D16 (dg v)], ⟨x, _, rfl, hx, rfl⟩, r, h3, h4, fun ρ' w hw => ?_⟩
    rw [h5] at hw
    exact ze7 (fun i hi => byL_dg v i hi) hw
  · cases hm
noncomputable def envR2 : Env := ((envR1.set 72 (za1 (n2M fadd))).set 69 (za1 (n2M fmul))).set 71 (za1 OfM)
theorem envR2_ok : EnvOK Tryz.prog envR2 := ((envR1_ok.set nAdd_ok).set nMul_ok).set Of_ok
noncomputable def nSubM : zb1
  | [a, .abs (.nn v)] => match asN a with
    | some (c, u) => some (c, nnA (fsub u v))
    | _ => none
  | _ => none
theorem sub1_mv (f : Nat → Int) (v : F) : mv (evFn Tryz.prog envR2 1000000 Tryz.f70) [D16 f, nnA v] = some ((leD pD (dg v) && (((digB f && digB (suD pD (dg v)))) && true)) && true, nnA (fadd (vF f) (vF (suD pD (dg v))))) := by kernel_rfl
theorem neg_su (v : F) : vF (suD pD (dg v)) = -v := by
  rw [vF_eq, suD_val pD_digs, pD_val, vD_dg]
  have hv := v.isLt
  apply Fin.ext
  rw [toF_val']
  rfl
theorem nSub_ok : SoundM Tryz.prog 70 (za1 nSubM) := by
  refine (SoundM.of_ev envR2_ok mix (n := 1000000) (fn := Tryz.f70) (by kernel_rfl) (by kernel_rfl) (by kernel_rfl)).refine ?_
  intro args vc v hm hvc ρ xs hargs
  unfold nSubM at hm
  split at hm
  · rename_i a v
    split at hm
    · rename_i c u h1
      cases hm
      obtain ⟨x, _, rfl, hx, y, _, rfl, hy, rfl⟩ := hargs
      obtain ⟨f, df, rfl, hx'⟩ := asN_v (ρ' := rho0) h1 hvc hx
      obtain ⟨r, h3, h4, h5⟩ := za8 (sub1_mv f v)
      have hle : leD pD (dg v) = true := leD_iff.2 (by rw [pD_val, vD_dg]; exact Nat.le_of_lt v.isLt)
      refine ⟨[D16 f, nnA v], ⟨_, _, rfl, hx', _, _, rfl, (zc5 (t := nnA v) rfl ρ _).2.1 _ hy, rfl⟩, r, h3, ?_, fun ρ' w hw => ?_⟩
      · rw [h4, hle, digB_spec.2 df, digB_spec.2 (suD_digs _ _)]; rfl
      · rw [h5, neg_su, zj7] at hw
        rw [zm0]
        have e : vF f - v = vF f + -v := by grobner
        rw [e]
        exact (zc5 (t := nnA _) rfl ρ' ρ).2.1 _ hw
    · cases hm
  · cases hm
noncomputable def pwC : Code := bodyC Tryz.f99
noncomputable def pwX : Code := postC 2 pwC
noncomputable def pwB : Code := cB (cB (cR (cL pwX)))
theorem pwX_eq : postC 2 pwC = .seq (.seq (cL (cL pwX)) (.block 0 (.loop pwB))) (cR pwX) := by kernel_rfl
def pwK : Nat := za2 [2, 3, 4, 5, 6]
def pwT0 : List T := tmk [(2, .ptr 0 []), (3, .ptr 1 []), (4, .ptr 2 []), (5, .ptr 3 [])] 0 29
def pwT (i : Int) : List T := tmk [(2, .ptr 0 []), (3, .ptr 1 []), (4, .ptr 2 []), (5, .ptr 3 []), (6, .int .i64 i)] 0 29
def pwG (a : F) (e : Nat → Int) (o : F) : Heap := [some (nnA a), some (D16 e), some z16, some (nnA o)]
def pwV (e : Nat → Int) (i : Int) : Bool := bits BinOp.and IntKind.u64 (shrI IntKind.u64 (e (IntKind.i64.wrap (i.tdiv 16)).toNat) (IntKind.u64.wrap (i.tmod 16))) 1 == 1
def pwVC (e : Nat → Int) (i : Int) (b : Bool) : Bool :=
  (decide (0 ≤ IntKind.i64.wrap (i.tdiv 16) ∧ IntKind.i64.wrap (i.tdiv 16) < 16) && ((decide ((IntKind.i64.wrap (i.tdiv 16)).toNat < 16) && true) && (decide (0 ≤ IntKind.u64.wrap (i.tmod 16)) && ((pwV e i == b) && true)))) && (((decide (i ≥ 0) == true) && true) && true)
theorem pw_pre (a : F) (e : Nat → Int) : (za3 Tryz.prog envR2 40 (preC 2 pwC) (stOf ([nnA a, D16 e] ++ zb4 27) [])).map (cutP pwK) = some (.normal, true, pwT0, pwG a e (nof 1), true) := by kernel_rfl
theorem pw_ini (a : F) (e : Nat → Int) (o : F) : (za3 Tryz.prog envR2 40 (preC 1 (cL pwX)) (stOf pwT0 (pwG a e o))).map (cutP pwK) = some (.normal, true, pwT 255, pwG a e o, true) := by kernel_rfl
theorem pw_one (a : F) (e : Nat → Int) (o : F) (i : Int) (h : pwVC e i true = true) : Tr Tryz.prog 0 pwB (stOf (pwT i) (pwG a e o)) .normal (stOf (pwT (IntKind.i64.wrap (i - 1))) (pwG a e (fmul (fmul o o) a))) :=
  Tr.ev (n := ⟨1000000, [(9, true), (24, true)]⟩) (N := 4) (keep := pwK) (vc := pwVC e i true) envR2_ok mix (by kernel_rfl) h rfl rfl
theorem pw_nil (a : F) (e : Nat → Int) (o : F) (i : Int) (h : pwVC e i false = true) : Tr Tryz.prog 0 pwB (stOf (pwT i) (pwG a e o)) .normal (stOf (pwT (IntKind.i64.wrap (i - 1))) (pwG a e (fmul o o))) :=
  Tr.ev (n := ⟨1000000, [(9, true), (24, false)]⟩) (N := 4) (keep := pwK) (vc := pwVC e i false) envR2_ok mix (by kernel_rfl) h rfl rfl
theorem pw_end (a : F) (e : Nat → Int) (o : F) : Tr Tryz.prog 0 pwB (stOf (pwT (-1)) (pwG a e o)) (.exit 0) (stOf (pwT (-1)) (pwG a e o)) :=
  Tr.ev (n := 40) (N := 4) (keep := pwK) (vc := true) envR2_ok mix (by kernel_rfl) rfl rfl rfl
def pwG9 (a : F) (e : Nat → Int) (o : F) : Heap := [some (nnA a), some (D16 e), some (nnA o), some (nnA o)]
theorem pw_post (a : F) (e : Nat → Int) (o : F) : Tr Tryz.prog 0 (cR pwX) (stOf (pwT (-1)) (pwG a e o)) .ret (stOf (pwT (-1)) (pwG9 a e o)) :=
  Tr.ev (n := 40) (N := 4) (keep := pwK) (vc := true) envR2_ok mix (by kernel_rfl) rfl rfl rfl
theorem and1_u64 (a : Nat) (h : a < 65536) : bits .and .u64 (a : Int) 1 = ((a % 2 : Nat) : Int) := by
  have h := bits_mask .u64 64 (by decide) (fun n h0 h1 => by rw [IntKind.wrap_u64]; omega) 1 (by decide) (a : Int) (by omega) (by omega)
  rw [show ((2 : Int) ^ 1 - 1) = 1 by decide] at h
  rw [h]
  omega
theorem digit_bit (N a b : Nat) (hb : b < 16) : N / 65536 ^ a % 65536 / 2 ^ b % 2 = N / 2 ^ (16 * a + b) % 2 := by
  have e : (65536 : Nat) = 2 ^ b * 2 ^ (16 - b) := by rw [← Nat.pow_add]; rw [show b + (16 - b) = 16 by omega]
  have e2 : (2 : Nat) ∣ 2 ^ (16 - b) := ⟨2 ^ (15 - b), by rw [← Nat.pow_succ', show (15 - b).succ = 16 - b by omega]⟩
  have h1 : N / 65536 ^ a % 65536 / 2 ^ b = N / 65536 ^ a / 2 ^ b % 2 ^ (16 - b) := by
    conv => lhs; rw [show N / 65536 ^ a % 65536 = N / 65536 ^ a % (2 ^ b * 2 ^ (16 - b)) by rw [← e]]
    rw [Nat.mod_mul_right_div_self]
  rw [h1, Nat.mod_mod_of_dvd _ e2, Nat.div_div_eq_div_mul]
  rw [show (65536 : Nat) = 2 ^ 16 from rfl, ← Nat.pow_mul, ← Nat.pow_add]
def pwBit (e : Nat → Int) (k : Nat) : Bool := decide (vD e / 2 ^ k % 2 = 1)
theorem pwVC_eq {e : Nat → Int} (he : digs 65536 16 e) (k : Nat) (hk : k < 256) : pwVC e (k : Nat) (pwBit e k) = true := by
  have e1 : IntKind.i64.wrap ((k : Int).tdiv 16) = ((k / 16 : Nat) : Int) := by
    rw [Int.tdiv_eq_ediv_of_nonneg (by omega), IntKind.wrap_i64]; omega
  have e2 : IntKind.u64.wrap ((k : Int).tmod 16) = ((k % 16 : Nat) : Int) := by
    rw [Int.tmod_eq_emod_of_nonneg (by omega), IntKind.wrap_u64]; omega
  have hv : pwV e (k : Nat) = pwBit e k := by
    unfold pwV pwBit
    rw [e1, e2, Int.toNat_natCast, zd9 _ _ (by omega)]
    rw [dgB_of (by decide) he (i := k / 16) (by omega)]
    unfold dgB
    rw [show (2 : Int) ^ (k % 16) = ((2 ^ (k % 16) : Nat) : Int) by simp, ← Int.natCast_ediv]
    have hlt : natB 65536 e 16 / 65536 ^ (k / 16) % 65536 / 2 ^ (k % 16) < 65536 := Nat.lt_of_le_of_lt (Nat.div_le_self _ _) (Nat.mod_lt _ (by decide))
    rw [and1_u64 _ hlt, digit_bit _ _ _ (Nat.mod_lt _ (by decide)), Nat.div_add_mod]
    rw [Bool.eq_iff_iff, beq_iff_eq, decide_eq_true_eq]
    unfold vD
    omega
  unfold pwVC
  rw [hv, e1, e2]
  have h1 : (0 : Int) ≤ ((k / 16 : Nat) : Int) ∧ ((k / 16 : Nat) : Int) < 16 := by omega
  have h2 : (((k / 16 : Nat) : Int)).toNat < 16 := by omega
  have h3 : (0 : Int) ≤ ((k % 16 : Nat) : Int) := by omega
  have h4 : ((k : Int) ≥ 0) := by omega
  simp only [h1, h2, h3, h4, and_self, decide_true, Bool.and_true, beq_self_eq_true]
noncomputable def pwN (a : F) (e : Nat → Int) : Nat → F
  | 0 => nof 1
  | k + 1 => bif pwBit e (255 - k) then fmul (fmul (pwN a e k) (pwN a e k)) a else fmul (pwN a e k) (pwN a e k)
theorem pw_step (a : F) {e : Nat → Int} (he : digs 65536 16 e) (k : Nat) (hk : k < 256) : Tr Tryz.prog 0 pwB (stOf (pwT ((255 - k : Nat) : Int)) (pwG a e (pwN a e k))) .normal (stOf (pwT ((255 - k : Nat) - 1 : Int)) (pwG a e (pwN a e (k + 1)))) := by
  have hv := pwVC_eq he (255 - k) (by omega)
  have e1 : IntKind.i64.wrap (((255 - k : Nat) : Int) - 1) = ((255 - k : Nat) : Int) - 1 := by rw [IntKind.wrap_i64]; omega
  cases hb : pwBit e (255 - k) with
  | true =>
    rw [hb] at hv
    have := pw_one a e (pwN a e k) _ hv
    have e2 : pwN a e (k + 1) = fmul (fmul (pwN a e k) (pwN a e k)) a := by show (bif _ then _ else _) = _; rw [hb]; rfl
    rw [e1] at this
    rw [e2]
    exact this
  | false =>
    rw [hb] at hv
    have := pw_nil a e (pwN a e k) _ hv
    have e2 : pwN a e (k + 1) = fmul (pwN a e k) (pwN a e k) := by show (bif _ then _ else _) = _; rw [hb]; rfl
    rw [e1] at this
    rw [e2]
    exact this
theorem pw_loop (a : F) {e : Nat → Int} (he : digs 65536 16 e) : ∀ m, m ≤ 256 →
    TrN Tryz.prog 0 pwB (m + 1) (stOf (pwT ((m : Nat) - 1 : Int)) (pwG a e (pwN a e (256 - m)))) (.exit 0) (stOf (pwT (-1)) (pwG a e (pwN a e 256)))
  | 0, _ => TrN.done (pw_end a e _) (by intro h; cases h)
  | m + 1, h => by
    have hs := pw_step a he (256 - (m + 1)) (by omega)
    have e1 : (255 - (256 - (m + 1)) : Nat) = m := by omega
    rw [e1, show 256 - (m + 1) + 1 = 256 - m by omega] at hs
    have e2 : ((m + 1 : Nat) : Int) - 1 = (m : Nat) := by omega
    rw [e2]
    exact TrN.next hs (pw_loop a he m (by omega))
theorem pw_tr (a : F) {e : Nat → Int} (he : digs 65536 16 e) : Tr Tryz.prog 0 pwC (stOf ([nnA a, D16 e] ++ zb4 27) []) .ret (stOf (pwT (-1)) (pwG9 a e (pwN a e 256))) := by
  refine Tr.pre envR2_ok mix 2 pwK (pw_pre a e) rfl ?_
  rw [pwX_eq]
  refine Tr.seq (s1 := stOf (pwT (-1)) (pwG a e (pwN a e 256))) ?_ (pw_post a e _)
  refine Tr.pre envR2_ok mix 1 pwK (pw_ini a e _) rfl ?_
  exact Tr.blockX (Tr.loop (pw_loop a he 256 (Nat.le_refl _)))
theorem pwN_val (a : F) {e : Nat → Int} (he : digs 65536 16 e) : ∀ k, k ≤ 256 → pwN a e k = a ^ (vD e / 2 ^ (256 - k))
  | 0, _ => by
    have h : vD e < 2 ^ 256 := by
      have := zd2 16 he
      rw [show (65536 : Nat) ^ 16 = 2 ^ 256 from by rw [show (65536 : Nat) = 2 ^ 16 from rfl, ← Nat.pow_mul]] at this
      exact this
    rw [Nat.sub_zero, Nat.div_eq_of_lt h]
    show nof 1 = _
    rw [nof_eq]
    rfl
  | k + 1, h => by
    have ih := pwN_val a he k (by omega)
    have e1 : 256 - k = 255 - k + 1 := by omega
    have e2 : 256 - (k + 1) = 255 - k := by omega
    rw [e2]
    rw [e1, Nat.pow_succ, ← Nat.div_div_eq_div_mul] at ih
    have hb : pwBit e (255 - k) = decide (vD e / 2 ^ (255 - k) % 2 = 1) := rfl
    show (bif pwBit e (255 - k) then fmul (fmul (pwN a e k) (pwN a e k)) a else fmul (pwN a e k) (pwN a e k)) = _
    rw [hb, ih]
    generalize vD e / 2 ^ (255 - k) = m
    simp only [zc4]
    rcases Nat.mod_two_eq_zero_or_one m with hm | hm
    · rw [hm]
      show a ^ (m / 2) * a ^ (m / 2) = _
      rw [zc2 (a := m / 2) (b := m / 2) (c := m) (by omega)]
    · rw [hm]
      show a ^ (m / 2) * a ^ (m / 2) * a = _
      have h1 := zc2 (a := m / 2 + m / 2) (b := 1) (c := m) (by omega) a
      rw [← zj2] at h1
      rw [zc2 (a := m / 2) (b := m / 2) rfl]
      exact h1
noncomputable def pw (a : F) (e : Nat → Int) : F := hid (fun (a : F) (e : Nat → Int) => a ^ vD e) a e
theorem pw_eq (a : F) (e : Nat → Int) : pw a e = a ^ vD e := by unfold pw; rw [zb5]
noncomputable def PowerM : zb1
  | [.abs (.nn a), t] => match asD t with
    | some (c, e) => some (c, nnA (pw a e))
    | none => none
  | _ => none
theorem Power_ok : SoundM Tryz.prog 99 (za1 PowerM) := by
  refine SoundM.refineX ?_
  intro args vc v hm hvc ρ xs hargs
  unfold PowerM at hm
  split at hm
  · rename_i a t
    split at hm
    · rename_i c e h1
      cases hm
      obtain ⟨x, _, rfl, hx, y, _, rfl, hy, rfl⟩ := hargs
      obtain ⟨he, hy'⟩ := asD_v (ρ' := rho0) h1 hvc hy
      refine ⟨za1 (fun args => open Classical in if args = [nnA a, D16 e] then some (true, nnA (pwN a e 256)) else none), ?_, [nnA a, D16 e],
        ⟨_, _, rfl, (zc5 (t := nnA a) rfl ρ _).2.1 _ hx, _, _, rfl, hy', rfl⟩, ⟨true, nnA (pwN a e 256), [], 0, 0⟩, by simp [za1], rfl, fun ρ' w hw => ?_⟩
      · refine SoundM.of_tr0 (fn := Tryz.f99) (c := pwC) (by kernel_rfl) (by kernel_rfl) (by kernel_rfl) ?_
        intro args vc v hm hvc
        split at hm
        · rename_i e
          cases hm
          subst e
          exact ⟨rfl, rfl, .ret, _, [nnA (pwN a _ 256)], 4, .inl rfl, pw_tr a he, by kernel_rfl, rfl⟩
        · cases hm
      · rw [pwN_val a he 256 (Nat.le_refl _)] at hw
        rw [pw_eq]
        simp only [Nat.sub_self, Nat.pow_zero, Nat.div_one] at hw
        exact (zc5 (t := nnA _) rfl ρ' ρ).2.1 _ hw
    · cases hm
  · cases hm
noncomputable def envR3 : Env := (envR2.set 99 (za1 PowerM)).set 70 (za1 nSubM)
theorem envR3_ok : EnvOK Tryz.prog envR3 := (envR2_ok.set Power_ok).set nSub_ok
noncomputable def ffM (c : F → F) : zb1
  | [.abs (.nn a)] => some (true, nnA (c a))
  | _ => none
def twoD : Nat → Int := fun j => bif Nat.beq j 0 then 2 else 0
theorem inv1_mv (a : F) : mv (evFn Tryz.prog envR3 1000000 Tryz.f77) [nnA a] = some ((leD pD twoD && (digB (suD pD twoD) && true)) && true, nnA (pw a (suD pD twoD))) := by kernel_rfl
theorem nInv_ok : SoundM Tryz.prog 77 (za1 (ffM finv)) := by
  refine (SoundM.of_ev envR3_ok mix (n := 1000000) (fn := Tryz.f77) (by kernel_rfl) (by kernel_rfl) (by kernel_rfl)).pure ?_
  intro args vc v h hvc
  unfold ffM at h
  split at h
  · cases h
    obtain ⟨r, h3, h4, h5⟩ := za8 (inv1_mv _)
    have h2 : vD twoD = 2 := by decide +kernel
    have hle : leD pD twoD = true := leD_iff.2 (by rw [pD_val, h2]; decide)
    refine ⟨rfl, rfl, r, h3, by rw [h4, hle, digB_spec.2 (suD_digs _ _)]; rfl, ?_⟩
    rw [h5, pw_eq, suD_val pD_digs, pD_val, h2, zr3]
    rfl
  · cases h
noncomputable def haD (f : Nat → Int) : Nat → Int := hid (fun (f : Nat → Int) => dgB 65536 (vD f / 2)) f
theorem haD_eq (f : Nat → Int) : haD f = dgB 65536 (vD f / 2) := by unfold haD; rw [zb5]
theorem zm9 (f : Nat → Int) : digs 65536 16 (haD f) := by rw [haD_eq]; exact dgB_digs (by decide) _ _
theorem haD_val {f : Nat → Int} (hf : digs 65536 16 f) : vD (haD f) = vD f / 2 := by
  unfold vD
  rw [haD_eq, zm7]
  have h := zd2 16 hf
  unfold vD
  exact Nat.mod_eq_of_lt (by omega)
noncomputable def halfM : zb1
  | [t] => match asD t with
    | some (c, f) => some (c, D16 (haD f))
    | none => none
  | _ => none
def haQ (f : Nat → Int) (i : Nat) : Int := IntKind.u64.wrap ((f i).tdiv 2)
def haL (f : Nat → Int) : Nat → Nat → Int
  | 0 => fun _ => 0
  | i + 1 => upd (upd (haL f i) i (haQ f i)) i (IntKind.u64.wrap (haQ f i + IntKind.u64.wrap ((IntKind.u64.wrap ((f (i + 1)).tmod 2 * 65536)).tdiv 2)))
def haA (f : Nat → Int) : Nat → Int := upd (haL f 15) 15 (haQ f 15)
theorem half_mv (f : Nat → Int) : mv (evFn Tryz.prog env0 40 Tryz.f100) [D16 f] = some (true, D16 (haA f)) := by kernel_rfl
theorem ha_one {a b : Int} (ha : 0 ≤ a ∧ a < 65536) (hb : 0 ≤ b ∧ b < 65536) :
    IntKind.u64.wrap (a.tdiv 2) = a / 2 ∧ IntKind.u64.wrap (IntKind.u64.wrap (a.tdiv 2) + IntKind.u64.wrap ((IntKind.u64.wrap (b.tmod 2 * 65536)).tdiv 2)) = a / 2 + 32768 * (b % 2) := by
  rw [Int.tdiv_eq_ediv_of_nonneg ha.1, Int.tmod_eq_emod_of_nonneg hb.1]
  have e1 : IntKind.u64.wrap (b % 2 * 65536) = b % 2 * 65536 := by simp only [IntKind.wrap_u64]; omega
  rw [e1, Int.tdiv_eq_ediv_of_nonneg (by omega)]
  simp only [IntKind.wrap_u64]
  omega
theorem haL_eq {f : Nat → Int} (hf : digs 65536 16 f) : ∀ i, i ≤ 15 → ∀ j, j < i → haL f i j = f j / 2 + 32768 * (f (j + 1) % 2)
  | 0, _, _, h => by omega
  | i + 1, hi, j, hj => by
    show upd (upd (haL f i) i (haQ f i)) i _ j = _
    by_cases h : j = i
    · subst h
      rw [zb9]
      exact (ha_one (hf j (by omega)) (hf (j + 1) (by omega))).2
    · rw [zd3 h, zd3 h]
      exact haL_eq hf i (by omega) j (by omega)
theorem natB_half {f : Nat → Int} (hf : digs 65536 16 f) : ∀ n, n ≤ 15 → 2 * natB 65536 (fun j => f j / 2 + 32768 * (f (j + 1) % 2)) n + (f 0).toNat % 2 = natB 65536 f n + 65536 ^ n * ((f n).toNat % 2)
  | 0, _ => by simp [natB]
  | n + 1, h => by
    have ih := natB_half hf n (by omega)
    unfold natB
    have a := hf n (by omega)
    have b := hf (n + 1) (by omega)
    rw [Nat.mul_add, Nat.pow_succ]
    have e : 2 * (65536 ^ n * (f n / 2 + 32768 * (f (n + 1) % 2)).toNat) = 65536 ^ n * (2 * (f n / 2 + 32768 * (f (n + 1) % 2)).toNat) := by
      rw [Nat.mul_left_comm]
    have e2 : 2 * (f n / 2 + 32768 * (f (n + 1) % 2)).toNat + (f n).toNat % 2 = (f n).toNat + 65536 * ((f (n + 1)).toNat % 2) := by omega
    have e3 : 65536 ^ n * (2 * (f n / 2 + 32768 * (f (n + 1) % 2)).toNat) + 65536 ^ n * ((f n).toNat % 2) = 65536 ^ n * (f n).toNat + 65536 ^ n * 65536 * ((f (n + 1)).toNat % 2) := by
      rw [← Nat.mul_add, e2, Nat.mul_add, Nat.mul_assoc]
    omega
theorem ha_val {f : Nat → Int} (hf : digs 65536 16 f) (i : Nat) (hi : i < 16) : haA f i = haD f i := by
  have hA : ∀ j, j < 15 → haA f j = f j / 2 + 32768 * (f (j + 1) % 2) := fun j hj => by
    unfold haA
    rw [zd3 (by omega), haL_eq hf 15 (Nat.le_refl _) j hj]
  have hB : haA f 15 = f 15 / 2 := by
    unfold haA
    rw [zb9]
    exact (ha_one (hf 15 (by decide)) (hf 15 (by decide))).1
  have hd : digs 65536 16 (haA f) := fun j hj => by
    rcases Nat.lt_or_ge j 15 with h | h
    · rw [hA j h]
      have := hf j (by omega)
      have := hf (j + 1) (by omega)
      omega
    · have : j = 15 := by omega
      subst this
      rw [hB]
      have := hf 15 (by decide)
      omega
  have hv : vD (haA f) = vD f / 2 := by
    have h := natB_half hf 15 (Nat.le_refl _)
    unfold vD
    show natB 65536 (haA f) 15 + 65536 ^ 15 * (haA f 15).toNat = (natB 65536 f 15 + 65536 ^ 15 * (f 15).toNat) / 2
    rw [zc6 15 hA, hB]
    have a := hf 15 (by decide)
    have e : (f 15 / 2).toNat = (f 15).toNat / 2 := by omega
    rw [e]
    generalize natB 65536 (fun j => f j / 2 + 32768 * (f (j + 1) % 2)) 15 = A at *
    generalize natB 65536 f 15 = C at *
    generalize (f 15).toNat = t at *
    have e2 : 65536 ^ 15 * t = 2 * (65536 ^ 15 * (t / 2)) + 65536 ^ 15 * (t % 2) := by
      rw [← Nat.mul_assoc, Nat.mul_comm 2, Nat.mul_assoc, ← Nat.mul_add, Nat.div_add_mod]
    omega
  rw [haD_eq, ← hv]
  exact dgB_of (by decide) hd hi
theorem half_ok : SoundM Tryz.prog 100 (za1 halfM) := by
  refine (SoundM.of_ev (za0 _) mix (n := 40) (fn := Tryz.f100) (by kernel_rfl) (by kernel_rfl) (by kernel_rfl)).refine ?_
  intro args vc v hm hvc ρ xs hargs
  unfold halfM at hm
  split at hm
  · split at hm
    · rename_i c f h1
      cases hm
      obtain ⟨x, _, rfl, hx, rfl⟩ := hargs
      obtain ⟨hf, hx'⟩ := asD_v (ρ' := rho0) h1 hvc hx
      obtain ⟨r, h3, h4, h5⟩ := za8 (half_mv f)
      refine ⟨[D16 f], ⟨_, _, rfl, hx', rfl⟩, r, h3, h4, fun ρ' w hw => ?_⟩
      rw [h5] at hw
      exact ze7 (fun i hi => ha_val hf i hi) hw
    · cases hm
  · cases hm
noncomputable def envR4 : Env := (envR3.set 100 (za1 halfM)).set 77 (za1 (ffM finv))
theorem envR4_ok : EnvOK Tryz.prog envR4 := (envR3_ok.set half_ok).set nInv_ok
def p3 : Nat → Int := upd pD 0 (IntKind.u64.wrap (pD 0 + 3))
noncomputable def rooF (q : F) : F := hid (fun (q : F) => q ^ ((P + 3) / 8)) q
theorem rooF_eq (q : F) : rooF q = q ^ ((P + 3) / 8) := by unfold rooF; rw [zb5]
theorem root_mv (a : F) : mv (evFn Tryz.prog envR4 1000000 Tryz.f98) [nnA a] = some ((digB (haD (haD (haD p3))) && true) && ((digB (haD (haD p3)) && true) && ((digB (haD p3) && true) && true)), nnA (pw a (haD (haD (haD p3))))) := by kernel_rfl
theorem p3_digs : digs 65536 16 p3 := digB_spec.1 (by decide +kernel)
theorem p3_val : vD p3 = P + 3 := by decide +kernel
theorem root_ok : SoundM Tryz.prog 98 (za1 (ffM rooF)) := by
  refine (SoundM.of_ev envR4_ok mix (n := 1000000) (fn := Tryz.f98) (by kernel_rfl) (by kernel_rfl) (by kernel_rfl)).pure ?_
  intro args vc v h hvc
  unfold ffM at h
  split at h
  · cases h
    obtain ⟨r, h3, h4, h5⟩ := za8 (root_mv _)
    refine ⟨rfl, rfl, r, h3, by rw [h4, digB_spec.2 (zm9 _), digB_spec.2 (zm9 _), digB_spec.2 (zm9 _)]; rfl, ?_⟩
    rw [h5, pw_eq, haD_val (zm9 _), haD_val (zm9 _), haD_val p3_digs, p3_val, Nat.div_div_eq_div_mul, Nat.div_div_eq_div_mul, rooF_eq]
  · cases h
noncomputable def envR5 : Env := envR4.set 98 (za1 (ffM rooF))
theorem envR5_ok : EnvOK Tryz.prog envR5 := envR4_ok.set root_ok
def eqR (f g : Nat → Int) : Nat → Nat → Bool
  | 0, _ => true
  | k + 1, i => (f i == g i) && eqR f g k (i + 1)
noncomputable def eqD (a b : F) : Bool := eqR (dg a) (dg b) 16 0
noncomputable def eqZ (a : F) : Bool := eqR (dg a) (fun _ => 0) 16 0
def p1 : Nat → Int := upd pD 0 (IntKind.u64.wrap (pD 0 - 1))
noncomputable def rT : F := pw (nof 2) (haD (haD p1))
noncomputable def rQ (u v : F) : F := fmul u (finv v)
noncomputable def r0 (u v : F) : F := rooF (rQ u v)
noncomputable def r1 (u v : F) : F := fmul (r0 u v) rT
noncomputable def rOdd (r : F) : Bool := (dg r 0).tmod 2 == 1
noncomputable def raM (sy : List (Nat × Bool)) : Model := evFn Tryz.prog envR5 ⟨1000000, sy⟩ Tryz.f74
theorem raM_ok (sy : List (Nat × Bool)) : SoundM Tryz.prog 74 (raM sy) := SoundM.of_ev envR5_ok mix (by kernel_rfl) (by kernel_rfl) (by kernel_rfl)
noncomputable def vHead (u v : F) : Bool := (((eqZ v == false) && true) && (((eqZ u == false) && true) && true))
theorem ra_a (u v : F) : mv (raM [(13, true)]) [nnA u, nnA v] = some (((eqZ u == true) && true) && true, .tup (.cons z16 (.cons (.bool true) .nil))) := by kernel_rfl
theorem ra_b (u v : F) : mv (raM [(13, false), (17, false), (29, false), (46, false), (51, false)]) [nnA u, nnA v] =
    some (((rOdd (r0 u v) == false) && true) && ((((!eqD (fmul (r0 u v) (r0 u v)) (rQ u v)) == false) && true) && ((((!eqD (fmul (r0 u v) (r0 u v)) (rQ u v)) == false) && true) && vHead u v)), .tup (.cons (nnA (r0 u v)) (.cons (.bool true) .nil))) := by kernel_rfl
theorem ra_c (u v : F) : mv (raM [(13, false), (17, false), (29, false), (46, false), (51, true)]) [nnA u, nnA v] =
    some (((rOdd (r0 u v) == true) && true) && ((((!eqD (fmul (r0 u v) (r0 u v)) (rQ u v)) == false) && true) && ((((!eqD (fmul (r0 u v) (r0 u v)) (rQ u v)) == false) && true) && vHead u v)), .tup (.cons (nnA (fsub (vF fun _ => 0) (r0 u v))) (.cons (.bool true) .nil))) := by kernel_rfl
noncomputable def vT : Bool := digB (haD p1) && (digB (haD (haD p1)) && true)
theorem ra_d (u v : F) : mv (raM [(13, false), (17, false), (29, true), (46, false), (51, false)]) [nnA u, nnA v] =
    some (((rOdd (r1 u v) == false) && true) && ((((!eqD (fmul (r1 u v) (r1 u v)) (rQ u v)) == false) && true) && (vT && ((((!eqD (fmul (r0 u v) (r0 u v)) (rQ u v)) == true) && true) && vHead u v))), .tup (.cons (nnA (r1 u v)) (.cons (.bool true) .nil))) := by kernel_rfl
theorem ra_e (u v : F) : mv (raM [(13, false), (17, false), (29, true), (46, false), (51, true)]) [nnA u, nnA v] =
    some (((rOdd (r1 u v) == true) && true) && ((((!eqD (fmul (r1 u v) (r1 u v)) (rQ u v)) == false) && true) && (vT && ((((!eqD (fmul (r0 u v) (r0 u v)) (rQ u v)) == true) && true) && vHead u v))), .tup (.cons (nnA (fsub (vF fun _ => 0) (r1 u v))) (.cons (.bool true) .nil))) := by kernel_rfl
theorem ra_f (u v : F) : mv (raM [(13, false), (17, false), (29, true), (46, true)]) [nnA u, nnA v] =
    some ((((!eqD (fmul (r1 u v) (r1 u v)) (rQ u v)) == true) && true) && (vT && ((((!eqD (fmul (r0 u v) (r0 u v)) (rQ u v)) == true) && true) && vHead u v)), .tup (.cons z16 (.cons (.bool false) .nil))) := by kernel_rfl
theorem eqR_iff {f g : Nat → Int} : ∀ k i, eqR f g k i = true ↔ ∀ j, i ≤ j → j < i + k → f j = g j
  | 0, i => by simp [eqR]; omega
  | k + 1, i => by
    unfold eqR
    rw [Bool.and_eq_true, beq_iff_eq, eqR_iff k (i + 1)]
    constructor
    · rintro ⟨h1, h2⟩ j hj hj'
      by_cases h : j = i
      · rw [h]; exact h1
      · exact h2 j (by omega) (by omega)
    · intro h
      exact ⟨h i (Nat.le_refl _) (by omega), fun j hj hj' => h j (by omega) (by omega)⟩
theorem eqD_iff {a b : F} : eqD a b = true ↔ a = b := by
  unfold eqD
  rw [eqR_iff]
  constructor
  · intro h
    apply Fin.ext
    rw [← vD_dg a, ← vD_dg b]
    exact zc6 16 fun i hi => h i (by omega) (by omega)
  · rintro rfl j _ _
    rfl
theorem vD_zero : vD (fun _ => 0) = 0 := zp7 65536 16 fun _ _ => rfl
theorem eqZ_iff {a : F} : eqZ a = true ↔ a = 0 := by
  unfold eqZ
  rw [eqR_iff]
  constructor
  · intro h
    apply Fin.ext
    rw [← vD_dg a]
    exact (zc6 16 fun i hi => h i (by omega) (by omega)).trans vD_zero
  · rintro rfl j _ hj
    rw [dg_dgB]
    unfold dgB
    rw [zero_val, Nat.zero_div]
    rfl
theorem vF_zero : vF (fun _ => 0) = 0 := by rw [vF_eq, vD_zero]; rfl
theorem rOdd_eq (r : F) : rOdd r = oddF r := by
  unfold rOdd
  rw [zn8, dg_dgB]
  unfold dgB
  rw [Int.tmod_eq_emod_of_nonneg (by omega), Nat.pow_zero, Nat.div_one, Bool.eq_iff_iff, beq_iff_eq, decide_eq_true_eq]
  omega
theorem p1_digs : digs 65536 16 p1 := digB_spec.1 (by decide +kernel)
theorem p1_val : vD p1 = P - 1 := by decide +kernel
theorem vT_eq : vT = true := by
  unfold vT
  rw [digB_spec.2 (zm9 _), digB_spec.2 (zm9 _)]
  rfl
theorem nof_two : nof 2 = 2 := by rw [nof_eq]; decide +kernel
theorem rT_sq : rT * rT = -1 := by
  unfold rT
  rw [pw_eq, haD_val (zm9 _), haD_val p1_digs, p1_val, Nat.div_div_eq_div_mul, nof_two]
  rw [zc2 (c := (P - 1) / 2) (by decide)]
  apply Fin.ext
  rw [pm_pow _ _ (by decide)]
  decide +kernel
theorem half_pow {s : F} (h : s ≠ 0) : s ^ ((P - 1) / 2) = 1 ∨ s ^ ((P - 1) / 2) = -1 := by
  have h1 := pow_p1 h
  have h2 : s ^ ((P - 1) / 2) * s ^ ((P - 1) / 2) = s ^ (P - 1) := zc2 (by decide) s
  rw [h1] at h2
  generalize s ^ ((P - 1) / 2) = w at *
  exact sq_eq (y := 1) (by rw [h2]; decide +kernel)
theorem roo_sq {q s : F} (h : s * s = q) : rooF q * rooF q = q ∨ rooF q * rooF q = -q := by
  rw [rooF_eq]
  by_cases h0 : s = 0
  · subst h0
    have hq : q = 0 := by rw [← h]; decide +kernel
    subst hq
    left
    have : (0 : F) ^ ((P + 3) / 8) = 0 := by
      apply Fin.ext
      rw [pm_pow _ _ (by decide)]
      decide +kernel
    rw [this]
    decide +kernel
  · have e1 : q ^ ((P + 3) / 8) * q ^ ((P + 3) / 8) = s ^ ((P - 1) / 2) * q := by
      have hs : q = s ^ 2 := by rw [← h, ← zc2 (a := 1) (b := 1) (c := 2) rfl, ← zj2]
      rw [hs, zg3 (c := (P + 3) / 4) (by decide), zc2 (c := (P + 3) / 2) (by decide), zc2 (c := (P + 3) / 2) (by decide)]
    rw [e1]
    rcases half_pow h0 with h | h <;> rw [h]
    · left; grobner
    · right; grobner
theorem even_unique {a b : F} (h : a * a = b * b) (ha : oddF a = false) (hb : oddF b = false) : a = b := by
  rcases sq_eq h with h | h
  · exact h
  · by_cases h0 : b = 0
    · rw [h, h0]; grobner
    · rw [h, odd_neg h0, hb] at ha
      cases ha
theorem rQ_mul {u v : F} (h : v ≠ 0) : v * rQ u v = u := by
  unfold rQ
  rw [zc4, zr3]
  have := ze0 h
  generalize inv v = w at *
  grobner
theorem rat_of_sq {u v r : F} (hv : v ≠ 0) (h : r * r = rQ u v) : ratB u v = true ∧ ratR u v = if oddF r = true then -r else r := by
  have h1 : v * (r * r) = u := by rw [h]; exact rQ_mul hv
  have hb : ratB u v = true := rat_full h1
  refine ⟨hb, ?_⟩
  have h2 := rat_root hb
  refine even_unique ?_ (rat_even _ _) ?_
  · refine zg1 (z := v) hv ?_
    have e : ∀ r' : F, (if oddF r = true then -r else r) = r' → r' * r' = r * r := by
      intro r' e
      split at e <;> subst e
      · grobner
      · rfl
    rw [e _ rfl]
    generalize ratR u v = R at *
    rw [← h1] at h2
    grobner
  · split
    · rename_i ho
      have : r ≠ 0 := by
        rintro rfl
        rw [odd_zero] at ho
        cases ho
      rw [odd_neg this, ho]
      rfl
    · rename_i ho
      simpa using ho
theorem r1_sq {u v : F} (h : r0 u v * r0 u v = -rQ u v) : r1 u v * r1 u v = rQ u v := by
  unfold r1
  rw [zc4]
  have := rT_sq
  generalize rT = t at *
  generalize r0 u v = r at *
  generalize rQ u v = q at *
  grobner
theorem rat_no {u v : F} (hv : v ≠ 0) (h0 : r0 u v * r0 u v ≠ rQ u v) (h1 : r1 u v * r1 u v ≠ rQ u v) : ratB u v = false := by
  cases hb : ratB u v with
  | false => rfl
  | true =>
    exfalso
    have hr := rat_root hb
    have hs : ratR u v * ratR u v = rQ u v := by
      refine zg1 (z := v) hv ?_
      have := rQ_mul (u := u) hv
      generalize ratR u v = R at *
      generalize rQ u v = q at *
      rw [← this] at hr
      grobner
    rcases roo_sq hs with h | h
    · exact h0 h
    · exact h1 (r1_sq h)
noncomputable def nRatioM : zb1
  | [.abs (.nn u), .abs (.nn v)] => some (!feq v zeroR, .tup (.cons (nnA (ratR u v)) (.cons (.bool (ratB u v)) .nil)))
  | _ => none
theorem z16_nn {ρ ρ' : Rho} {x : Value} (h : (R ρ z16).v x) : (R ρ' (nnA 0)).v x := nn_of (fun i _ => ⟨Int.le_refl 0, by show (0 : Int) < 65536; decide⟩) vD_zero h
theorem nRatio_ok : SoundM Tryz.prog 74 (za1 nRatioM) := by
  refine SoundM.refineX ?_
  intro args vc w hm hvc ρ xs hargs
  unfold nRatioM at hm
  split at hm
  · rename_i u v
    cases hm
    have hv : v ≠ 0 := by
      rw [feq_eq, zq5] at hvc
      simpa using hvc
    have hx : VLs rho0 [nnA u, nnA v] xs := zd6 rfl hargs
    have run : ∀ {sy : List (Nat × Bool)} {vc : Bool} {t : T}, mv (raM sy) [nnA u, nnA v] = some (vc, t) → vc = true → (∀ ρ ρ' x, (R ρ t).v x → (R ρ' (.tup (.cons (nnA (ratR u v)) (.cons (.bool (ratB u v)) .nil)))).v x) →
        ∃ M, SoundM Tryz.prog 74 M ∧ ∃ args2, VLs rho0 args2 xs ∧ ∃ r, M args2 [] = some r ∧ r.vc = true ∧ ∀ ρ' x, (R ρ' r.v).v x → (R ρ (.tup (.cons (nnA (ratR u v)) (.cons (.bool (ratB u v)) .nil)))).v x := by
      intro sy vc t h1 h2 h3
      obtain ⟨r, h4, h5, h6⟩ := za8 h1
      exact ⟨_, raM_ok sy, _, hx, r, h4, h5.trans h2, fun ρ' w hw => h3 ρ' ρ w (by rw [h6] at hw; exact hw)⟩
    have hzv : eqZ v = false := by
      cases h : eqZ v with
      | false => rfl
      | true => exact absurd (eqZ_iff.1 h) hv
    cases hzu : eqZ u with
    | true =>
      have hu := eqZ_iff.1 hzu
      refine run (ra_a u v) (by rw [hzu]; rfl) fun ρ ρ' x h => ?_
      have hb : ratB u v = true := rat_full (s := 0) (by rw [hu]; grobner)
      have hr : ratR u v = 0 := by
        have := rat_root hb
        rw [hu] at this ⊢
        rcases zi9 this with h | h
        · exact absurd h hv
        · rcases zi9 h with h | h <;> exact h
      obtain ⟨vs, rfl, y, ys, e, hy, hys⟩ := h
      refine ⟨vs, rfl, y, ys, e, by rw [hr]; exact z16_nn hy, ?_⟩
      rw [hb]
      exact (zc5 rfl ρ ρ').2.2 _ hys
    | false =>
      have hH : vHead u v = true := by unfold vHead; rw [hzv, hzu]; rfl
      have fin : ∀ {r : F} {ρ ρ' : Rho} {x : Value}, r * r = rQ u v → (R ρ (.tup (.cons (nnA (if oddF r = true then -r else r)) (.cons (.bool true) .nil)))).v x → (R ρ' (.tup (.cons (nnA (ratR u v)) (.cons (.bool (ratB u v)) .nil)))).v x := by
        intro r ρ ρ' x h hx
        obtain ⟨h1, h2⟩ := rat_of_sq hv h
        rw [h1, h2]
        exact (zc5 rfl ρ ρ').2.1 _ hx
      have neg : ∀ r : F, fsub (vF fun _ => 0) r = -r := fun r => by rw [zm0, vF_zero]; grobner
      cases hq : eqD (fmul (r0 u v) (r0 u v)) (rQ u v) with
      | true =>
        have hq' := eqD_iff.1 hq
        rw [zc4] at hq'
        cases ho : rOdd (r0 u v) with
        | false =>
          refine run (ra_b u v) (by rw [hq, ho, hH]; rfl) fun ρ ρ' x h => fin hq' (ρ := ρ) ?_
          rw [rOdd_eq] at ho
          rw [ho]
          exact h
        | true =>
          refine run (ra_c u v) (by rw [hq, ho, hH]; rfl) fun ρ ρ' x h => fin hq' (ρ := ρ) ?_
          rw [rOdd_eq] at ho
          rw [ho, if_pos rfl, ← neg]
          exact h
      | false =>
        have hq' : r0 u v * r0 u v ≠ rQ u v := by
          intro h
          rw [← zc4, ← eqD_iff, hq] at h
          cases h
        cases hq1 : eqD (fmul (r1 u v) (r1 u v)) (rQ u v) with
        | true =>
          have hq1' := eqD_iff.1 hq1
          rw [zc4] at hq1'
          cases ho : rOdd (r1 u v) with
          | false =>
            refine run (ra_d u v) (by rw [hq, hq1, ho, hH, vT_eq]; rfl) fun ρ ρ' x h => fin hq1' (ρ := ρ) ?_
            rw [rOdd_eq] at ho
            rw [ho]
            exact h
          | true =>
            refine run (ra_e u v) (by rw [hq, hq1, ho, hH, vT_eq]; rfl) fun ρ ρ' x h => fin hq1' (ρ := ρ) ?_
            rw [rOdd_eq] at ho
            rw [ho, if_pos rfl, ← neg]
            exact h
        | false =>
          have hq1' : r1 u v * r1 u v ≠ rQ u v := by
            intro h
            rw [← zc4, ← eqD_iff, hq1] at h
            cases h
          have hb := rat_no hv hq' hq1'
          refine run (ra_f u v) (by rw [hq, hq1, hH, vT_eq]; rfl) fun ρ ρ' x h => ?_
          obtain ⟨vs, rfl, y, ys, e, hy, hys⟩ := h
          refine ⟨vs, rfl, y, ys, e, by rw [rat_none hb]; exact z16_nn hy, ?_⟩
          rw [hb]
          exact (zc5 rfl ρ ρ').2.2 _ hys
  · cases hm
def rpT (x y : F) : T := .cons (nnA x) (.cons (nnA y) .nil)
noncomputable def envR6 : Env := ((envR5.set 74 (za1 nRatioM)).set 67 (za1 nBytesM)).set 66 (za1 nLoadM)
theorem envR6_ok : EnvOK Tryz.prog envR6 := ((envR5_ok.set nRatio_ok).set nBytes_ok).set nLoad_ok
theorem nof_one : nof 1 = 1 := by rw [nof_eq]; decide +kernel
theorem nof_zero : nof 0 = 0 := by rw [nof_eq]; decide +kernel
theorem nof_neg (x : F) : fsub (nof 0) x = -x := by rw [zm0, nof_zero]; grobner
theorem zero1_mv : mv (evFn Tryz.prog envR6 40 Tryz.f68) [] = some (true, .cons z16 (.cons (nnA (nof 1)) .nil)) := by kernel_rfl
noncomputable def rZeroM : zb1
  | [] => some (true, rpT pZ.x pZ.y)
  | _ => none
theorem rZero_ok : SoundM Tryz.prog 68 (za1 rZeroM) := by
  refine (SoundM.of_ev envR6_ok mix (n := 40) (fn := Tryz.f68) (by kernel_rfl) (by kernel_rfl) (by kernel_rfl)).refine ?_
  intro args vc v hm hvc ρ xs hargs
  unfold rZeroM at hm
  split at hm
  · cases hm
    obtain ⟨r, h3, h4, h5⟩ := za8 zero1_mv
    refine ⟨[], hargs, r, h3, h4, fun ρ' w hw => ?_⟩
    rw [h5] at hw
    obtain ⟨cs, rfl, a, b, e, h1, h2⟩ := hw
    refine ⟨cs, rfl, a, b, e, ?_, ?_⟩
    · obtain ⟨cs', e', h'⟩ := (R_agg (t := nnA 0) rfl).1 (z16_nn (ρ := ρ') (ρ' := ρ) (x := .agg a.toArray) ⟨a.toArray, rfl, h1⟩)
      cases e'
      rw [pZ_eq]
      exact h'
    · rw [pZ_eq, show (Pt.zero).y = nof 1 from nof_one.symm]
      exact (zc5 (t := .cons (nnA (nof 1)) .nil) rfl ρ' ρ).1 _ h2
  · cases hm
theorem d1_mv : mv (evFn Tryz.prog envR6 40 Tryz.f73) [] = some (true, nnA (fsub (nof 0) (fmul (nof 121665) (finv (nof 121666))))) := by kernel_rfl
theorem d1_aux {a c w e : F} (h : c * w = 1) (hc : c ≠ 0) (hd : e * c = -a) : -(a * w) = e := by
  refine zg1 hc ?_
  rw [hd]
  grobner
theorem d1_val : fsub (nof 0) (fmul (nof 121665) (finv (nof 121666))) = fd := by
  have h5 : nof 121665 = 121665 := by rw [nof_eq]; decide +kernel
  have h6 : nof 121666 = 121666 := by rw [nof_eq]; decide +kernel
  have hne : (121666 : F) ≠ 0 := by decide +kernel
  rw [nof_neg, zc4, zr3, fd_eq, h5, h6]
  exact d1_aux (ze0 hne) hne d_def
noncomputable def rDM : zb1
  | [] => some (true, nnA fd)
  | _ => none
theorem rD_ok : SoundM Tryz.prog 73 (za1 rDM) := by
  refine (SoundM.of_ev envR6_ok mix (n := 40) (fn := Tryz.f73) (by kernel_rfl) (by kernel_rfl) (by kernel_rfl)).pure ?_
  intro args vc v h hvc
  unfold rDM at h
  split at h
  · cases h
    obtain ⟨r, h3, h4, h5⟩ := za8 d1_mv
    exact ⟨rfl, rfl, r, h3, h4, by rw [h5, d1_val]⟩
  · cases h
noncomputable def envR7 : Env := (envR6.set 73 (za1 rDM)).set 68 (za1 rZeroM)
theorem envR7_ok : EnvOK Tryz.prog envR7 := (envR6_ok.set rD_ok).set rZero_ok
noncomputable def rp1M (op : F → F → Option (Bool × T)) : zb1
  | [.cons (.abs (.nn x)) (.cons (.abs (.nn y)) .nil)] => op x y
  | _ => none
noncomputable def rp2M (op : F → F → F → F → Option (Bool × T)) : zb1
  | [.cons (.abs (.nn x)) (.cons (.abs (.nn y)) .nil), .cons (.abs (.nn x')) (.cons (.abs (.nn y')) .nil)] => op x y x' y'
  | _ => none
theorem rp2_ok {f : FuncId} {M : Model} {op : F → F → F → F → Option (Bool × T)} (hs : SoundM Tryz.prog f M) (h : ∀ x y x' y' vc t, op x y x' y' = some (vc, t) → vc = true → noPtr t = true ∧ ∃ vc', mv M [rpT x y, rpT x' y'] = some (vc', t) ∧ vc' = true) :
    SoundM Tryz.prog f (za1 (rp2M op)) := by
  refine hs.pure ?_
  intro args vc v hm hvc
  unfold rp2M at hm
  split at hm
  · obtain ⟨h1, vc', h2, h3⟩ := h _ _ _ _ _ _ hm hvc
    obtain ⟨r, h4, h5, h6⟩ := za8 h2
    exact ⟨rfl, h1, r, h4, h5.trans h3, h6⟩
  · cases hm
open Classical in
noncomputable def onB (x y : F) : Bool := hid (fun (x y : F) => decide (On x y)) x y
theorem onB_iff {x y : F} : onB x y = true ↔ On x y := by unfold onB; rw [zb5]; simp
noncomputable def hsx (x y x' y' : F) : F := hid (fun (x y x' y' : F) => sx x y x' y') x y x' y'
noncomputable def hsy (x y x' y' : F) : F := hid (fun (x y x' y' : F) => sy x y x' y') x y x' y'
theorem hsx_eq (x y x' y' : F) : hsx x y x' y' = sx x y x' y' := by unfold hsx; rw [zb5]
theorem hsy_eq (x y x' y' : F) : hsy x y x' y' = sy x y x' y' := by unfold hsy; rw [zb5]
theorem radd_mv (x y x' y' : F) : mv (evFn Tryz.prog envR7 40 Tryz.f30) [rpT x y, rpT x' y'] = some (true, rpT (fmul (fadd (fmul x y') (fmul y x')) (finv (fadd (nof 1) (fmul fd (fmul (fmul x y') (fmul y x'))))))
    (fmul (fadd (fmul y y') (fmul x x')) (finv (fsub (nof 1) (fmul fd (fmul (fmul x y') (fmul y x'))))))) := by kernel_rfl
theorem rAdd_ok : SoundM Tryz.prog 30 (za1 (rp2M fun x y x' y' => some (true, rpT (hsx x y x' y') (hsy x y x' y')))) := by
  refine rp2_ok (SoundM.of_ev envR7_ok mix (n := 40) (fn := Tryz.f30) (by kernel_rfl) (by kernel_rfl) (by kernel_rfl)) ?_
  intro x y x' y' vc t h hvc
  cases h
  refine ⟨rfl, true, ?_, rfl⟩
  rw [radd_mv, hsx_eq, hsy_eq]
  simp only [zm0, zc4, zj7, fd_eq, zr3, nof_one]
  unfold sx sy
  have e : x * y' * (y * x') = x * x' * (y * y') := by grobner
  rw [e]
noncomputable def encC (x y : F) : Nat → Int := hid (fun (x y : F) => bif oddF x then put31 (bits .or .u8 (zb6 y 31) 128) (zb6 y) else zb6 y) x y
theorem encC_eq (x y : F) : encC x y = bif oddF x then put31 (bits .or .u8 (zb6 y 31) 128) (zb6 y) else zb6 y := by unfold encC; rw [zb5]
theorem encC_pt (p : Pt) : encC p.x p.y = encP p := by rw [encC_eq, encP_eq]
noncomputable def rbM (b : Bool) : Model := evFn Tryz.prog envR7 ⟨1000000, [(11, b)]⟩ Tryz.f45
theorem rbytes_t (x y : F) : mv (rbM true) [rpT x y] = some ((((rOdd x) == true) && true) && true, .ints .u8 32 (put31 (bits .or .u8 (zb6 y 31) 128) (zb6 y))) := by kernel_rfl
theorem rbytes_f (x y : F) : mv (rbM false) [rpT x y] = some ((((rOdd x) == false) && true) && true, .ints .u8 32 (zb6 y)) := by kernel_rfl
noncomputable def rBytesM : zb1 := rp1M fun x y => some (true, .ints .u8 32 (encC x y))
theorem rBytes_ok : SoundM Tryz.prog 45 (za1 rBytesM) := by
  refine SoundM.refineX ?_
  intro args vc v hm hvc ρ xs hargs
  unfold rBytesM rp1M at hm
  split at hm
  · rename_i x y
    cases hm
    have hx : VLs rho0 [rpT x y] xs := zd6 rfl hargs
    have hs : ∀ b, SoundM Tryz.prog 45 (rbM b) := fun b => SoundM.of_ev envR7_ok mix (by kernel_rfl) (by kernel_rfl) (by kernel_rfl)
    cases ho : rOdd x with
    | true =>
      obtain ⟨r, h3, h4, h5⟩ := za8 (rbytes_t x y)
      refine ⟨_, hs true, _, hx, r, h3, by rw [h4, ho]; rfl, fun ρ' w hw => ?_⟩
      rw [rOdd_eq] at ho
      rw [encC_eq, ho]
      rw [h5] at hw
      exact (zc5 (t := .ints .u8 32 _) rfl ρ' ρ).2.1 _ hw
    | false =>
      obtain ⟨r, h3, h4, h5⟩ := za8 (rbytes_f x y)
      refine ⟨_, hs false, _, hx, r, h3, by rw [h4, ho]; rfl, fun ρ' w hw => ?_⟩
      rw [rOdd_eq] at ho
      rw [encC_eq, ho]
      rw [h5] at hw
      exact (zc5 (t := .ints .u8 32 _) rfl ρ' ρ).2.1 _ hw
  · cases hm
def wiT (q : Qd) : T := .cons (nnA q.x) (.cons (nnA q.y) (.cons (nnA q.z) (.cons (nnA q.t) .nil)))
noncomputable def suA (p q : Qd) : F := fmul (fsub p.y p.x) (fsub q.y q.x)
noncomputable def suB (p q : Qd) : F := fmul (fadd p.y p.x) (fadd q.y q.x)
noncomputable def suC (p q : Qd) (k : F) : F := fmul (fmul p.t k) q.t
noncomputable def suZ (p q : Qd) : F := fadd (fmul p.z q.z) (fmul p.z q.z)
noncomputable def suQ (p q : Qd) (k : F) : Qd :=
  ⟨fmul (fsub (suB p q) (suA p q)) (fsub (suZ p q) (suC p q k)), fmul (fadd (suZ p q) (suC p q k)) (fadd (suB p q) (suA p q)), fmul (fsub (suZ p q) (suC p q k)) (fadd (suZ p q) (suC p q k)), fmul (fsub (suB p q) (suA p q)) (fadd (suB p q) (suA p q))⟩
theorem sum_mv (p q : Qd) (k : F) : mv (evFn Tryz.prog envR7 40 Tryz.f78) [wiT p, wiT q, nnA k] = some (true, wiT (suQ p q k)) := by kernel_rfl
noncomputable def sumM : zb1
  | [.cons (.abs (.nn x)) (.cons (.abs (.nn y)) (.cons (.abs (.nn z)) (.cons (.abs (.nn t)) .nil))), .cons (.abs (.nn x')) (.cons (.abs (.nn y')) (.cons (.abs (.nn z')) (.cons (.abs (.nn t')) .nil))), .abs (.nn k)] => some (true, wiT (suQ ⟨x, y, z, t⟩ ⟨x', y', z', t'⟩ k))
  | _ => none
theorem sum_ok : SoundM Tryz.prog 78 (za1 sumM) := by
  refine (SoundM.of_ev envR7_ok mix (n := 40) (fn := Tryz.f78) (by kernel_rfl) (by kernel_rfl) (by kernel_rfl)).pure ?_
  intro args vc v h hvc
  unfold sumM at h
  split at h
  · rename_i x y z t x' y' z' t' k
    cases h
    obtain ⟨r, h3, h4, h5⟩ := za8 (sum_mv ⟨x, y, z, t⟩ ⟨x', y', z', t'⟩ k)
    exact ⟨rfl, rfl, r, h3, h4, h5⟩
  · cases h
theorem suQ_is {p q : Qd} {A B : Pt} {k : F} (hp : p.is A) (hq : q.is B) (hk : k = d + d) : (suQ p q k).is (A.add B) := by
  unfold Qd.is suQ suA suB suC suZ at *
  simp only [zj7, zm0, zc4]
  exact ext_add hp hq rfl rfl (by subst hk; generalize d = e; grobner) rfl rfl rfl rfl rfl
noncomputable def envR8 : Env := ((envR7.set 30 (za1 (rp2M fun x y x' y' => some (true, rpT (hsx x y x' y') (hsy x y x' y'))))).set 45 (za1 rBytesM)).set 78 (za1 sumM)
theorem envR8_ok : EnvOK Tryz.prog envR8 := ((envR7_ok.set rAdd_ok).set rBytes_ok).set sum_ok
noncomputable def rdM (sy : List (Nat × Bool)) : Model := evFn Tryz.prog envR8 ⟨1000000, sy⟩ Tryz.f28
theorem rdM_ok (sy : List (Nat × Bool)) : SoundM Tryz.prog 28 (rdM sy) := SoundM.of_ev envR8_ok mix (by kernel_rfl) (by kernel_rfl) (by kernel_rfl)
def rLow (f : Nat → Int) : Nat → Int := put31 (bits .andNot .u8 (f 31) 128) f
def rY (f : Nat → Int) : F := toF (num32 (rLow f))
noncomputable def rU (y : F) : F := fsub (fmul y y) (nof 1)
noncomputable def rV (y : F) : F := fadd (fmul fd (fmul y y)) (nof 1)
noncomputable def rX (y : F) : F := ratR (rU y) (rV y)
noncomputable def rI (y : F) : Bool := ratB (rU y) (rV y)
noncomputable def rZ (y : F) : Bool := eqR (dg (rX y)) (dg (nof 0)) 16 0
noncomputable def rNo : T := .tup (.cons (rpT pZ.x pZ.y) (.cons (.bool false) .nil))
noncomputable def vL (f : Nat → Int) : Bool := ((za4 32 (rLow f) && true) && true)
noncomputable def vE (f : Nat → Int) (b : Bool) : Bool := (((!eqN 32 (zb6 (rY f)) (rLow f)) == b) && true) && vL f
noncomputable def vR (f : Nat → Int) : Bool := ((!feq (rV (rY f)) zeroR) && true) && vE f false
theorem rd_a (f : Nat → Int) : mv (rdM [(26, true)]) [.ints .u8 32 f] = some (vE f true, rNo) := by kernel_rfl
theorem rd_b (f : Nat → Int) : mv (rdM [(26, false), (50, true)]) [.ints .u8 32 f] = some ((((!rI (rY f)) == true) && true) && vR f, rNo) := by kernel_rfl
theorem rd_c (f : Nat → Int) : mv (rdM [(26, false), (50, false), (52, false), (57, true)]) [.ints .u8 32 f] =
    some (((dO f == true) && true) && ((((!rI (rY f)) == false) && (((rZ (rY f) == false) || false) && true)) && vR f), .tup (.cons (rpT (fsub (nof 0) (rX (rY f))) (rY f)) (.cons (.bool true) .nil))) := by kernel_rfl
theorem rd_d (f : Nat → Int) : mv (rdM [(26, false), (50, false), (52, false), (57, false)]) [.ints .u8 32 f] =
    some (((dO f == false) && true) && ((((!rI (rY f)) == false) && (((rZ (rY f) == false) || false) && true)) && vR f), .tup (.cons (rpT (rX (rY f)) (rY f)) (.cons (.bool true) .nil))) := by kernel_rfl
theorem rd_e (f : Nat → Int) : mv (rdM [(26, false), (50, false), (52, true), (53, true)]) [.ints .u8 32 f] =
    some ((((!rI (rY f)) == false) && (((rZ (rY f) == true) || false) && (((dO f == true) || false) && true))) && vR f, rNo) := by kernel_rfl
theorem rd_f (f : Nat → Int) : mv (rdM [(26, false), (50, false), (52, true), (53, false), (57, false)]) [.ints .u8 32 f] =
    some (((dO f == false) && true) && ((((!rI (rY f)) == false) && (((rZ (rY f) == true) || false) && (((dO f == false) || false) && true))) && vR f), .tup (.cons (rpT (rX (rY f)) (rY f)) (.cons (.bool true) .nil))) := by kernel_rfl
theorem andNot_all : ∀ a : Fin 256, bits .andNot .u8 (a.val : Int) 128 = bits .and .u8 (a.val : Int) 127 := by decide +kernel
theorem rLow_eq {f : Nat → Int} (h : za4 32 f = true) : rLow f = low7 f := by
  have hb := za9 h 31 (by decide)
  have := andNot_all ⟨(f 31).toNat, by omega⟩
  simp only [show (((f 31).toNat : Nat) : Int) = f 31 by omega] at this
  unfold rLow low7
  rw [this]
theorem dV_ne' (y : F) : dV y ≠ 0 := by
  unfold dV
  simp only [zj7, zc4, fd_eq, zp0]
  intro hc
  have hy : y ≠ 0 := by
    rintro rfl
    have e : d * ((0 : F) * 0) = 0 := by decide +kernel
    rw [e] at hc
    exact absurd hc (by decide +kernel)
  have hs : i * i = d * (y * y) := by
    rw [i_sq]
    generalize d = k at *
    grobner
  exact d_nonsq2 hy hs
theorem rY_eq {f : Nat → Int} (h : za4 32 f = true) : rY f = dY f := by unfold rY dY; rw [rLow_eq h]
theorem rU_eq (y : F) : rU y = dU y := by unfold rU dU; rw [nof_one, zp0]
theorem rV_eq (y : F) : rV y = dV y := by unfold rV dV; rw [nof_one, zp0]
theorem rX_eq (y : F) : rX y = dX y := by unfold rX dX; rw [rU_eq, rV_eq]
theorem rI_eq (y : F) : rI y = dI y := by unfold rI dI; rw [rU_eq, rV_eq]
theorem rZ_eq (y : F) : rZ y = feq (dX y) zeroR := by
  have h : rZ y = eqD (rX y) (nof 0) := rfl
  rw [h, Bool.eq_iff_iff, eqD_iff, rX_eq, nof_zero, feq_eq, zq5, decide_eq_true_eq]
noncomputable def rDecodeM : zb1
  | [.ints .u8 32 f] => some (za4 32 f, .tup (.cons (rpT (decP f).x (decP f).y) (.cons (.bool (decB f)) .nil)))
  | _ => none
theorem rDecode_ok : SoundM Tryz.prog 28 (za1 rDecodeM) := by
  refine SoundM.refineX ?_
  intro args vc v hm hvc ρ xs hargs
  unfold rDecodeM at hm
  split at hm
  · rename_i f
    cases hm
    have hx : VLs rho0 [.ints .u8 32 f] xs := zd6 rfl hargs
    have hlow := rLow_eq hvc
    have hy := rY_eq hvc
    have hvL : vL f = true := by unfold vL; rw [hlow, low7_bytes hvc]; rfl
    have hV : feq (rV (rY f)) zeroR = false := by
      rw [rV_eq, feq_eq, zq5, decide_eq_false_iff_not]
      exact dV_ne' _
    have run : ∀ {sy : List (Nat × Bool)} {vc : Bool} {t : T}, mv (rdM sy) [.ints .u8 32 f] = some (vc, t) → vc = true → (t = .tup (.cons (rpT (decP f).x (decP f).y) (.cons (.bool (decB f)) .nil))) →
        ∃ M, SoundM Tryz.prog 28 M ∧ ∃ args2, VLs rho0 args2 xs ∧ ∃ r, M args2 [] = some r ∧ r.vc = true ∧ ∀ ρ' x, (R ρ' r.v).v x → (R ρ (.tup (.cons (rpT (decP f).x (decP f).y) (.cons (.bool (decB f)) .nil)))).v x := by
      intro sy vc t h1 h2 h3
      obtain ⟨r, h4, h5, h6⟩ := za8 h1
      exact ⟨_, rdM_ok sy, _, hx, r, h4, h5.trans h2, fun ρ' w hw => by rw [h6, h3] at hw; exact (zc5 rfl ρ' ρ).2.1 _ hw⟩
    have no : dOk f = false → rNo = .tup (.cons (rpT (decP f).x (decP f).y) (.cons (.bool (decB f)) .nil)) := by
      intro h
      unfold rNo
      rw [dec_zero h, zs8, h, pZ_eq]
    have yes : ∀ {x : F}, dOk f = true → x = decX f → (.tup (.cons (rpT x (rY f)) (.cons (.bool true) .nil)) : T) = .tup (.cons (rpT (decP f).x (decP f).y) (.cons (.bool (decB f)) .nil)) := by
      intro x h hx
      obtain ⟨h1, h2⟩ := dec_pt h
      rw [h1, h2, zs8, h, hx, hy]
    cases hq : eqN 32 (zb6 (dY f)) (low7 f) with
    | false => exact run (rd_a f) (by unfold vE; rw [hvL, hy, hlow, hq]; rfl) (no (by unfold dOk; rw [hq]; rfl))
    | true =>
      have hvE : vE f false = true := by unfold vE; rw [hvL, hy, hlow, hq]; rfl
      have hvR : vR f = true := by unfold vR; rw [hvE, hV]; rfl
      cases hi : dI (dY f) with
      | false => exact run (rd_b f) (by rw [hvR, hy, rI_eq, hi]; rfl) (no (by unfold dOk; rw [hq, hi]; rfl))
      | true =>
        cases hz : feq (dX (dY f)) zeroR with
        | true =>
          cases ho : dO f with
          | true => exact run (rd_e f) (by rw [hvR, hy, rI_eq, hi, rZ_eq, hz, ho]; rfl) (no (by unfold dOk; rw [hq, hi, hz, ho]; rfl))
          | false => exact run (rd_f f) (by rw [hvR, hy, rI_eq, hi, rZ_eq, hz, ho]; rfl) (yes (by unfold dOk; rw [hq, hi, hz, ho]; rfl) (by unfold decX pickF; rw [ho, rX_eq, hy]; rfl))
        | false =>
          cases ho : dO f with
          | true => exact run (rd_c f) (by rw [hvR, hy, rI_eq, hi, rZ_eq, hz, ho]; rfl) (yes (by unfold dOk; rw [hq, hi, hz, ho]; rfl) (by unfold decX pickF; rw [ho, rX_eq, hy, nof_neg, zs3]; rfl))
          | false => exact run (rd_d f) (by rw [hvR, hy, rI_eq, hi, rZ_eq, hz, ho]; rfl) (yes (by unfold dOk; rw [hq, hi, hz, ho]; rfl) (by unfold decX pickF; rw [ho, rX_eq, hy]; rfl))
  · cases hm
noncomputable def envR9 : Env := envR8.set 28 (za1 rDecodeM)
theorem zr6 : EnvOK Tryz.prog envR9 := envR8_ok.set rDecode_ok
noncomputable def baseY : F := fmul (nof 4) (finv (nof 5))
theorem rbase_v : (mv (evFn Tryz.prog envR9 1000000 Tryz.f32) []).map (·.2) = some (rpT (decP (zb6 baseY)).x (decP (zb6 baseY)).y) := by kernel_rfl
theorem rbase_vc : (mv (evFn Tryz.prog envR9 1000000 Tryz.f32) []).map (·.1) = some ((za4 32 (zb6 baseY) && true) && true) := by kernel_rfl
theorem baseY_eq : baseY = pB.y := by
  unfold baseY
  rw [zc4, zr3, nof_eq, nof_eq, pB_eq]
  have h : (toF 5) * (Fin.ofNat P 11579208923731619542357098500868790785326998466564056403945758400791312963990) = 1 := by decide +kernel
  rw [inv_eq h]
  decide +kernel
theorem enc_base : ∀ j, j < 32 → encP pB j = zb6 pB.y j := by
  have ho : oddF pB.x = false := by rw [zn8, pB_eq]; decide +kernel
  intro j _
  rw [encP_eq, ho]
  rfl
theorem dec_base : decP (zb6 baseY) = pB := by
  rw [baseY_eq, ← decP_congr enc_base]
  exact (dec_enc pB).2
noncomputable def rBaseM : zb1
  | [] => some (true, rpT pB.x pB.y)
  | _ => none
theorem rBase_ok : SoundM Tryz.prog 32 (za1 rBaseM) := by
  refine (SoundM.of_ev zr6 mix (n := 1000000) (fn := Tryz.f32) (by kernel_rfl) (by kernel_rfl) (by kernel_rfl)).pure ?_
  intro args vc v h hvc
  unfold rBaseM at h
  split at h
  · cases h
    have h1 := rbase_v
    have h2 := rbase_vc
    cases hm : mv (evFn Tryz.prog envR9 1000000 Tryz.f32) [] with
    | none => rw [hm] at h1; cases h1
    | some r =>
      obtain ⟨c, t⟩ := r
      rw [hm] at h1 h2
      cases h1
      cases h2
      obtain ⟨r, h3, h4, h5⟩ := za8 hm
      refine ⟨rfl, rfl, r, h3, ?_, ?_⟩
      · rw [h4, zd5 fun i _ => zm4 _ i]; rfl
      · rw [h5, dec_base]; rfl
  · cases h
noncomputable def rmC : Code := bodyC Tryz.f31
noncomputable def rmX : Code := postC 5 rmC
noncomputable def rmB : Code := cB (cB (cR (cL rmX)))
theorem rmX_eq : postC 5 rmC = .seq (.seq (cL (cL rmX)) (.block 0 (.loop rmB))) (cR rmX) := by kernel_rfl
def rmK : Nat := za2 [2, 3, 4, 5, 6, 7, 8, 9]
def rmT0 : List T := tmk [(2, .ptr 0 []), (3, .ptr 1 []), (4, .ptr 2 []), (5, .ptr 3 []), (6, .ptr 4 []), (7, .ptr 5 []), (8, .ptr 6 [])] 0 65
def rmT (i : Int) : List T := tmk [(2, .ptr 0 []), (3, .ptr 1 []), (4, .ptr 2 []), (5, .ptr 3 []), (6, .ptr 4 []), (7, .ptr 5 []), (8, .ptr 6 []), (9, .int .i64 i)] 0 65
noncomputable def rmQ (x y : F) : Qd := ⟨x, y, nof 1, fmul x y⟩
noncomputable def rmO : Qd := ⟨nof 0, nof 1, nof 1, nof 0⟩
noncomputable def rmD : F := fadd fd fd
def rpZ : T := .cons z16 (.cons z16 .nil)
noncomputable def rmG (f : Nat → Int) (x y : F) (o : Qd) : Heap := [some (.ints .u8 32 f), some (rpT x y), some rpZ, some (nnA rmD), some (nnA (nof 1)), some (wiT (rmQ x y)), some (wiT o)]
def rmV (f : Nat → Int) (i : Int) : Bool := bits BinOp.and IntKind.u8 (shrI IntKind.u8 (f (IntKind.i64.wrap (i.tdiv 8)).toNat) (IntKind.u64.wrap (i.tmod 8))) 1 == 1
def rmVC (f : Nat → Int) (i : Int) (b : Bool) : Bool :=
  (decide (0 ≤ IntKind.i64.wrap (i.tdiv 8) ∧ IntKind.i64.wrap (i.tdiv 8) < 32) && ((decide ((IntKind.i64.wrap (i.tdiv 8)).toNat < 32) && true) && (decide (0 ≤ IntKind.u64.wrap (i.tmod 8)) && ((rmV f i == b) && true)))) && (((decide (i ≥ 0) == true) && true) && true)
theorem rm_pre (f : Nat → Int) (x y : F) : (za3 Tryz.prog envR9 40 (preC 5 rmC) (stOf ([.ints .u8 32 f, rpT x y] ++ zb4 63) [])).map (cutP rmK) = some (.normal, true, rmT0, rmG f x y rmO, true) := by kernel_rfl
theorem rm_ini (f : Nat → Int) (x y : F) (o : Qd) : (za3 Tryz.prog envR9 40 (preC 1 (cL rmX)) (stOf rmT0 (rmG f x y o))).map (cutP rmK) = some (.normal, true, rmT 255, rmG f x y o, true) := by kernel_rfl
theorem rm_one (f : Nat → Int) (x y : F) (o : Qd) (i : Int) (h : rmVC f i true = true) : Tr Tryz.prog 0 rmB (stOf (rmT i) (rmG f x y o)) .normal (stOf (rmT (IntKind.i64.wrap (i - 1))) (rmG f x y (suQ (suQ o o rmD) (rmQ x y) rmD))) :=
  Tr.ev (n := ⟨1000000, [(32, true), (48, true)]⟩) (N := 7) (keep := rmK) (vc := rmVC f i true) zr6 mix (by kernel_rfl) h rfl rfl
theorem rm_nil (f : Nat → Int) (x y : F) (o : Qd) (i : Int) (h : rmVC f i false = true) : Tr Tryz.prog 0 rmB (stOf (rmT i) (rmG f x y o)) .normal (stOf (rmT (IntKind.i64.wrap (i - 1))) (rmG f x y (suQ o o rmD))) :=
  Tr.ev (n := ⟨1000000, [(32, true), (48, false)]⟩) (N := 7) (keep := rmK) (vc := rmVC f i false) zr6 mix (by kernel_rfl) h rfl rfl
theorem rm_end (f : Nat → Int) (x y : F) (o : Qd) : Tr Tryz.prog 0 rmB (stOf (rmT (-1)) (rmG f x y o)) (.exit 0) (stOf (rmT (-1)) (rmG f x y o)) :=
  Tr.ev (n := 40) (N := 7) (keep := rmK) (vc := true) zr6 mix (by kernel_rfl) rfl rfl rfl
noncomputable def rmG9 (f : Nat → Int) (x y : F) (o : Qd) : Heap := [some (.ints .u8 32 f), some (rpT x y), some (rpT (fmul o.x (finv o.z)) (fmul o.y (finv o.z))), some (nnA rmD), some (nnA (nof 1)), some (wiT (rmQ x y)), some (wiT o)]
theorem rm_post (f : Nat → Int) (x y : F) (o : Qd) : Tr Tryz.prog 0 (cR rmX) (stOf (rmT (-1)) (rmG f x y o)) .ret (stOf (rmT (-1)) (rmG9 f x y o)) :=
  Tr.ev (n := 40) (N := 7) (keep := rmK) (vc := true) zr6 mix (by kernel_rfl) rfl rfl rfl
theorem rmVC_eq {f : Nat → Int} (hf : za4 32 f = true) (k : Nat) (hk : k < 256) : rmVC f (k : Nat) (bitAt f k) = true := by
  have e1 : IntKind.i64.wrap ((k : Int).tdiv 8) = ((k / 8 : Nat) : Int) := by
    rw [Int.tdiv_eq_ediv_of_nonneg (by omega), IntKind.wrap_i64]; omega
  have e2 : IntKind.u64.wrap ((k : Int).tmod 8) = ((k % 8 : Nat) : Int) := by
    rw [Int.tmod_eq_emod_of_nonneg (by omega), IntKind.wrap_u64]; omega
  have hb := za9 hf (k / 8) (by omega)
  have hv : rmV f (k : Nat) = bitAt f k := by
    unfold rmV bitAt
    rw [e1, e2, Int.toNat_natCast, shrI_u8 _ _ (by omega)]
    obtain ⟨v, hv⟩ := Int.eq_ofNat_of_zero_le hb.1
    have hv' : v < 256 := by omega
    rw [hv, show ((v : Int) / 2 ^ (k % 8)) = ((v / 2 ^ (k % 8) : Nat) : Int) by simp]
    have hd : v / 2 ^ (k % 8) < 256 := Nat.lt_of_le_of_lt (Nat.div_le_self _ _) hv'
    rw [and1_u8 _ hd, Int.toNat_natCast, Bool.eq_iff_iff, beq_iff_eq, decide_eq_true_eq]
    omega
  unfold rmVC
  rw [hv, e1, e2]
  have h1 : (0 : Int) ≤ ((k / 8 : Nat) : Int) ∧ ((k / 8 : Nat) : Int) < 32 := by omega
  have h2 : (((k / 8 : Nat) : Int)).toNat < 32 := by omega
  have h3 : (0 : Int) ≤ ((k % 8 : Nat) : Int) := by omega
  have h4 : ((k : Int) ≥ 0) := by omega
  simp only [h1, h2, h3, h4, and_self, decide_true, Bool.and_true, beq_self_eq_true]
noncomputable def rmN (f : Nat → Int) (x y : F) : Nat → Qd
  | 0 => rmO
  | k + 1 => bif bitAt f (255 - k) then suQ (suQ (rmN f x y k) (rmN f x y k) rmD) (rmQ x y) rmD else suQ (rmN f x y k) (rmN f x y k) rmD
theorem rm_step {f : Nat → Int} (hf : za4 32 f = true) (x y : F) (k : Nat) (hk : k < 256) : Tr Tryz.prog 0 rmB (stOf (rmT ((255 - k : Nat) : Int)) (rmG f x y (rmN f x y k))) .normal (stOf (rmT ((255 - k : Nat) - 1 : Int)) (rmG f x y (rmN f x y (k + 1)))) := by
  have hv := rmVC_eq hf (255 - k) (by omega)
  have e1 : IntKind.i64.wrap (((255 - k : Nat) : Int) - 1) = ((255 - k : Nat) : Int) - 1 := by rw [IntKind.wrap_i64]; omega
  cases hb : bitAt f (255 - k) with
  | true =>
    rw [hb] at hv
    have := rm_one f x y (rmN f x y k) _ hv
    have e2 : rmN f x y (k + 1) = suQ (suQ (rmN f x y k) (rmN f x y k) rmD) (rmQ x y) rmD := by show (bif _ then _ else _) = _; rw [hb]; rfl
    rw [e1] at this
    rw [e2]
    exact this
  | false =>
    rw [hb] at hv
    have := rm_nil f x y (rmN f x y k) _ hv
    have e2 : rmN f x y (k + 1) = suQ (rmN f x y k) (rmN f x y k) rmD := by show (bif _ then _ else _) = _; rw [hb]; rfl
    rw [e1] at this
    rw [e2]
    exact this
theorem rm_loop {f : Nat → Int} (hf : za4 32 f = true) (x y : F) : ∀ m, m ≤ 256 →
    TrN Tryz.prog 0 rmB (m + 1) (stOf (rmT ((m : Nat) - 1 : Int)) (rmG f x y (rmN f x y (256 - m)))) (.exit 0) (stOf (rmT (-1)) (rmG f x y (rmN f x y 256)))
  | 0, _ => TrN.done (rm_end f x y _) (by intro h; cases h)
  | m + 1, h => by
    have hs := rm_step hf x y (256 - (m + 1)) (by omega)
    have e1 : (255 - (256 - (m + 1)) : Nat) = m := by omega
    rw [e1, show 256 - (m + 1) + 1 = 256 - m by omega] at hs
    have e2 : ((m + 1 : Nat) : Int) - 1 = (m : Nat) := by omega
    rw [e2]
    exact TrN.next hs (rm_loop hf x y m (by omega))
theorem rm_tr {f : Nat → Int} (hf : za4 32 f = true) (x y : F) : Tr Tryz.prog 0 rmC (stOf ([.ints .u8 32 f, rpT x y] ++ zb4 63) []) .ret (stOf (rmT (-1)) (rmG9 f x y (rmN f x y 256))) := by
  refine Tr.pre zr6 mix 5 rmK (rm_pre f x y) rfl ?_
  rw [rmX_eq]
  refine Tr.seq (s1 := stOf (rmT (-1)) (rmG f x y (rmN f x y 256))) ?_ (rm_post f x y _)
  refine Tr.pre zr6 mix 1 rmK (rm_ini f x y _) rfl ?_
  exact Tr.blockX (Tr.loop (rm_loop hf x y 256 (Nat.le_refl _)))
theorem rmN_is (f : Nat → Int) (p : Pt) : ∀ k, (rmN f p.x p.y k).is (p.smul (hi f k))
  | 0 => by
    show Ext (nof 0) (nof 1) (nof 1) (nof 0) Pt.zero
    rw [nof_zero, nof_one]
    exact ext_zero
  | k + 1 => by
    have ih := rmN_is f p k
    have hk : rmD = d + d := by unfold rmD; rw [zj7, fd_eq]
    have hq : (rmQ p.x p.y).is p := by
      unfold Qd.is rmQ
      rw [nof_one, zc4]
      exact ext_of p
    have h2 := suQ_is ih ih hk
    show (bif bitAt f (255 - k) then _ else _ : Qd).is (p.smul (2 * hi f k + (bitAt f (255 - k)).toNat))
    rw [zh0, Nat.two_mul, zh0]
    cases bitAt f (255 - k) with
    | true =>
      rw [show Bool.toNat true = 1 from rfl, zq6]
      exact suQ_is h2 hq hk
    | false =>
      rw [show Bool.toNat false = 0 from rfl, zf8, Pt.add_zero]
      exact h2
open Classical in
noncomputable def muPt (f : Nat → Int) (x y : F) : Pt := if h : On x y then pMul f ⟨x, y, h⟩ else .zero
noncomputable def rmx (f : Nat → Int) (x y : F) : F := hid (fun (f : Nat → Int) (x y : F) => (muPt f x y).x) f x y
noncomputable def rmy (f : Nat → Int) (x y : F) : F := hid (fun (f : Nat → Int) (x y : F) => (muPt f x y).y) f x y
theorem muPt_pt (f : Nat → Int) (p : Pt) : muPt f p.x p.y = pMul f p := by unfold muPt; rw [dif_pos p.on]
theorem rmx_pt (f : Nat → Int) (p : Pt) : rmx f p.x p.y = (pMul f p).x := by unfold rmx; rw [zb5, muPt_pt]
theorem rmy_pt (f : Nat → Int) (p : Pt) : rmy f p.x p.y = (pMul f p).y := by unfold rmy; rw [zb5, muPt_pt]
noncomputable def rMulM : zb1
  | [.ints .u8 32 f, .cons (.abs (.nn x)) (.cons (.abs (.nn y)) .nil)] => some (za4 32 f && onB x y, rpT (rmx f x y) (rmy f x y))
  | _ => none
theorem rMul_ok : SoundM Tryz.prog 31 (za1 rMulM) := by
  refine SoundM.refineX ?_
  intro args vc v hm hvc ρ xs hargs
  unfold rMulM at hm
  split at hm
  · rename_i f x y
    cases hm
    simp only [Bool.and_eq_true] at hvc
    obtain ⟨hf, ho⟩ := hvc
    have ho := onB_iff.1 ho
    have hx : VLs rho0 [.ints .u8 32 f, rpT x y] xs := zd6 rfl hargs
    have his := rmN_is f ⟨x, y, ho⟩ 256
    have hpl := ext_places his
    have e1 : rmx f x y = fmul (rmN f x y 256).x (finv (rmN f x y 256).z) := by
      rw [rmx_pt f ⟨x, y, ho⟩, zc4, zr3, hpl.1, zk6]
    have e2 : rmy f x y = fmul (rmN f x y 256).y (finv (rmN f x y 256).z) := by
      rw [rmy_pt f ⟨x, y, ho⟩, zc4, zr3, hpl.2, zk6]
    have e : rpT (rmx f x y) (rmy f x y) = rpT (fmul (rmN f x y 256).x (finv (rmN f x y 256).z)) (fmul (rmN f x y 256).y (finv (rmN f x y 256).z)) := by rw [e1, e2]
    refine ⟨za1 (fun args => open Classical in if args = [.ints .u8 32 f, rpT x y] then some (true, rpT (fmul (rmN f x y 256).x (finv (rmN f x y 256).z)) (fmul (rmN f x y 256).y (finv (rmN f x y 256).z))) else none), ?_, _, hx,
      ⟨true, rpT (fmul (rmN f x y 256).x (finv (rmN f x y 256).z)) (fmul (rmN f x y 256).y (finv (rmN f x y 256).z)), [], 0, 0⟩, by simp [za1], rfl, fun ρ' w hw => ?_⟩
    · refine SoundM.of_tr0 (fn := Tryz.f31) (c := rmC) (by kernel_rfl) (by kernel_rfl) (by kernel_rfl) ?_
      intro args vc v hm hvc
      split at hm
      · rename_i e
        cases hm
        subst e
        exact ⟨rfl, rfl, .ret, _, [rpT (fmul (rmN f x y 256).x (finv (rmN f x y 256).z)) (fmul (rmN f x y 256).y (finv (rmN f x y 256).z))], 4, .inl rfl, rm_tr hf x y, by kernel_rfl, rfl⟩
      · cases hm
    · rw [e]
      exact (zc5 (t := rpT _ _) rfl ρ' ρ).2.1 _ hw
  · cases hm
noncomputable def envTi : Env := ((env0.set 32 (za1 rBaseM)).set 31 (za1 rMulM)).set 45 (za1 rBytesM)
theorem envTi_ok : EnvOK Tryz.prog envTi := (((za0 _).set rBase_ok).set rMul_ok).set rBytes_ok
theorem ti_mv (f : Nat → Int) : mv (evFn Tryz.prog envTi 1000000 Tryz.f19) [.ints .u8 32 f] = some (((za4 32 f && onB pB.x pB.y) && true) && true, .ints .u8 32 (encC (rmx f pB.x pB.y) (rmy f pB.x pB.y))) := by kernel_rfl
noncomputable def timesP : zb1
  | [.ints .u8 32 f] => some (za4 32 f, .ints .u8 32 (encP (pMul f pB)))
  | _ => none
theorem onB_pt (p : Pt) : onB p.x p.y = true := onB_iff.2 p.on
theorem Times_ok : SoundM Tryz.prog 19 (za1 timesP) := by
  refine (SoundM.of_ev envTi_ok mix (n := 1000000) (fn := Tryz.f19) (by kernel_rfl) (by kernel_rfl) (by kernel_rfl)).pure ?_
  intro args vc v h hvc
  unfold timesP at h
  split at h
  · rename_i f
    cases h
    obtain ⟨r, h3, h4, h5⟩ := za8 (ti_mv f)
    exact ⟨rfl, rfl, r, h3, by rw [h4, hvc, onB_pt]; rfl, by rw [h5, rmx_pt, rmy_pt, encC_pt]⟩
  · cases h
noncomputable def envRp : Env := (env0.set 18 (lift 0 rSecV)).set 19 (za1 timesP)
theorem envRp_ok : EnvOK Tryz.prog envRp := ((za0 _).set (RSec_ok.lift 0)).set Times_ok
theorem rp_mv (f : Nat → Int) : mv (evFn Tryz.prog envRp 1000000 Tryz.f8) [.ints .u8 32 f] = some ((za4 32 (secS f) && true) && (((za4 32 f && true) && true) && true), .ints .u8 32 (encP (pMul (secS f) pB))) := by kernel_rfl
noncomputable def rPublicP : zb1
  | [.ints .u8 32 f] => some (za4 32 f, .ints .u8 32 (pubF f))
  | _ => none
theorem RPublic_ok : SoundM Tryz.prog 8 (za1 rPublicP) := by
  refine (SoundM.of_ev envRp_ok mix (n := 1000000) (fn := Tryz.f8) (by kernel_rfl) (by kernel_rfl) (by kernel_rfl)).pure ?_
  intro args vc v h hvc
  unfold rPublicP at h
  split at h
  · rename_i f
    cases h
    obtain ⟨r, h3, h4, h5⟩ := za8 (rp_mv f)
    exact ⟨rfl, rfl, r, h3, by rw [h4, zi8, hvc]; rfl, by rw [h5, zn7, pubQ_eq]⟩
  · cases h
noncomputable def envRg : Env := (envRp.set 20 (lift 0 rDigV)).set 21 (za1 MulAddP)
theorem envRg_ok : EnvOK Tryz.prog envRg := (envRp_ok.set (RDig_ok.lift 0)).set MulAdd2_ok
section
variable (f : Nat → Int) (n : Nat) (A : Nat → Int)
noncomputable def rgR : Nat → Int := diO2 32 n (secX f) A
noncomputable def rgT : Nat → Int := encP (pMul (rgR f n A) pB)
noncomputable def rgP : Nat → Int := encP (pMul (secS f) pB)
noncomputable def rgK0 (p q : Nat → Int) : Nat → Int := diO3 32 32 n (fun j => p (0 + j)) (fun j => q (0 + j)) A
noncomputable def rgK : Nat → Int := rgK0 n A (rgT f n A) (rgP f)
noncomputable def rgE : Nat → Int := maF (rgK f n A) (secS f) (rgR f n A)
def iF (a b : Nat → Int) : Nat → (Nat → Int)
  | 0 => fun _ => 0
  | i + 1 => upd (upd (iF a b i) i (a i)) (32 + i) (b i)
noncomputable def rgH1 : Bool := holds (32 + n ≤ 1099511627776 ∧ digs 256 32 (secX f) ∧ digs 256 n A)
noncomputable def rgH2 (p q : Nat → Int) : Bool := holds (32 + 32 + n ≤ 1099511627776 ∧ digs 256 32 (fun j => p (0 + j)) ∧ digs 256 32 (fun j => q (0 + j)) ∧ digs 256 n A)
noncomputable def rgW : Bool := ((za4 32 (rgK f n A) && (za4 32 (secS f) && za4 32 (rgR f n A))) && true) && ((((rgH2 n A (rgT f n A) (rgP f) && true) && true) && true) && ((za4 32 (secS f) && true) && ((za4 32 (rgR f n A) && true) && ((((rgH1 f n A && true) && true) && true) && (((za4 32 f && true) && true) && true)))))
end
noncomputable def rgC : Code := bodyC Tryz.f9
noncomputable def rgN (k : Nat) : Code := cL (postC k rgC)
noncomputable def rgL : Code := rgN 8
noncomputable def rgB : Code := cB (cB (cR rgL))
def rgG (x0 x1 x2 x3 a x5 x6 b S : Nat → Int) : Heap := [some (.ints .u8 32 x0), some (.ints .u8 64 x1), some (.ints .u8 32 x2), some (.ints .u8 32 x3), some (.ints .u8 32 a), some (.ints .u8 32 x5), some (.ints .u8 32 x6), some (.ints .u8 32 b), some (.ints .u8 64 S)]
def rgT0 : List (Nat × T) := [(4, .ptr 1 []), (8, .ptr 4 []), (11, .ptr 7 []), (12, .ptr 8 [])]
def rgTi (i : Int) : List (Nat × T) := rgT0 ++ [(13, .num i)]
def rgZ : Nat → Int := fun _ => 0
section
variable (f : Nat → Int) (n : Nat) (A : Nat → Int)
noncomputable def rgG0 : Heap := rgG f rgZ (secS f) (rgR f n A) (rgT f n A) (rgP f) (rgK f n A) (rgE f n A) rgZ
end
theorem rg_8 (x0 x1 x2 x3 a x5 x6 b S : Nat → Int) : Tr Tryz.prog 0 (cL rgL) (stW 0 0 (tmk (rgT0) 0 51) (rgG x0 x1 x2 x3 a x5 x6 b S)) (.normal) (stW 0 0 (tmk (rgTi 0) 0 51) (rgG x0 x1 x2 x3 a x5 x6 b S)) :=
  Tr.evW (n := ⟨1000000, []⟩) (N := 9) (keep := za2 [4, 8, 11, 12, 13]) (nm := za2 [13]) (vc := true) envRg_ok mix (by kernel_rfl) rfl rfl rfl (rfl)
noncomputable def rg_9V (x0 x1 x2 x3 a x5 x6 b S : Nat → Int) (i : Int) : Bool := (decide (-9223372036854775808 ≤ i + 1 ∧ i + 1 ≤ 9223372036854775807) && true && (decide (-9223372036854775808 ≤ 32 + i ∧ 32 + i ≤ 9223372036854775807) && (decide (0 ≤ i ∧ i < (↑32 : Int)) && (decide (i.toNat < 32) && true && (decide (0 ≤ 32 + i ∧ 32 + i < (↑64 : Int)) && (decide ((32 + i).toNat < 64) && true && true)))) && (decide (0 ≤ i ∧ i < (↑32 : Int)) && (decide (i.toNat < 32) && true && (decide (0 ≤ i ∧ i < (↑64 : Int)) && (decide (i.toNat < 64) && true && true))) && (decide (i < 32) == true && true && true))))
theorem rg_9 (x0 x1 x2 x3 a x5 x6 b S : Nat → Int) (i : Int) (hv : rg_9V x0 x1 x2 x3 a x5 x6 b S i = true) : Tr Tryz.prog 0 (rgB) (stW 0 0 (tmk (rgTi i) 0 51) (rgG x0 x1 x2 x3 a x5 x6 b S)) (.normal) (stW 0 0 (tmk (rgTi (i + 1)) 0 51) (rgG x0 x1 x2 x3 a x5 x6 b (upd (upd S i.toNat (a i.toNat)) (32 + i).toNat (b i.toNat)))) :=
  Tr.evW (n := ⟨1000000, [(36, true)]⟩) (N := 9) (keep := za2 [4, 8, 11, 12, 13]) (nm := za2 [13]) (vc := rg_9V x0 x1 x2 x3 a x5 x6 b S i) envRg_ok mix (by kernel_rfl) hv rfl rfl (rfl)
noncomputable def rg_9xV (x0 x1 x2 x3 a x5 x6 b S : Nat → Int) (i : Int) : Bool := (decide (i < 32) == false && true && true)
theorem rg_9x (x0 x1 x2 x3 a x5 x6 b S : Nat → Int) (i : Int) (hv : rg_9xV x0 x1 x2 x3 a x5 x6 b S i = true) : Tr Tryz.prog 0 (rgB) (stW 0 0 (tmk (rgTi i) 0 51) (rgG x0 x1 x2 x3 a x5 x6 b S)) (.exit 0) (stW 0 0 (tmk (rgT0) 0 51) (rgG x0 x1 x2 x3 a x5 x6 b S)) :=
  Tr.evW (n := ⟨1000000, [(36, false)]⟩) (N := 9) (keep := za2 [4, 8, 11, 12]) (nm := za2 []) (vc := rg_9xV x0 x1 x2 x3 a x5 x6 b S i) envRg_ok mix (by kernel_rfl) hv rfl rfl (rfl)
theorem rg_13 (x0 x1 x2 x3 a x5 x6 b S : Nat → Int) : Tr Tryz.prog 0 (postC 9 rgC) (stW 0 0 (tmk (rgT0) 0 51) (rgG x0 x1 x2 x3 a x5 x6 b S)) (.ret) (stW 0 0 (tmk ([(4, .ptr 1 [])]) 0 51) (rgG x0 S x2 x3 a x5 x6 b S)) :=
  Tr.evW (n := ⟨1000000, []⟩) (N := 9) (keep := za2 [4]) (nm := za2 []) (vc := true) envRg_ok mix (by kernel_rfl) rfl rfl rfl (rfl)
theorem rgL_eq : rgL = .seq (cL rgL) (.block 0 (.loop rgB)) := by kernel_rfl
theorem rg8_eq : postC 8 rgC = .seq rgL (postC 9 rgC) := by kernel_rfl
theorem iF_lo {a b : Nat → Int} {j : Nat} : ∀ {i : Nat}, i ≤ 32 → j < i → iF a b i j = a j
  | i + 1, h, hj => by
    unfold iF
    rw [zd3 (by omega)]
    by_cases e : j = i
    · subst e; rw [zb9]
    · rw [zd3 e]; exact iF_lo (by omega) (by omega)
theorem iF_hi {a b : Nat → Int} {j : Nat} : ∀ {i : Nat}, i ≤ 32 → j < i → iF a b i (32 + j) = b j
  | i + 1, h, hj => by
    unfold iF
    by_cases e : j = i
    · subst e; rw [zb9]
    · rw [zd3 (by omega), zd3 (by omega)]; exact iF_hi (by omega) (by omega)
theorem rg_0 (f : Nat → Int) (n : Nat) (A : Nat → Int) (cp : Option Nat) : (za3 Tryz.prog envRg ⟨1000000, []⟩ (preC 8 rgC) (stW 0 0 (tmk [(0, .ints .u8 32 f), (1, .fsi .u8 n A cp)] 0 51) [])).map (cutPW 0 0 (za2 [4, 8, 11, 12]) 0) = some (.normal, rgW f n A, tmk rgT0 0 51, rgG0 f n A, true) := by kernel_rfl
theorem digs_sh {n : Nat} {f : Nat → Int} (h : digs 256 n f) : digs 256 n (fun j => f (0 + j)) := fun j hj => by
  show 0 ≤ f (0 + j) ∧ f (0 + j) < _
  rw [Nat.zero_add]; exact h j hj
theorem secX_bd (f : Nat → Int) (j : Nat) : 0 ≤ secX f j ∧ secX f j < 256 := by
  rw [secX_eq, secD_eq]
  exact shaH_bd _ _ _
theorem rgW_ok {f : Nat → Int} {n : Nat} {A : Nat → Int} (hn : n ≤ 1000000000000) (hf : digs 256 32 f) (hA : digs 256 n A) : rgW f n A = true := by
  have b1 : za4 32 (rgK f n A) = true := zg8 _
  have b2 : za4 32 (rgR f n A) = true := zg8 _
  have h1 : rgH1 f n A = true := holds_of ⟨by omega, fun j _ => secX_bd f j, hA⟩
  have h2 : rgH2 n A (rgT f n A) (rgP f) = true := holds_of ⟨by omega, digs_sh fun j _ => encP_bd _ _, digs_sh fun j _ => encP_bd _ _, hA⟩
  unfold rgW
  rw [b1, b2, h1, h2, zi8, show za4 32 f = true from zd5 hf]; rfl
theorem rg_run {f : Nat → Int} {n : Nat} {A : Nat → Int} {cp : Option Nat} (hn : n ≤ 1000000000000) (hf : digs 256 32 f) (hA : digs 256 n A) :
    Tr Tryz.prog 0 rgC (stW 0 0 (tmk [(0, .ints .u8 32 f), (1, .fsi .u8 n A cp)] 0 51) []) .ret (stW 0 0 (tmk [(4, .ptr 1 [])] 0 51) (rgG f (iF (rgT f n A) (rgE f n A) 32) (secS f) (rgR f n A) (rgT f n A) (rgP f) (rgK f n A) (rgE f n A) (iF (rgT f n A) (rgE f n A) 32))) := by
  refine Tr.preW envRg_ok mix 0 8 (za2 [4, 8, 11, 12]) 0 (rg_0 f n A cp) (rgW_ok hn hf hA) rfl ?_
  rw [rg8_eq, rgL_eq]
  unfold rgG0
  generalize rgT f n A = a
  generalize rgE f n A = b
  generalize rgR f n A = x3
  generalize rgP f = x5
  generalize rgK f n A = x6
  generalize secS f = x2
  refine Tr.seq (Tr.seq (rg_8 f rgZ x2 x3 a x5 x6 b rgZ) (Tr.iter (n := 32) (S := fun i => stW 0 0 (tmk (rgTi (i : Nat)) 0 51) (rgG f rgZ x2 x3 a x5 x6 b (iF a b i))) (fun i hi => ?_) (rg_9x f rgZ x2 x3 a x5 x6 b _ 32 (by unfold rg_9xV; rfl)))) (rg_13 f rgZ x2 x3 a x5 x6 b _)
  have h := rg_9 f rgZ x2 x3 a x5 x6 b (iF a b i) i (by
    unfold rg_9V
    simp only [Bool.and_true, Bool.and_eq_true, decide_eq_true_eq, beq_iff_eq]
    omega)
  rw [Int.toNat_natCast, show (32 + (i : Int)).toNat = 32 + i by omega] at h
  exact h
noncomputable def rSignV0 : zc0
  | [.ints .u8 32 f, .fsi .u8 n A _] => some ⟨holds (n ≤ 1000000000000 ∧ digs 256 32 f ∧ digs 256 n A), .ints .u8 64 (iF (rgT f n A) (rgE f n A) 32), rgG f (iF (rgT f n A) (rgE f n A) 32) (secS f) (rgR f n A) (rgT f n A) (rgP f) (rgK f n A) (rgE f n A) (iF (rgT f n A) (rgE f n A) 32), true⟩
  | _ => none
theorem rg_res (x0 x1 x2 x3 a x5 x6 b S : Nat → Int) : zb3 Tryz.prog (stW 0 0 (tmk [(4, .ptr 1 [])] 0 51) (rgG x0 x1 x2 x3 a x5 x6 b S)) Tryz.f9.results.toList = some (true, [.ints .u8 64 x1], 2) := by kernel_rfl
theorem RSign0_ok : SoundV Tryz.prog 9 rSignV0 := by
  refine SoundV.of_tr (fn := Tryz.f9) (c := rgC) (by kernel_rfl) (by kernel_rfl) (by kernel_rfl) ?_
  intro args r hm hvc
  unfold rSignV0 at hm
  split at hm
  · rename_i f n A cp
    cases hm
    obtain ⟨h1, h2, h3⟩ := of_holds hvc
    exact ⟨.ret, _, _, _, .inl rfl, rg_run h1 h2 h3, rg_res _ _ _ _ _ _ _ _ _, rfl, rfl, fun _ => rfl⟩
  · cases hm
theorem rg_fz (f : Nat → Int) (n : Nat) (A : Nat → Int) (cp : Option Nat) : frz 0 rSignV0 [.ints .u8 32 f, .fsi .u8 n A cp] = some ⟨holds (n ≤ 1000000000000 ∧ digs 256 32 f ∧ digs 256 n A) && true, .ints .u8 64 (iF (rgT f n A) (rgE f n A) 32), [], true⟩ := by kernel_rfl
theorem rgR_eq (f : Nat → Int) (n : Nat) (A : Nat → Int) : rgR f n A = sgR1 f n A := by
  unfold rgR sgR1 diO2
  rw [ze5]
theorem sh_fun (f : Nat → Int) : (fun j => f (0 + j)) = f := by
  funext j
  rw [Nat.zero_add]
theorem rgT_eq (f : Nat → Int) (n : Nat) (A : Nat → Int) : rgT f n A = sgPt1 f n A := by
  unfold rgT sgPt1
  rw [rgR_eq]
theorem rgK0_eq (n : Nat) (A p q : Nat → Int) : rgK0 n A p q = sgK0 n A p q := by
  unfold rgK0 sgK0 diO3
  rw [sh_fun, sh_fun, ze5, ze5, ze5]
theorem rgK_eq (f : Nat → Int) (n : Nat) (A : Nat → Int) : rgK f n A = sgK1 f n A := by
  unfold rgK sgK1
  rw [rgK0_eq, rgT_eq]; rfl
theorem rgE_eq (f : Nat → Int) (n : Nat) (A : Nat → Int) : rgE f n A = maF (sgK1 f n A) (secS f) (sgR1 f n A) := by
  unfold rgE
  rw [rgK_eq, rgR_eq]
theorem rg_sig (f : Nat → Int) (n : Nat) (A : Nat → Int) {j : Nat} (hj : j < 64) : iF (rgT f n A) (rgE f n A) 32 j = sigF f n A j := by
  rcases Nat.lt_or_ge j 32 with h | h
  · rw [iF_lo (Nat.le_refl _) h, sig_lo f n A h, rgT_eq]
  · rw [show j = 32 + (j - 32) by omega, iF_hi (Nat.le_refl _) (by omega), sig_hi f n A (by omega), rgE_eq]
noncomputable def rSignV : zc0
  | [.ints .u8 32 f, .fsi .u8 n A _] => some ⟨holds (n ≤ 1000000000000 ∧ digs 256 32 f ∧ digs 256 n A), .ints .u8 64 (sigF f n A), [], true⟩
  | _ => none
theorem RSign_ok : SoundV Tryz.prog 9 rSignV := by
  refine SoundV.refine fun args r hr hvc ρ xs hρ hargs => ?_
  unfold rSignV at hr
  split at hr
  · rename_i f n A cp
    cases hr
    have hvc : holds (n ≤ 1000000000000 ∧ digs 256 32 f ∧ digs 256 n A) = true := hvc
    exact ⟨frz 0 rSignV0, RSign0_ok.frz 0, _, hargs, _, rg_fz f n A cp, by rw [hvc]; rfl, rfl, fun _ => rfl, fun ρ' x hx => zk2 (fun j hj => rg_sig f n A hj) _ _ hx⟩
  · cases hr
noncomputable def envRv : Env := ((((((env0.set 20 (lift 0 rDigV)).set 28 (za1 rDecodeM)).set 29 (za1 RFineP)).set 32 (za1 rBaseM)).set 31 (za1 rMulM)).set 30 (za1 (rp2M fun x y x' y' => some (true, rpT (hsx x y x' y') (hsy x y x' y')))))
theorem zn1 : EnvOK Tryz.prog envRv := (((((((za0 _).set (RDig_ok.lift 0)).set rDecode_ok).set RFine_ok).set rBase_ok).set rMul_ok).set rAdd_ok)
noncomputable def vfC : Code := bodyC Tryz.f11
noncomputable def vfL : Code := cL (postC 3 vfC)
noncomputable def vfB : Code := cB (cB (cR vfL))
def vfT (n : Nat) (A : Nat → Int) (cp : Option Nat) : List (Nat × T) := [(2, .fsi .u8 n A cp), (3, .ptr 0 []), (4, .ptr 1 []), (7, .ptr 2 []), (8, .ptr 3 [])]
def vfTi (n : Nat) (A : Nat → Int) (cp : Option Nat) (i : Int) : List (Nat × T) := vfT n A cp ++ [(9, .num i)]
def vfG (p g a e : Nat → Int) : Heap := [some (.ints .u8 32 p), some (.ints .u8 64 g), some (.ints .u8 32 a), some (.ints .u8 32 e)]
def vfZ : Nat → Int := fun _ => 0
def caF (g : Nat → Int) (o : Nat) : Nat → (Nat → Int)
  | 0 => fun _ => 0
  | k + 1 => upd (caF g o k) k (g (o + k))
theorem vf_0 (p g a e : Nat → Int) (n : Nat) (A : Nat → Int) (cp : Option Nat) : (za3 Tryz.prog envRv ⟨1000000, []⟩ (preC 3 (vfC)) (stW 0 0 (tmk ([(0, .ints .u8 32 p), (1, .ints .u8 64 g), (2, .fsi .u8 n A cp)]) 0 70) ([]))).map (cutPW 0 0 (za2 [2, 3, 4, 7, 8]) (za2 [])) =
    some (.normal, true, (tmk (vfT n A cp) 0 70), vfG p g vfZ vfZ, true) := by kernel_rfl
theorem vf_3 (p g a e : Nat → Int) (n : Nat) (A : Nat → Int) (cp : Option Nat) : Tr Tryz.prog 0 (cL vfL) (stW 0 0 (tmk (vfT n A cp) 0 70) (vfG p g a e)) (.normal) (stW 0 0 (tmk (vfTi n A cp 0) 0 70) (vfG p g a e)) :=
  Tr.evW (n := ⟨1000000, []⟩) (N := 4) (keep := za2 [2, 3, 4, 7, 8, 9]) (nm := za2 [9]) (vc := true) zn1 mix (by kernel_rfl) rfl rfl rfl (rfl)
noncomputable def vf_4V (p g a e : Nat → Int) (n : Nat) (A : Nat → Int) (cp : Option Nat) (i : Int) : Bool := (decide (-9223372036854775808 ≤ i + 1 ∧ i + 1 ≤ 9223372036854775807) && true && (decide (-9223372036854775808 ≤ 32 + i ∧ 32 + i ≤ 9223372036854775807) && (decide (0 ≤ 32 + i ∧ 32 + i < (↑64 : Int)) && (decide ((32 + i).toNat < 64) && true && (decide (0 ≤ i ∧ i < (↑32 : Int)) && (decide (i.toNat < 32) && true && true)))) && (decide (0 ≤ i ∧ i < (↑64 : Int)) && (decide (i.toNat < 64) && true && (decide (0 ≤ i ∧ i < (↑32 : Int)) && (decide (i.toNat < 32) && true && true))) && (decide (i < 32) == true && true && true))))
theorem vf_4 (p g a e : Nat → Int) (n : Nat) (A : Nat → Int) (cp : Option Nat) (i : Int) (hv : vf_4V p g a e n A cp i = true) : Tr Tryz.prog 0 (vfB) (stW 0 0 (tmk (vfTi n A cp i) 0 70) (vfG p g a e)) (.normal) (stW 0 0 (tmk (vfTi n A cp (i + 1)) 0 70) (vfG p g (upd a i.toNat (g i.toNat)) (upd e i.toNat (g (32 + i).toNat)))) :=
  Tr.evW (n := ⟨1000000, [(20, true)]⟩) (N := 4) (keep := za2 [2, 3, 4, 7, 8, 9]) (nm := za2 [9]) (vc := vf_4V p g a e n A cp i) zn1 mix (by kernel_rfl) hv rfl rfl (rfl)
noncomputable def vf_4xV (p g a e : Nat → Int) (n : Nat) (A : Nat → Int) (cp : Option Nat) (i : Int) : Bool := (decide (i < 32) == false && true && true)
theorem vf_4x (p g a e : Nat → Int) (n : Nat) (A : Nat → Int) (cp : Option Nat) (i : Int) (hv : vf_4xV p g a e n A cp i = true) : Tr Tryz.prog 0 (vfB) (stW 0 0 (tmk (vfTi n A cp i) 0 70) (vfG p g a e)) (.exit 0) (stW 0 0 (tmk (vfT n A cp) 0 70) (vfG p g a e)) :=
  Tr.evW (n := ⟨1000000, [(20, false)]⟩) (N := 4) (keep := za2 [2, 3, 4, 7, 8]) (nm := za2 []) (vc := vf_4xV p g a e n A cp i) zn1 mix (by kernel_rfl) hv rfl rfl (rfl)
theorem vfL_eq : vfL = .seq (cL vfL) (.block 0 (.loop vfB)) := by kernel_rfl
theorem vf3_eq : postC 3 vfC = .seq vfL (postC 4 vfC) := by kernel_rfl
section
variable (p g a e : Nat → Int) (n : Nat) (A : Nat → Int) (cp : Option Nat)
noncomputable def vfH0 : Heap := [some (.ints .u8 32 p), some (.ints .u8 64 g), some (.ints .u8 32 a), some (.ints .u8 32 e), some (rpT (decP a).x (decP a).y), some (rpT (decP p).x (decP p).y)]
noncomputable def vfK : Nat → Int := rgK0 n A a p
noncomputable def vfX : F := hsx (decP a).x (decP a).y (rmx (vfK p a n A) (decP p).x (decP p).y) (rmy (vfK p a n A) (decP p).x (decP p).y)
noncomputable def vfY : F := hsy (decP a).x (decP a).y (rmx (vfK p a n A) (decP p).x (decP p).y) (rmy (vfK p a n A) (decP p).x (decP p).y)
noncomputable def vfH1 : Heap := vfH0 p g a e ++ [some (.ints .u8 32 (vfK p a n A)), some (rpT (vfX p a n A) (vfY p a n A))]
noncomputable def vfE : Bool := eqD (rmx e pB.x pB.y) (vfX p a n A) && (eqD (rmy e pB.x pB.y) (vfY p a n A) && true)
noncomputable def vfW0 : Bool := (za4 32 p && true) && ((za4 32 a && true) && true)
noncomputable def vfWA : Bool := (((!decB a) == true) && true) && vfW0 p a
noncomputable def vfWB : Bool := (((!decB a) == false) && ((((!decB p) == true) || false) && true)) && vfW0 p a
noncomputable def vfWC (b : Bool) : Bool := (((!decB a) == false) && ((((!decB p) == false) || false) && ((((!bwH e ordL) == b) || false) && true))) && vfW0 p a
noncomputable def vfWD : Bool := ((za4 32 e && onB pB.x pB.y) && true) && (((za4 32 (vfK p a n A) && onB (decP p).x (decP p).y) && true) && ((((rgH2 n A a p && true) && true) && true) && vfWC p a e false))
def vfR (b : Bool) : List T := tmk [(6, .bool b)] 0 70
theorem vf_A : (za3 Tryz.prog envRv ⟨1000000, [(47, true)]⟩ (postC 4 vfC) (stW 0 0 (tmk (vfT n A cp) 0 70) (vfG p g a e))).map (cutW 0 0 6 (za2 [6]) 0) = some (.ret, vfWA p a, vfR false, vfH0 p g a e, true) := by kernel_rfl
theorem vf_B : (za3 Tryz.prog envRv ⟨1000000, [(47, false), (50, true)]⟩ (postC 4 vfC) (stW 0 0 (tmk (vfT n A cp) 0 70) (vfG p g a e))).map (cutW 0 0 6 (za2 [6]) 0) = some (.ret, vfWB p a, vfR false, vfH0 p g a e, true) := by kernel_rfl
theorem vf_C : (za3 Tryz.prog envRv ⟨1000000, [(47, false), (50, false), (54, true)]⟩ (postC 4 vfC) (stW 0 0 (tmk (vfT n A cp) 0 70) (vfG p g a e))).map (cutW 0 0 6 (za2 [6]) 0) = some (.ret, vfWC p a e true, vfR false, vfH0 p g a e, true) := by kernel_rfl
theorem vf_D : (za3 Tryz.prog envRv ⟨1000000, [(47, false), (50, false), (54, false)]⟩ (postC 4 vfC) (stW 0 0 (tmk (vfT n A cp) 0 70) (vfG p g a e))).map (cutW 0 0 8 (za2 [6]) 0) = some (.ret, vfWD p a e n A, vfR (vfE p a e n A), vfH1 p g a e n A, true) := by kernel_rfl
end
theorem caF_lt {g : Nat → Int} {o j : Nat} : ∀ {k : Nat}, j < k → caF g o k j = g (o + j)
  | k + 1, h => by
    unfold caF
    by_cases e : j = k
    · subst e; rw [zb9]
    · rw [zd3 e]; exact caF_lt (k := k) (by omega)
theorem eqPt {p q : Pt} : (eqD p.x q.x && (eqD p.y q.y && true)) = true ↔ p = q := by
  rw [Bool.and_true, Bool.and_eq_true, eqD_iff, eqD_iff]
  exact ⟨fun h => Pt.ext' h.1 h.2, fun h => by subst h; exact ⟨rfl, rfl⟩⟩
theorem pt_move {E R Q : Pt} {k : Nat} : E.add (Q.neg.smul k) = R ↔ E = R.add (Q.smul k) := by
  constructor
  · intro h
    rw [← h, Pt.add_assoc, Pt.add_comm _ (Q.smul k), neg_smul, Pt.add_zero]
  · intro h
    rw [h, Pt.add_assoc, neg_smul, Pt.add_zero]
section
variable {p g : Nat → Int} {n : Nat} {A : Nat → Int}
theorem va_T {j : Nat} (hj : j < 32) : caF g 0 32 j = veT g j := by rw [caF_lt hj]; rfl
theorem va_E {j : Nat} (hj : j < 32) : caF g 32 32 j = veE g j := by rw [caF_lt hj]; rfl
theorem va_K : vfK p (caF g 0 32) n A = veK p g n A := by
  have e : veK p (caF g 0 32) n A = veK p g n A := veK_congr (fun _ _ => rfl) (fun j hj => by
    show caF g 0 32 (0 + j) = _
    rw [Nat.zero_add, va_T hj]) (fun _ _ => rfl)
  rw [← e]
  unfold vfK veK
  rw [rgK0_eq, show veT (caF g 0 32) = caF g 0 32 from sh_fun _]
theorem va_bytes (hg : digs 256 64 g) : za4 32 (caF g 0 32) = true ∧ za4 32 (caF g 32 32) = true :=
  ⟨zd5 fun i hi => by rw [caF_lt hi]; exact hg _ (by omega), zd5 fun i hi => by rw [caF_lt hi]; exact hg _ (by omega)⟩
theorem va_S (hg : digs 256 64 g) : vfE p (caF g 0 32) (caF g 32 32) n A = veS p g n A := by
  rw [Bool.eq_iff_iff]
  unfold vfE vfX vfY
  rw [va_K, rmx_pt, rmy_pt, rmx_pt, rmy_pt, hsx_eq, hsy_eq]
  show (eqD (pMul (caF g 32 32) pB).x ((decP (caF g 0 32)).add (pMul (veK p g n A) (decP p))).x && (eqD (pMul (caF g 32 32) pB).y ((decP (caF g 0 32)).add (pMul (veK p g n A) (decP p))).y && true)) = true ↔ _
  rw [eqPt]
  unfold veS
  rw [pSame_iff, pBoth_eq, pNeg_eq, zk6, zk6, pt_move, decP_congr (fun j hj => va_T hj), hi_congr (va_bytes hg).2 (fun j hj => va_E hj)]
end
theorem vf_loop (p g : Nat → Int) (n : Nat) (A : Nat → Int) (cp : Option Nat) : Tr Tryz.prog 0 vfL (stW 0 0 (tmk (vfT n A cp) 0 70) (vfG p g vfZ vfZ)) .normal (stW 0 0 (tmk (vfT n A cp) 0 70) (vfG p g (caF g 0 32) (caF g 32 32))) := by
  rw [vfL_eq]
  refine Tr.seq (vf_3 p g vfZ vfZ n A cp) (Tr.iter (n := 32) (S := fun i => stW 0 0 (tmk (vfTi n A cp (i : Nat)) 0 70) (vfG p g (caF g 0 i) (caF g 32 i))) (fun i hi => ?_) (vf_4x p g _ _ n A cp 32 (by unfold vf_4xV; rfl)))
  have h := vf_4 p g (caF g 0 i) (caF g 32 i) n A cp i (by
    unfold vf_4V
    simp only [Bool.and_true, Bool.and_eq_true, decide_eq_true_eq, beq_iff_eq]
    omega)
  rw [Int.toNat_natCast, show (32 + (i : Int)).toNat = 32 + i by omega] at h
  have e : upd (caF g 0 i) i (g i) = caF g 0 (i + 1) := by
    show _ = upd (caF g 0 i) i (g (0 + i))
    rw [Nat.zero_add]
  rw [e] at h
  exact h
theorem vf_res (b : Bool) (G : Heap) : zb3 Tryz.prog (stW 0 0 (vfR b) G) Tryz.f11.results.toList = some (true, [.bool b], 0) := by kernel_rfl
def vfP (n : Nat) (p g A : Nat → Int) : Prop := n ≤ 1000000000000 ∧ digs 256 32 p ∧ digs 256 64 g ∧ digs 256 n A
theorem vf_run {p g : Nat → Int} {n : Nat} {A : Nat → Int} {cp : Option Nat} (h : vfP n p g A) :
    ∃ H, noFzH H = true ∧ Tr Tryz.prog 0 vfC (stW 0 0 (tmk [(0, .ints .u8 32 p), (1, .ints .u8 64 g), (2, .fsi .u8 n A cp)] 0 70) []) .ret (stW 0 0 (vfR (verB p g n A)) H) := by
  obtain ⟨hn, hp, hg, hA⟩ := h
  have hb := va_bytes hg
  have bp : za4 32 p = true := zd5 hp
  have cT : decB (caF g 0 32) = decB (veT g) := by rw [zs8, zs8, dOk_congr fun j hj => va_T hj]
  have cE : bwH (caF g 32 32) ordL = fineB (veE g) := by rw [rfine_eq hb.2, fineB_eq, fineB_eq, zc6 32 fun j hj => va_E hj]
  have run : ∀ {b : Bool} {H : Heap}, Tr Tryz.prog 0 (postC 4 vfC) (stW 0 0 (tmk (vfT n A cp) 0 70) (vfG p g (caF g 0 32) (caF g 32 32))) .ret (stW 0 0 (vfR b) H) → verB p g n A = b →
      Tr Tryz.prog 0 vfC (stW 0 0 (tmk [(0, .ints .u8 32 p), (1, .ints .u8 64 g), (2, .fsi .u8 n A cp)] 0 70) []) .ret (stW 0 0 (vfR (verB p g n A)) H) := fun h e => by
    refine Tr.preW zn1 mix 0 3 (za2 [2, 3, 4, 7, 8]) (za2 []) (vf_0 p g p g n A cp) rfl rfl ?_
    rw [vf3_eq, e]
    exact Tr.seq (vf_loop p g n A cp) h
  have hw : vfW0 p (caF g 0 32) = true := by unfold vfW0; rw [bp, hb.1]; rfl
  cases c1 : decB (veT g) with
  | false =>
    refine ⟨_, ?_, run (Tr.evW (n := ⟨1000000, [(47, true)]⟩) (N := 6) (keep := za2 [6]) (nm := 0) (vc := vfWA p (caF g 0 32)) zn1 mix (vf_A p g _ _ n A cp) (by unfold vfWA; rw [cT, c1, hw]; rfl) rfl rfl rfl) (by rw [zn4, c1]; rfl)⟩
    rfl
  | true =>
    cases c2 : decB p with
    | false =>
      refine ⟨_, ?_, run (Tr.evW (n := ⟨1000000, [(47, false), (50, true)]⟩) (N := 6) (keep := za2 [6]) (nm := 0) (vc := vfWB p (caF g 0 32)) zn1 mix (vf_B p g _ _ n A cp) (by unfold vfWB; rw [cT, c1, c2, hw]; rfl) rfl rfl rfl) (by rw [zn4, c1, c2]; rfl)⟩
      rfl
    | true =>
      cases c3 : fineB (veE g) with
      | false =>
        refine ⟨_, ?_, run (Tr.evW (n := ⟨1000000, [(47, false), (50, false), (54, true)]⟩) (N := 6) (keep := za2 [6]) (nm := 0) (vc := vfWC p (caF g 0 32) (caF g 32 32) true) zn1 mix (vf_C p g _ _ n A cp) (by unfold vfWC; rw [cT, cE, c1, c2, c3, hw]; rfl) rfl rfl rfl) (by rw [zn4, c1, c2, c3]; rfl)⟩
        rfl
      | true =>
        refine ⟨_, ?_, run (Tr.evW (n := ⟨1000000, [(47, false), (50, false), (54, false)]⟩) (N := 8) (keep := za2 [6]) (nm := 0) (vc := vfWD p (caF g 0 32) (caF g 32 32) n A) zn1 mix (vf_D p g _ _ n A cp) (by
          have hK : za4 32 (vfK p (caF g 0 32) n A) = true := zg8 _
          have h2 : rgH2 n A (caF g 0 32) p = true := holds_of ⟨by omega, digs_sh (za9 hb.1), digs_sh hp, hA⟩
          unfold vfWD vfWC
          rw [cT, cE, c1, c2, c3, hw, hK, h2, hb.2, onB_pt, onB_pt]; rfl) rfl rfl rfl) (by rw [zn4, c1, c2, c3, va_S hg]; rfl)⟩
        rfl
open Classical in
noncomputable def vfHc (n : Nat) (p g A : Nat → Int) (cp : Option Nat) : Heap := if h : vfP n p g A then Classical.choose (vf_run (cp := cp) h) else []
noncomputable def rVerV0 : zc0
  | [.ints .u8 32 p, .ints .u8 64 g, .fsi .u8 n A cp] => some ⟨holds (vfP n p g A), .bool (verB p g n A), vfHc n p g A cp, true⟩
  | _ => none
theorem RVerify0_ok : SoundV Tryz.prog 11 rVerV0 := by
  refine SoundV.of_tr (fn := Tryz.f11) (c := vfC) (by kernel_rfl) (by kernel_rfl) (by kernel_rfl) ?_
  intro args r hm hvc
  unfold rVerV0 at hm
  split at hm
  · rename_i p g n A cp
    cases hm
    have h : vfP n p g A := of_holds hvc
    have e : vfHc n p g A cp = Classical.choose (vf_run (cp := cp) h) := dif_pos h
    have hs := Classical.choose_spec (vf_run (cp := cp) h)
    rw [← e] at hs
    exact ⟨.ret, _, _, _, .inl rfl, hs.2, vf_res _ _, rfl, rfl, fun _ => by show (noFz (.bool _) && noFzH _) = true; rw [hs.1]; rfl⟩
  · cases hm
noncomputable def rVerV : zc0
  | [.ints .u8 32 p, .ints .u8 64 g, .fsi .u8 n A _] => some ⟨holds (vfP n p g A), .bool (verB p g n A), [], true⟩
  | _ => none
theorem rver_fz (n : Nat) (p g A : Nat → Int) (cp : Option Nat) : frz 0 rVerV0 [.ints .u8 32 p, .ints .u8 64 g, .fsi .u8 n A cp] = some ⟨holds (vfP n p g A) && true, .bool (verB p g n A), [], true⟩ := rfl
theorem RVerify_ok : SoundV Tryz.prog 11 rVerV := by
  refine SoundV.refine fun args r hr hvc ρ xs hρ hargs => ?_
  unfold rVerV at hr
  split at hr
  · rename_i p g n A cp
    cases hr
    have hvc : holds (vfP n p g A) = true := hvc
    exact ⟨frz 0 rVerV0, RVerify0_ok.frz 0, _, hargs, _, rver_fz n p g A cp, by rw [hvc]; rfl, rfl, fun _ => rfl, fun ρ' x hx => hx⟩
  · cases hr
noncomputable def envTl : Env := ((((((env0.set 5 (za1 awakeP)).set 7 (lift 0 signV)).set 10 (lift 0 verV)).set 6 (za1 PublicP)).set 8 (za1 rPublicP)).set 9 (lift 0 rSignV)).set 11 (lift 0 rVerV)
theorem zn0 : EnvOK Tryz.prog envTl := (((((((za0 _).set awake8_ok).set (Sign_ok.lift 0)).set (Verify_ok.lift 0)).set Public_ok).set RPublic_ok).set (RSign_ok.lift 0)).set (RVerify_ok.lift 0)
noncomputable def tuC : Code := bodyC Tryz.f4
noncomputable def tuN (k : Nat) : Code := cL (postC k tuC)
def tuI (f : Nat → Int) (n : Nat) (A : Nat → Int) (z b w : Int) : List (Nat × T) := [(0, .ints .u8 32 f), (1, .fsi .u8 n A none), (2, .num z), (3, .int .u8 b), (4, .int .u8 w)]
def tuA6 (m b w : Int) (n : Nat) : List (Nat × T) := [(2, .num m), (3, .int .u8 b), (4, .int .u8 w), (11, .bool true), (12, .ptr 1 []), (13, .ptr 3 []), (14, .slice 5 [] 0 1 n none)]
def tuB6 (b : Int) (n : Nat) : List (Nat × T) := [(3, .int .u8 b), (11, .bool true), (12, .ptr 1 []), (13, .ptr 3 []), (14, .slice 5 [] 0 1 n none)]
def tuB (b : Int) (x : T) : List (Nat × T) := [(3, .int .u8 b), (11, .bool true), (12, .ptr 1 []), (13, .ptr 2 []), (14, x)]
def tuX (n : Nat) (A : Nat → Int) : Option T := some (.rows 1 1 (fun j => bif Nat.beq j 0 then .fsi .u8 n A none else .nilslice))
def tuG6 (f p s : Nat → Int) (n : Nat) (A t : Nat → Int) : Heap := [some (.ints .u8 32 f), some (.ints .u8 32 p), tuX n A, some (.ints .u8 64 s), none, some (.ints .u8 n t)]
def tuG (f p s : Nat → Int) : Heap := [some (.ints .u8 32 f), some (.ints .u8 32 p), some (.ints .u8 64 s)]
noncomputable def tuV (p s : Nat → Int) (n : Nat) (t : Nat → Int) : Bool := verB p s (0 + n) (catF 0 (fun _ => 0) t)
noncomputable def tuU (n : Nat) (p s : Nat → Int) : Bool := ((za4 32 p && za4 64 s) && lenB (64 + (0 + n) : Nat)) && true
noncomputable def tu_aV (f p s A t : Nat → Int) (n : Nat) (m b w : Int) : Bool := (decide (0 ≤ m ∧ (0 : Int) < 64) && (decide (0 ≤ m ∧ (0 : Int) < 64) && (decide (0 ≤ m % 64 ∧ m % 64 < (↑64 : Int)) && (decide ((m % 64).toNat < 64) && true && (decide (0 ≤ m % 64 ∧ m % 64 < (↑64 : Int)) && (decide ((m % 64).toNat < 64) && true && true))))) && ((w.tmod 3 == 0) == true && true && true))
theorem tu_a (f p s A t : Nat → Int) (n : Nat) (m b w : Int) (hv : tu_aV f p s A t n m b w = true) : Tr Tryz.prog 0 (tuN 7) (stW 0 0 (tmk (tuA6 m b w n) 0 102) (tuG6 f p s n A t)) (.normal) (stW 0 0 (tmk (tuB6 b n) 0 102) (tuG6 f p (upd s (m % 64).toNat (bits .xor .u8 (s (m % 64).toNat) b)) n A t)) :=
  Tr.evW (n := ⟨1000000, [(43, true)]⟩) (N := 6) (keep := za2 [3, 11, 12, 13, 14]) (nm := za2 []) (vc := tu_aV f p s A t n m b w) zn0 mix (by kernel_rfl) hv rfl rfl (rfl)
noncomputable def tu_bV (f p s A t : Nat → Int) (n : Nat) (m b w : Int) : Bool := (decide (0 ≤ m ∧ (0 : Int) < 32) && (decide (0 ≤ m ∧ (0 : Int) < 32) && (decide (0 ≤ m % 32 ∧ m % 32 < (↑32 : Int)) && (decide ((m % 32).toNat < 32) && true && (decide (0 ≤ m % 32 ∧ m % 32 < (↑32 : Int)) && (decide ((m % 32).toNat < 32) && true && true))))) && ((w.tmod 3 == 1) == true && true && ((w.tmod 3 == 0) == false && true && true)))
theorem tu_b (f p s A t : Nat → Int) (n : Nat) (m b w : Int) (hv : tu_bV f p s A t n m b w = true) : Tr Tryz.prog 0 (tuN 7) (stW 0 0 (tmk (tuA6 m b w n) 0 102) (tuG6 f p s n A t)) (.normal) (stW 0 0 (tmk (tuB6 b n) 0 102) (tuG6 f (upd p (m % 32).toNat (bits .xor .u8 (p (m % 32).toNat) b)) s n A t)) :=
  Tr.evW (n := ⟨1000000, [(43, false), (54, true)]⟩) (N := 6) (keep := za2 [3, 11, 12, 13, 14]) (nm := za2 []) (vc := tu_bV f p s A t n m b w) zn0 mix (by kernel_rfl) hv rfl rfl (rfl)
noncomputable def tu_cV (f p s A t : Nat → Int) (n : Nat) (m b w : Int) : Bool := (decide (0 ≤ m ∧ 0 < (↑n : Int)) && (decide (0 ≤ m ∧ 0 < (↑n : Int)) && (decide (0 ≤ m % (↑n : Int) ∧ m % (↑n : Int) < (↑n : Int)) && (decide (0 + (m % (↑n : Int)).toNat < n) && true && (decide (0 ≤ m % (↑n : Int) ∧ m % (↑n : Int) < (↑n : Int)) && (decide (0 + (m % (↑n : Int)).toNat < n) && true && true))))) && ((w.tmod 3 == 2) == true && true && ((w.tmod 3 == 1) == false && true && ((w.tmod 3 == 0) == false && true && true))))
theorem tu_c (f p s A t : Nat → Int) (n : Nat) (m b w : Int) (hv : tu_cV f p s A t n m b w = true) : Tr Tryz.prog 0 (tuN 7) (stW 0 0 (tmk (tuA6 m b w n) 0 102) (tuG6 f p s n A t)) (.normal) (stW 0 0 (tmk (tuB6 b n) 0 102) (tuG6 f p s n A (upd t (0 + (m % (n : Int)).toNat) (bits .xor .u8 (t (0 + (m % (n : Int)).toNat)) b)))) :=
  Tr.evW (n := ⟨1000000, [(43, false), (54, false), (65, true)]⟩) (N := 6) (keep := za2 [3, 11, 12, 13, 14]) (nm := za2 []) (vc := tu_cV f p s A t n m b w) zn0 mix (by kernel_rfl) hv rfl rfl (rfl)
section
variable (f p s t : Nat → Int) (n : Nat) (b : Int)
noncomputable def tuW (c : Bool) : Bool := ((holds (vfP n p s t) && true) && (((tuV p s n t == verB p s n t) == true) && ((((!(b == 0)) == c) || false) && true))) && ((tuU n p s && true) && true)
def tuR (r : Bool) : List T := tmk [(10, .bool r)] 0 102
theorem tu_t (cp : Option Nat) : (za3 Tryz.prog envTl ⟨1000000, [(94, true), (97, true)]⟩ (postC 8 tuC) (stW 0 0 (tmk (tuB b (.fsi .u8 n t cp)) 0 102) (tuG f p s))).map (cutW 0 0 3 (za2 [10]) 0) = some (.ret, tuW p s t n b true, tuR true, tuG f p s, true) := by kernel_rfl
theorem tu_f (cp : Option Nat) : (za3 Tryz.prog envTl ⟨1000000, [(94, true), (97, false)]⟩ (postC 8 tuC) (stW 0 0 (tmk (tuB b (.fsi .u8 n t cp)) 0 102) (tuG f p s))).map (cutW 0 0 3 (za2 [10]) 0) = some (.ret, tuW p s t n b false, tuR (tuV p s n t), tuG f p s, true) := by kernel_rfl
end
theorem tu7_eq : postC 7 tuC = .seq (tuN 7) (postC 8 tuC) := by kernel_rfl
theorem tuV_eq (p s : Nat → Int) (n : Nat) (t : Nat → Int) : tuV p s n t = verB p s n t := by unfold tuV; rw [Nat.zero_add, zm3]
theorem tu_len {n : Nat} (h : n ≤ 1099511627776) : lenB (n : Int) = true := decide_eq_true (by omega)
theorem tuU_ok {n : Nat} {p s : Nat → Int} (hn : n ≤ 500) (hp : digs 256 32 p) (hs : digs 256 64 s) : tuU n p s = true := by
  unfold tuU
  rw [tu_len (by omega), show za4 32 p = true from zd5 hp, show za4 64 s = true from zd5 hs]; rfl
theorem tu_tail (f : Nat → Int) {p s t : Nat → Int} {n : Nat} {b : Int} (cp : Option Nat) (hn : n ≤ 500) (hp : digs 256 32 p) (hs : digs 256 64 s) (ht : digs 256 n t) (hb : b = 0 → verB p s n t = true) :
    Tr Tryz.prog 0 (postC 8 tuC) (stW 0 0 (tmk (tuB b (.fsi .u8 n t cp)) 0 102) (tuG f p s)) .ret (stW 0 0 (tuR true) (tuG f p s)) := by
  have hv : holds (vfP n p s t) = true := holds_of ⟨by omega, hp, hs, ht⟩
  have he : (tuV p s n t == verB p s n t) = true := by rw [tuV_eq]; simp
  by_cases h : b = 0
  · have h1 := Tr.evW (n := ⟨1000000, [(94, true), (97, false)]⟩) (N := 3) (keep := za2 [10]) (nm := 0) (vc := tuW p s t n b false) zn0 mix (tu_f f p s t n b cp) (by
      unfold tuW
      rw [hv, he, tuU_ok hn hp hs, h]; rfl) rfl rfl rfl
    rw [tuV_eq, hb h] at h1
    exact h1
  · exact Tr.evW (n := ⟨1000000, [(94, true), (97, true)]⟩) (N := 3) (keep := za2 [10]) (nm := 0) (vc := tuW p s t n b true) zn0 mix (tu_t f p s t n b cp) (by
      unfold tuW
      rw [hv, he, tuU_ok hn hp hs, show (b == 0) = false from beq_eq_false_iff_ne.mpr h]; rfl) rfl rfl rfl
theorem xor_bd {x b : Int} (hx : 0 ≤ x ∧ x < 256) (hb : 0 ≤ b ∧ b < 256) : 0 ≤ bits .xor .u8 x b ∧ bits .xor .u8 x b < 256 := by
  rw [u8_xor _ _ hx.1 hx.2 hb.1 hb.2]
  have : (x.toNat ^^^ b.toNat) < 2 ^ 8 := Nat.xor_lt_two_pow (by omega) (by omega)
  omega
theorem xor_0 {x : Int} (hx : 0 ≤ x ∧ x < 256) : bits .xor .u8 x 0 = x := by
  rw [u8_xor _ _ hx.1 hx.2 (by decide) (by decide)]
  show ((x.toNat ^^^ 0 : Nat) : Int) = x
  rw [Nat.xor_zero]; omega
def xf (s : Nat → Int) (i : Nat) (b : Int) : Nat → Int := upd s i (bits .xor .u8 (s i) b)
theorem xf_digs {s : Nat → Int} {i n : Nat} {b : Int} (hi : i < n) (hs : digs 256 n s) (hb : 0 ≤ b ∧ b < 256) : digs 256 n (xf s i b) := fun j hj => by
  unfold xf
  by_cases e : j = i
  · subst e; rw [zb9]; exact xor_bd (hs j hj) hb
  · rw [zd3 e]; exact hs j hj
theorem xf_0 {s : Nat → Int} {i n : Nat} (hi : i < n) (hs : digs 256 n s) : xf s i 0 = s := by
  funext j
  unfold xf
  by_cases e : j = i
  · subst e; rw [zb9]; exact xor_0 (hs j hi)
  · rw [zd3 e]
theorem tm_ok {m : Int} (k : Nat) (hk : 0 < k) : 0 ≤ m % (k : Int) ∧ m % (k : Int) < k := ⟨Int.emod_nonneg _ (by omega), Int.emod_lt_of_pos _ (by omega)⟩
theorem tu_switch (f A : Nat → Int) {p s t : Nat → Int} {n : Nat} {m b w : Int} (h0 : 0 < n) (hn : n ≤ 500) (hm : 0 ≤ m) (hb : 0 ≤ b ∧ b < 256) (hw : 0 ≤ w ∧ w < 256) (hp : digs 256 32 p) (hs : digs 256 64 s) (ht : digs 256 n t) :
    ∃ p' s' t', digs 256 32 p' ∧ digs 256 64 s' ∧ digs 256 n t' ∧ (b = 0 → p' = p ∧ s' = s ∧ t' = t) ∧
      Tr Tryz.prog 0 (tuN 7) (stW 0 0 (tmk (tuA6 m b w n) 0 102) (tuG6 f p s n A t)) .normal (stW 0 0 (tmk (tuB6 b n) 0 102) (tuG6 f p' s' n A t')) := by
  have e3 : w.tmod 3 = w % 3 := Int.tmod_eq_emod_of_nonneg hw.1
  have i64 := tm_ok (m := m) 64 (by decide)
  have i32 := tm_ok (m := m) 32 (by decide)
  have inn := tm_ok (m := m) n h0
  rcases (show w % 3 = 0 ∨ w % 3 = 1 ∨ w % 3 = 2 by omega) with h | h | h
  · refine ⟨p, xf s (m % 64).toNat b, t, hp, xf_digs (by omega) hs hb, ht, fun e => ⟨rfl, by rw [e]; exact xf_0 (n := 64) (by omega) hs, rfl⟩, tu_a f p s A t n m b w ?_⟩
    unfold tu_aV
    rw [e3, h]
    simp only [show ((0 : Int) == 0) = true from rfl, show ((1 : Int) == 0) = false from rfl, show ((2 : Int) == 0) = false from rfl, show ((1 : Int) == 1) = true from rfl, show ((2 : Int) == 1) = false from rfl, show ((2 : Int) == 2) = true from rfl, show (true == true) = true from rfl, show (false == false) = true from rfl, Bool.and_true, Bool.and_eq_true, decide_eq_true_eq]
    omega
  · refine ⟨xf p (m % 32).toNat b, s, t, xf_digs (by omega) hp hb, hs, ht, fun e => ⟨by rw [e]; exact xf_0 (n := 32) (by omega) hp, rfl, rfl⟩, tu_b f p s A t n m b w ?_⟩
    unfold tu_bV
    rw [e3, h]
    simp only [show ((0 : Int) == 0) = true from rfl, show ((1 : Int) == 0) = false from rfl, show ((2 : Int) == 0) = false from rfl, show ((1 : Int) == 1) = true from rfl, show ((2 : Int) == 1) = false from rfl, show ((2 : Int) == 2) = true from rfl, show (true == true) = true from rfl, show (false == false) = true from rfl, Bool.and_true, Bool.and_eq_true, decide_eq_true_eq]
    omega
  · refine ⟨p, s, xf t (0 + (m % (n : Int)).toNat) b, hp, hs, xf_digs (by omega) ht hb, fun e => ⟨rfl, rfl, by rw [e]; exact xf_0 (n := n) (by omega) ht⟩, tu_c f p s A t n m b w ?_⟩
    unfold tu_cV
    rw [e3, h]
    simp only [show ((0 : Int) == 0) = true from rfl, show ((1 : Int) == 0) = false from rfl, show ((2 : Int) == 0) = false from rfl, show ((1 : Int) == 1) = true from rfl, show ((2 : Int) == 1) = false from rfl, show ((2 : Int) == 2) = true from rfl, show (true == true) = true from rfl, show (false == false) = true from rfl, Bool.and_true, Bool.and_eq_true, decide_eq_true_eq]
    omega
noncomputable def tuM (sy : List (Nat × Bool)) : Model := evFn Tryz.prog envTl ⟨1000000, sy⟩ Tryz.f4
theorem tuM_ok (sy : List (Nat × Bool)) : SoundM Tryz.prog 4 (tuM sy) := SoundM.of_ev zn0 mix (by kernel_rfl) (by kernel_rfl) (by kernel_rfl)
section
variable (f : Nat → Int) (n : Nat) (A : Nat → Int) (z b w : Int)
def tuArgs (n : Nat) : List T := [.ints .u8 32 f, .fsi .u8 n A none, .int .i64 z, .int .u8 b, .int .u8 w]
noncomputable def tuW2 (c : Bool) : Bool := (decide ((n : Int) > 500) == c && true) && true
theorem tu_v1 : (mv (tuM [(19, true)]) (tuArgs f A z b w n)).map (·.2) = some (.bool true) := by kernel_rfl
theorem tu_vc1 : (mv (tuM [(19, true)]) (tuArgs f A z b w n)).map (·.1) = some (tuW2 n true) := by kernel_rfl
theorem tu_v0 : (mv (tuM []) (tuArgs f A z b w 0)).map (·.2) = some (.bool true) := by kernel_rfl
theorem tu_vc0 : (mv (tuM []) (tuArgs f A z b w 0)).map (·.1) = some true := by kernel_rfl
noncomputable def tuX0 : Bool := ((decide ((n : Int) > 500) == false) && ((((n : Int) == 0) == false) && true)) && true
noncomputable def tuX8 (x : Bool) : Bool := (diA1 n && true) && ((((lenB (64 + (0 + n) : Nat) && true) && true) && true) && x)
noncomputable def tuXt : Bool := tuX8 n ((decide (-9223372036854775808 ≤ z + 1 ∧ z + 1 ≤ 9223372036854775807) && (decide (-9223372036854775808 ≤ 0 - (z + 1) ∧ 0 - (z + 1) ≤ 9223372036854775807) && true)) && (((decide (z < 0) == true) && true) && tuX0 n))
noncomputable def tuXf : Bool := tuX8 n (((decide (z < 0) == false) && true) && tuX0 n)
noncomputable def tuH0 : Heap := [some (.ints .u8 32 f), some (.ints .u8 32 (pubF f)), tuX n A, some (.ints .u8 64 (sigF f (0 + n) (catF 0 (fun _ => 0) A))), none, some (.ints .u8 (0 + n) (catF 0 (fun _ => 0) A))]
theorem tu_0t : (za3 Tryz.prog envTl ⟨1000000, [(19, false), (24, false), (27, true)]⟩ (preC 7 tuC) (stW 0 0 (tmk (tuI f n A z b w) 0 102) [])).map (cutPW 0 0 (za2 [2, 3, 4, 11, 12, 13, 14]) 0) = some (.normal, tuXt n z, tmk (tuA6 (0 - (z + 1)) b w (0 + n)) 0 102, tuH0 f n A, true) := by kernel_rfl
theorem tu_0f : (za3 Tryz.prog envTl ⟨1000000, [(19, false), (24, false), (27, false)]⟩ (preC 7 tuC) (stW 0 0 (tmk (tuI f n A z b w) 0 102) [])).map (cutPW 0 0 (za2 [2, 3, 4, 11, 12, 13, 14]) 0) = some (.normal, tuXf n z, tmk (tuA6 z b w (0 + n)) 0 102, tuH0 f n A, true) := by kernel_rfl
theorem tuX8_ok (h0 : 0 < n) (hn : n ≤ 500) : diA1 n = true ∧ lenB (64 + (0 + n) : Nat) = true ∧ tuX0 n = true := by
  refine ⟨diA1_ok (by omega), tu_len (by omega), ?_⟩
  unfold tuX0
  rw [decide_eq_false (by omega : ¬ (n : Int) > 500), show (((n : Int) == 0) = false) from beq_eq_false_iff_ne.mpr (by omega)]; rfl
theorem tuH0_eq : tuH0 f n A = tuG6 f (pubF f) (sigF f n A) n A A := by
  unfold tuH0 tuG6
  rw [Nat.zero_add, zm3]
theorem tu_rest {n : Nat} {m : Int} (h0 : 0 < n) (hn : n ≤ 500) (hm : 0 ≤ m) (hb : 0 ≤ b ∧ b < 256) (hw : 0 ≤ w ∧ w < 256) (hA : digs 256 n A) :
    ∃ H, Tr Tryz.prog 0 (postC 7 tuC) (stW 0 0 (tmk (tuA6 m b w n) 0 102) (tuG6 f (pubF f) (sigF f n A) n A A)) .ret (stW 0 0 (tuR true) H) := by
  have hp : digs 256 32 (pubF f) := fun j hj => by rw [zn7]; exact encP_bd _ _
  have hs : digs 256 64 (sigF f n A) := fun j hj => sig_bd f n A hj
  obtain ⟨p', s', t', hp', hs', ht', he, hsw⟩ := tu_switch f A h0 hn hm hb hw hp hs hA
  have h1 := Tr.pick [0, 1, 3, 5] (za2 [3, 11, 12, 13, 14]) hsw (tm' := tmk (tuB b (.slice 3 [] 0 1 n none)) 0 102) (G' := [some (.ints .u8 32 f), some (.ints .u8 32 p'), some (.ints .u8 64 s'), some (.ints .u8 n t')]) (by kernel_rfl) (by kernel_rfl) (by kernel_rfl) trivial (by kernel_rfl) (by kernel_rfl)
  have h2 := Tr.frz 8 0 h1 (tm' := tmk (tuB b (.fsi .u8 n (fun j => t' (0 + j)) none)) 0 102) (G' := [some (.ints .u8 32 f), some (.ints .u8 32 p'), some (.ints .u8 64 s'), none]) (by kernel_rfl) (by kernel_rfl) (by kernel_rfl) (by
    have e : frTOK 0 8 [some (.ints .u8 32 f), some (.ints .u8 32 p'), some (.ints .u8 64 s'), some (.ints .u8 n t')] 0 (tmk (tuB b (.slice 3 [] 0 1 n none)) 0 102) = (((true && decide (0 + n ≤ n)) && (true && true)) && true) := by kernel_rfl
    rw [e, decide_eq_true (by omega)]; rfl) (fun j hj => absurd hj (Nat.not_lt_zero _))
  rw [sh_fun] at h2
  have h3 := Tr.pick [0, 1, 2] (za2 [3, 11, 12, 13, 14]) h2 (tm' := tmk (tuB b (.fsi .u8 n t' none)) 0 102) (G' := tuG f p' s') (by kernel_rfl) (by kernel_rfl) (by kernel_rfl) trivial (by kernel_rfl) (by kernel_rfl)
  rw [tu7_eq]
  refine ⟨_, Tr.seq h3 (tu_tail f none hn hp' hs' ht' fun e => ?_)⟩
  obtain ⟨rfl, rfl, rfl⟩ := he e
  exact ver_sig _ _ _
theorem tu_all (h0 : 0 < n) (hn : n ≤ 500) (hz : -9223372036854775808 ≤ z ∧ z ≤ 9223372036854775807) (hb : 0 ≤ b ∧ b < 256) (hw : 0 ≤ w ∧ w < 256) (hA : digs 256 n A) :
    ∃ H, Tr Tryz.prog 0 tuC (stW 0 0 (tmk (tuI f n A z b w) 0 102) []) .ret (stW 0 0 (tuR true) H) := by
  obtain ⟨x1, x2, x3⟩ := tuX8_ok n h0 hn
  by_cases h : z < 0
  · obtain ⟨H, hH⟩ := tu_rest f A b w h0 hn (show 0 ≤ 0 - (z + 1) by omega) hb hw hA
    refine ⟨H, Tr.preW zn0 mix 0 7 (za2 [2, 3, 4, 11, 12, 13, 14]) 0 (tu_0t f n A z b w) (by
      unfold tuXt tuX8
      rw [x1, x2, x3, decide_eq_true h, decide_eq_true (show -9223372036854775808 ≤ z + 1 ∧ z + 1 ≤ 9223372036854775807 by omega), decide_eq_true (show -9223372036854775808 ≤ 0 - (z + 1) ∧ 0 - (z + 1) ≤ 9223372036854775807 by omega)]; rfl) rfl ?_⟩
    rw [tuH0_eq, Nat.zero_add]
    exact hH
  · obtain ⟨H, hH⟩ := tu_rest f A b w h0 hn (show 0 ≤ z by omega) hb hw hA
    refine ⟨H, Tr.preW zn0 mix 0 7 (za2 [2, 3, 4, 11, 12, 13, 14]) 0 (tu_0f f n A z b w) (by
      unfold tuXf tuX8
      rw [x1, x2, x3, decide_eq_false h]; rfl) rfl ?_⟩
    rw [tuH0_eq, Nat.zero_add]
    exact hH
theorem tu_res (H : Heap) : zb3 Tryz.prog (stW 0 0 (tuR true) H) Tryz.f4.results.toList = some (true, [.bool true], 0) := by kernel_rfl
noncomputable def turnsV (args : List T) (H : Heap) : zc0 := fun a => open Classical in if a = args then some ⟨true, .bool true, H, false⟩ else none
end
theorem turns_run (f : Nat → Int) (n : Nat) (A : Nat → Int) (z b w : Int) (_ : ∀ i, i < 32 → (Lit.int .u8 (f i)).wf = true) (_ : n ≤ 9223372036854775807) (hA : ∀ i, (Lit.int .u8 (A i)).wf = true)
    (hz : (Lit.int .i64 z).wf = true) (hb : (Lit.int .u8 b).wf = true) (hw : (Lit.int .u8 w).wf = true) :
    Answers Tryz.prog 4 [.ints .u8 32 f, .fsi .u8 n A none, .int .i64 z, .int .u8 b, .int .u8 w] := by
  have bd : ∀ {x : Int}, (Lit.int .u8 x).wf = true → 0 ≤ x ∧ x < 256 := fun h => by have := bounds_u8 h; omega
  rcases Nat.eq_zero_or_pos n with rfl | h0
  · exact Answers.of_m ⟨_, tuM_ok [], mv_law (tu_v0 f A z b w) (tu_vc0 f A z b w) rfl⟩
  · by_cases h : n ≤ 500
    · obtain ⟨H, hH⟩ := tu_all f n A z b w h0 h (by have := bounds_i64 hz; omega) (bd hb) (bd hw) fun j _ => bd (hA j)
      refine ⟨turnsV [.ints .u8 32 f, .fsi .u8 n A none, .int .i64 z, .int .u8 b, .int .u8 w] H, SoundV.of_tr (fn := Tryz.f4) (c := tuC) (by kernel_rfl) (by kernel_rfl) (by kernel_rfl) ?_, ⟨true, .bool true, _, false⟩, if_pos rfl, rfl, rfl⟩
      intro args r hm hvc
      unfold turnsV at hm
      split at hm
      · rename_i e
        cases hm
        subst e
        have hW : Tr Tryz.prog 0 tuC (stW 0 0 (tmk [(0, .ints .u8 32 f), (1, .fsi .u8 n A none), (2, .int .i64 z), (3, .int .u8 b), (4, .int .u8 w)] 0 102) []) .ret (stW 0 0 (tuR true) H) :=
          Tr.weak0 (s := stW 0 0 (tmk (tuI f n A z b w) 0 102) []) hH (St.leL (L' := tuI f n A z b w) ⟨rfl, fun _ _ h => h, rfl, fun _ _ h => h, rfl, fun _ _ h => h, rfl, fun _ _ h => h, rfl, fun _ _ h => h, trivial⟩ (LeG.refl _) fun _ h => absurd h (Nat.not_lt_zero _))
        exact ⟨.ret, _, _, _, .inl rfl, hW, tu_res H, rfl, rfl, fun h => by cases h⟩
      · cases hm
    · refine Answers.of_m ⟨_, tuM_ok [(19, true)], mv_law (tu_v1 f n A z b w) (tu_vc1 f n A z b w) ?_⟩
      unfold tuW2
      rw [decide_eq_true (by omega : (n : Int) > 500)]; rfl
end Go.Proofs.YtbcbmkgfjegbhaaGreat
