/- Part 6 of the proof. No condition. -/
import Derived.Lib.EndianBits
import Derived.OpenShut
import Derived.Test.YtbcbmkgfjegbhaaGreatQSignTurns5
set_option linter.unusedVariables false
set_option linter.unusedSimpArgs false
set_option linter.unusedSectionVars false
namespace Go.Proofs.YtbcbmkgfjegbhaaGreat
open Go.AE Fardel
set_option maxRecDepth 100000
theorem natB_set {B : Nat} (f : Nat → Int) (j : Nat) (v : Int) : ∀ n, j < n → natB B (upd f j v) n + B ^ j * (f j).toNat = natB B f n + B ^ j * v.toNat
  | n + 1, h => by
    rw [natB, natB]
    rcases Nat.lt_or_ge j n with h2 | h2
    · have ih := natB_set (B := B) f j v n h2
      rw [zd3 (by omega)]
      omega
    · have e : n = j := by omega
      subst e
      rw [zj9 n (Nat.le_refl _)]
      have e2 : upd f n v n = v := by unfold upd; rw [Nat.beq_refl]; rfl
      rw [e2]
      omega
theorem step_num {x y o s p : Nat} (hx : x < 18446744073709551616) (hy : y < 18446744073709551616) (ho : o < 18446744073709551616) (hs : s < 18446744073709551616) (hp : p = x * y) :
    p / 18446744073709551616 + (p % 18446744073709551616 + o) / 18446744073709551616 + (s + (p % 18446744073709551616 + o) % 18446744073709551616) / 18446744073709551616 < 18446744073709551616 ∧
    (s + (p % 18446744073709551616 + o) % 18446744073709551616) % 18446744073709551616 + 18446744073709551616 * (p / 18446744073709551616 + (p % 18446744073709551616 + o) / 18446744073709551616 + (s + (p % 18446744073709551616 + o) % 18446744073709551616) / 18446744073709551616) = s + p + o := by
  have h : p ≤ 18446744073709551615 * 18446744073709551615 := by rw [hp]; exact Nat.mul_le_mul (by omega) (by omega)
  clear hp
  omega
theorem ma_digit {X Y S : Nat → Int} {i k x y s o : Nat} (hX : X i = (x : Int)) (hY : Y k = (y : Int)) (hS : S (i + k) = (s : Int)) (hx : x < 18446744073709551616) (hy : y < 18446744073709551616) (ho : o < 18446744073709551616) (hs : s < 18446744073709551616) :
    ∃ s' o' : Nat, s' < 18446744073709551616 ∧ o' < 18446744073709551616 ∧ maN X Y S i k o = (o' : Int) ∧ maS X Y S i k o = upd S (i + k) (s' : Int) ∧ s' + 18446744073709551616 * o' = s + x * y + o := by
  obtain ⟨p, hp⟩ : ∃ p, p = x * y := ⟨_, rfl⟩
  have hn := step_num hx hy ho hs hp
  have e1 : maLw X Y i k = p % 18446744073709551616 := by
    unfold maLw
    rw [hX, hY, ← Int.natCast_mul, ← hp, IntKind.wrap_u64]
    omega
  have e2 : (mulHi (X i) (Y k)).toNat % 18446744073709551616 = p / 18446744073709551616 := by
    rw [hX, hY, mulHi_nat x y hx hy, ← hp, Int.toNat_natCast]
    have h : p / 18446744073709551616 < 18446744073709551616 := by have := hn.1; clear e1 hn hp; omega
    exact Nat.mod_eq_of_lt h
  have e3 : maLo X Y i k o = (((p % 18446744073709551616 + o) % 18446744073709551616 : Nat) : Int) := by
    unfold maLo
    rw [e1]
    rfl
  refine ⟨(s + (p % 18446744073709551616 + o) % 18446744073709551616) % 18446744073709551616, p / 18446744073709551616 + (p % 18446744073709551616 + o) / 18446744073709551616 + (s + (p % 18446744073709551616 + o) % 18446744073709551616) / 18446744073709551616, Nat.mod_lt _ (by decide), hn.1, ?_, ?_, by rw [← hp]; exact hn.2⟩
  · unfold maN
    rw [e1, e2, e3, hS]
    unfold addHi
    simp only [Int.toNat_natCast]
    rw [IntKind.wrap_u64, IntKind.wrap_u64]
    have h := hn.1
    generalize (p % 18446744073709551616 + o) / 18446744073709551616 = u at *
    generalize (s + (p % 18446744073709551616 + o) % 18446744073709551616) / 18446744073709551616 = v at *
    generalize p / 18446744073709551616 = w at *
    clear e1 e2 e3 hn hp
    omega
  · unfold maS
    rw [e3, hS]
    rfl
def maR (X Y S : Nat → Int) (i : Nat) : Nat → Int × (Nat → Int)
  | 0 => (0, S)
  | k + 1 => (maN X Y (maR X Y S i k).2 i k (maR X Y S i k).1, maS X Y (maR X Y S i k).2 i k (maR X Y S i k).1)
def numOf (f : Nat → Int) (i : Nat) : Nat := (f i).toNat
theorem dig_nat {n : Nat} {f : Nat → Int} (h : digs 18446744073709551616 n f) {i : Nat} (hi : i < n) : f i = (numOf f i : Int) ∧ numOf f i < 18446744073709551616 := by
  have := h i hi
  unfold numOf
  omega
theorem maR_spec {X Y S : Nat → Int} (hX : digs 18446744073709551616 4 X) (hY : digs 18446744073709551616 4 Y) (hS : digs 18446744073709551616 9 S) {i : Nat} (hi : i < 4) : ∀ k, k ≤ 4 →
    ∃ (o : Nat), o < 18446744073709551616 ∧ (maR X Y S i k).1 = (o : Int) ∧ digs 18446744073709551616 9 (maR X Y S i k).2 ∧ (∀ j, i + 4 ≤ j → (maR X Y S i k).2 j = S j) ∧
      natB 18446744073709551616 (maR X Y S i k).2 9 + 18446744073709551616 ^ (i + k) * o = natB 18446744073709551616 S 9 + 18446744073709551616 ^ i * (numOf X i * natB 18446744073709551616 Y k)
  | 0, _ => ⟨0, by decide, rfl, hS, fun _ _ => rfl, by simp [maR, natB]⟩
  | k + 1, hk => by
    obtain ⟨o, ho, h1, h2, h3, h4⟩ := maR_spec hX hY hS hi k (by omega)
    obtain ⟨x1, x2⟩ := dig_nat hX hi
    obtain ⟨y1, y2⟩ := dig_nat hY (i := k) (by omega)
    obtain ⟨s1, s2⟩ := dig_nat h2 (i := i + k) (by omega)
    obtain ⟨s', o', g1, g2, g3, g4, g5⟩ := ma_digit x1 y1 s1 x2 y2 ho s2
    have e1 : (maR X Y S i (k + 1)).1 = (o' : Int) := by
      show maN X Y (maR X Y S i k).2 i k (maR X Y S i k).1 = _
      rw [h1]; exact g3
    have e2 : (maR X Y S i (k + 1)).2 = upd (maR X Y S i k).2 (i + k) (s' : Int) := by
      show maS X Y (maR X Y S i k).2 i k (maR X Y S i k).1 = _
      rw [h1]; exact g4
    rw [e1, e2]
    refine ⟨o', g2, rfl, ?_, ?_, ?_⟩
    · intro j hj
      unfold upd
      cases Nat.beq j (i + k) with
      | true => exact ⟨by rw [cond_true]; omega, by rw [cond_true]; omega⟩
      | false => exact h2 j hj
    · intro j hj
      rw [zd3 (by omega)]
      exact h3 j hj
    · have hset := natB_set (B := 18446744073709551616) (maR X Y S i k).2 (i + k) (s' : Int) 9 (by omega)
      have hy : natB 18446744073709551616 Y (k + 1) = natB 18446744073709551616 Y k + 18446744073709551616 ^ k * numOf Y k := rfl
      rw [hy]
      have hss : ((maR X Y S i k).2 (i + k)).toNat = numOf (maR X Y S i k).2 (i + k) := rfl
      rw [hss, Int.toNat_natCast] at hset
      rw [Nat.mul_add, Nat.mul_add, show i + (k + 1) = i + k + 1 from rfl, Nat.pow_succ]
      rw [show (18446744073709551616 : Nat) ^ i * (numOf X i * (18446744073709551616 ^ k * numOf Y k)) = 18446744073709551616 ^ (i + k) * (numOf X i * numOf Y k) by rw [Nat.pow_add]; ac_rfl]
      have g6 := congrArg (fun z => 18446744073709551616 ^ (i + k) * z) g5
      simp only [Nat.mul_add] at g6
      rw [Nat.mul_assoc]
      generalize 18446744073709551616 ^ (i + k) * (18446744073709551616 * o') = t1 at *
      generalize 18446744073709551616 ^ (i + k) * s' = t2 at *
      generalize 18446744073709551616 ^ (i + k) * o = t3 at *
      generalize 18446744073709551616 ^ (i + k) * (numOf X i * numOf Y k) = t4 at *
      generalize 18446744073709551616 ^ (i + k) * numOf (maR X Y S i k).2 (i + k) = t5 at *
      generalize 18446744073709551616 ^ i * (numOf X i * natB 18446744073709551616 Y k) = t6 at *
      clear e1 e2 hss hy
      omega
def maQ (X Y S : Nat → Int) (i : Nat) : Nat → Int := upd (maR X Y S i 4).2 (i + 4) (addLo ((maR X Y S i 4).2 (i + 4)).toNat (maR X Y S i 4).1.toNat)
theorem maQ_spec {X Y S : Nat → Int} (hX : digs 18446744073709551616 4 X) (hY : digs 18446744073709551616 4 Y) (hS : digs 18446744073709551616 9 S) {i : Nat} (hi : i < 4) (h0 : ∀ j, i + 4 ≤ j → S j = 0) :
    digs 18446744073709551616 9 (maQ X Y S i) ∧ (∀ j, i + 1 + 4 ≤ j → maQ X Y S i j = 0) ∧
      natB 18446744073709551616 (maQ X Y S i) 9 = natB 18446744073709551616 S 9 + 18446744073709551616 ^ i * (numOf X i * natB 18446744073709551616 Y 4) := by
  obtain ⟨o, ho, h1, h2, h3, h4⟩ := maR_spec hX hY hS hi 4 (Nat.le_refl _)
  have hz : (maR X Y S i 4).2 (i + 4) = 0 := by rw [h3 _ (Nat.le_refl _), h0 _ (Nat.le_refl _)]
  have e : maQ X Y S i = upd (maR X Y S i 4).2 (i + 4) (o : Int) := by
    unfold maQ
    rw [hz, h1]
    unfold addLo
    rw [show (0 : Int).toNat = 0 from rfl, Int.toNat_natCast, Nat.zero_add, Nat.mod_eq_of_lt ho]
  rw [e]
  refine ⟨?_, ?_, ?_⟩
  · intro j hj
    unfold upd
    cases Nat.beq j (i + 4) with
    | true => exact ⟨by rw [cond_true]; omega, by rw [cond_true]; omega⟩
    | false => exact h2 j hj
  · intro j hj
    rw [zd3 (by omega), h3 _ (by omega)]
    exact h0 j (by omega)
  · have hset := natB_set (B := 18446744073709551616) (maR X Y S i 4).2 (i + 4) (o : Int) 9 (by omega)
    rw [hz, show (0 : Int).toNat = 0 from rfl, Nat.mul_zero, Nat.add_zero, Int.toNat_natCast, h4] at hset
    exact hset
def maP (X Y S : Nat → Int) : Nat → Nat → Int
  | 0 => S
  | i + 1 => maQ X Y (maP X Y S i) i
theorem maP_spec {X Y S : Nat → Int} (hX : digs 18446744073709551616 4 X) (hY : digs 18446744073709551616 4 Y) (hS : digs 18446744073709551616 9 S) (h0 : ∀ j, 4 ≤ j → S j = 0) : ∀ i, i ≤ 4 →
    digs 18446744073709551616 9 (maP X Y S i) ∧ (∀ j, i + 4 ≤ j → maP X Y S i j = 0) ∧ natB 18446744073709551616 (maP X Y S i) 9 = natB 18446744073709551616 S 9 + natB 18446744073709551616 X i * natB 18446744073709551616 Y 4
  | 0, _ => ⟨hS, fun j hj => h0 j (by omega), by simp [maP, natB]⟩
  | i + 1, hi => by
    obtain ⟨g1, g2, g3⟩ := maP_spec hX hY hS h0 i (by omega)
    obtain ⟨k1, k2, k3⟩ := maQ_spec hX hY g1 (i := i) (by omega) g2
    refine ⟨k1, k2, ?_⟩
    show natB 18446744073709551616 (maQ X Y (maP X Y S i) i) 9 = _
    rw [k3, g3, show natB 18446744073709551616 X (i + 1) = natB 18446744073709551616 X i + 18446744073709551616 ^ i * numOf X i from rfl, Nat.add_mul, Nat.add_assoc, Nat.mul_assoc]
section
variable (a b c X Y Z S : Nat → Int)
theorem ma_loop4 (i : Nat) (hi : i < 4) (o : Int) (ho : 0 ≤ o) (ho2 : o < 18446744073709551616) (hz : S (i + 4) = 0) :
    Tr Tryz.prog 0 (.block 4 (.loop maO)) (stOf (maU i (i + 4) o) (maG a b c X Y Z S)) .normal (stOf (maA (i : Nat)) (maG a b c X Y Z (upd S (i + 4) (addLo (S (i + 4)).toNat o.toNat)))) := by
  by_cases h : o > 0
  · have e : addHi (S (i + 4)).toNat o.toNat = 0 := by
      rw [hz]
      unfold addHi
      have : ((0 : Int).toNat + o.toNat) / 18446744073709551616 = 0 := by omega
      rw [this]
      rfl
    have h1 := ma_over a b c X Y Z S o h i hi
    have h2 := ma_out a b c X Y Z (upd S (i + 4) (addLo (S (i + 4)).toNat o.toNat)) 0 (by omega) 1 (by decide) i hi
    rw [e] at h1
    exact Tr.iter (S := fun d => match d with
      | 0 => stOf (maU i (i + 4) o) (maG a b c X Y Z S)
      | _ + 1 => stOf (maU i (i + 5) 0) (maG a b c X Y Z (upd S (i + 4) (addLo (S (i + 4)).toNat o.toNat)))) (n := 1) (fun d hd => by
        obtain rfl : d = 0 := by omega
        exact h1) h2
  · have e : upd S (i + 4) (addLo (S (i + 4)).toNat o.toNat) = S := by
      have e0 : o = 0 := by omega
      funext j
      unfold upd
      cases hj : Nat.beq j (i + 4) with
      | true =>
        rw [cond_true, Nat.eq_of_beq_eq_true hj, hz, e0]
        rfl
      | false => rfl
    rw [e]
    exact Tr.iter (S := fun _ => stOf (maU i (i + 4) o) (maG a b c X Y Z S)) (n := 0) (fun d hd => absurd hd (by omega)) (ma_out a b c X Y Z S o h 0 (by decide) i hi)
theorem ma_round (i : Nat) (hi : i < 4) (ho : 0 ≤ (maR X Y S i 4).1) (ho2 : (maR X Y S i 4).1 < 18446744073709551616) (hz : (maR X Y S i 4).2 (i + 4) = 0) :
    Tr Tryz.prog 0 maB (stOf (maA (i : Nat)) (maG a b c X Y Z S)) .normal (stOf (maA ((i + 1 : Nat) : Int)) (maG a b c X Y Z (maQ X Y S i))) := by
  refine Tr.pre zb0 mix 2 maKA (ma_test a b c X Y Z S i hi) rfl ?_
  rw [maB_eq]
  refine Tr.seq (Tr.block (s1 := stOf (maA (i : Nat)) (maG a b c X Y Z (maQ X Y S i))) ?_ (by intro i h; cases h)) (ma_next a b c X Y Z _ i hi)
  refine Tr.pre zb0 mix 2 maKB (ma_begin a b c X Y Z S i hi) rfl ?_
  rw [maJ_eq]
  refine Tr.seq (s1 := stOf (maT i 4 (X i) (maR X Y S i 4).1) (maG a b c X Y Z (maR X Y S i 4).2)) ?_ ?_
  · refine Tr.pre zb0 mix 1 maKT (ma_zero a b c X Y Z S 0 i hi) rfl ?_
    rw [maIL_eq]
    exact Tr.iter (S := fun k => stOf (maT i k (X i) (maR X Y S i k).1) (maG a b c X Y Z (maR X Y S i k).2)) (n := 4) (fun k hk => ma_step a b c X Y Z _ _ i hi k hk) (ma_end a b c X Y Z _ _ i hi)
  · refine Tr.pre zb0 mix 1 maKU (ma_mid a b c X Y Z _ _ i hi) rfl ?_
    rw [maOL_eq]
    exact ma_loop4 a b c X Y Z _ i hi _ ho ho2 hz
theorem ma_rounds (hX : digs 18446744073709551616 4 X) (hY : digs 18446744073709551616 4 Y) (hS : digs 18446744073709551616 9 S) (h0 : ∀ j, 4 ≤ j → S j = 0) :
    Tr Tryz.prog 0 (.block 0 (.loop maB)) (stOf (maA (0 : Nat)) (maG a b c X Y Z S)) .normal (stOf (maA (4 : Nat)) (maG a b c X Y Z (maP X Y S 4))) := by
  refine Tr.iter (S := fun i => stOf (maA (i : Nat)) (maG a b c X Y Z (maP X Y S i))) (n := 4) (fun i hi => ?_) (ma_last a b c X Y Z _)
  obtain ⟨g1, g2, g3⟩ := maP_spec hX hY hS h0 i (by omega)
  obtain ⟨o, ho, k1, k2, k3, k4⟩ := maR_spec hX hY g1 hi 4 (Nat.le_refl _)
  exact ma_round a b c X Y Z _ i hi (by rw [k1]; omega) (by rw [k1]; omega) (by rw [k3 _ (Nat.le_refl _)]; exact g2 _ (Nat.le_refl _))
end
theorem ze5 (f : Nat → Int) : sh0 f = f := by
  funext j
  unfold sh0
  rw [Nat.zero_add]
theorem zt3 (f : Nat → Int) (n m : Nat) : digs 18446744073709551616 m (wdF f n) := dgB_digs (by decide) _ _
theorem natB_wdF {f : Nat → Int} (h : digs 256 32 f) : natB 18446744073709551616 (wdF f 32) 4 = natB 256 f 32 := by
  unfold wdF
  rw [zm7]
  exact Nat.mod_eq_of_lt (Nat.lt_of_lt_of_le (zd2 32 h) (by decide))
theorem maZ_ge (c : Nat → Int) (j : Nat) (h : 4 ≤ j) : maZ c j = 0 := by
  unfold maZ catF
  have e : Nat.blt j 4 = false := by
    cases hb : Nat.blt j 4
    · rfl
    · simp at hb; omega
  rw [e, cond_false, ze5]
  rcases Nat.lt_or_ge (j - 4) 5 with h2 | h2
  · rw [updN_eq h2]
  · exact updN_ge h2
theorem maZ_lt (c : Nat → Int) (j : Nat) (h : j < 4) : maZ c j = wdF c 32 j := by
  unfold maZ catF
  have e : Nat.blt j 4 = true := by simpa using h
  rw [e, cond_true, ze5, ze5]
theorem maZ_digs (c : Nat → Int) : digs 18446744073709551616 9 (maZ c) := by
  intro j hj
  rcases Nat.lt_or_ge j 4 with h | h
  · rw [maZ_lt c j h]
    exact zt3 c 32 4 j h
  · rw [maZ_ge c j h]
    exact ⟨by decide, by decide⟩
theorem natB_maZ {c : Nat → Int} (h : digs 256 32 c) : natB 18446744073709551616 (maZ c) 9 = natB 256 c 32 := by
  have e : natB 18446744073709551616 (maZ c) 9 = natB 18446744073709551616 (maZ c) 4 := by
    simp only [natB, maZ_ge c 4 (by omega), maZ_ge c 5 (by omega), maZ_ge c 6 (by omega), maZ_ge c 7 (by omega), maZ_ge c 8 (by omega), show (0 : Int).toNat = 0 from rfl, Nat.mul_zero, Nat.add_zero]
  rw [e, zc6 4 (fun j hj => maZ_lt c j hj)]
  exact natB_wdF h
def maNum (a b c : Nat → Int) : Nat := (natB 256 a 32 * natB 256 b 32 + natB 256 c 32) % L
theorem ma_tr {a b c : Nat → Int} (ha : za4 32 a = true) (hb : za4 32 b = true) (hc : za4 32 c = true) : ∃ S, maV S = maNum a b c ∧
    Tr Tryz.prog 0 maC (stOf ([.ints .u8 32 a, .ints .u8 32 b, .ints .u8 32 c] ++ zb4 95) []) .ret (stOf (tmk [(6, .ptr 3 [])] 0 98) (maG9 a b c S ++ (maG a b c (wdF a 32) (wdF b 32) (wdF c 32) S).drop 4)) := by
  have hP := maP_spec (zt3 a 32 4) (zt3 b 32 4) (maZ_digs c) (maZ_ge c) 4 (Nat.le_refl _)
  refine ⟨maP (wdF a 32) (wdF b 32) (maZ c) 4, ?_, ?_⟩
  · unfold maV maNum
    have e : natB 18446744073709551616 (fun j => maP (wdF a 32) (wdF b 32) (maZ c) 4 (0 + j)) 9 = natB 18446744073709551616 (maP (wdF a 32) (wdF b 32) (maZ c) 4) 9 := zc6 9 fun j _ => by rw [Nat.zero_add]
    rw [e, hP.2.2, natB_maZ (za9 hc), natB_wdF (za9 ha), natB_wdF (za9 hb), Nat.add_comm]
  · refine Tr.pre zb0 mix 3 maK0 (ma_pre a b c) (by unfold maVC0; rw [ze5, ze5, ze5, ha, hb, hc]; rfl) ?_
    rw [ze5, ze5, ze5, maX_eq]
    refine Tr.seq (s1 := stOf (maA 4) (maG a b c (wdF a 32) (wdF b 32) (wdF c 32) (maP (wdF a 32) (wdF b 32) (maZ c) 4))) ?_ (ma_post a b c _ _ _ _ ?_)
    · refine Tr.pre zb0 mix 1 maKA (ma_ini a b c _ _ _ _) rfl ?_
      rw [maL_eq]
      exact ma_rounds a b c _ _ _ _ (zt3 a 32 4) (zt3 b 32 4) (maZ_digs c) (maZ_ge c)
    · unfold wordsB
      rw [List.all_eq_true]
      intro j hj
      have := hP.1 j (by simpa using hj)
      refine decide_eq_true ?_
      show 0 ≤ maP (wdF a 32) (wdF b 32) (maZ c) 4 (0 + j) ∧ maP (wdF a 32) (wdF b 32) (maZ c) 4 (0 + j) < 18446744073709551616
      rw [Nat.zero_add]
      exact this
noncomputable def maF (a b c : Nat → Int) : Nat → Int := hid (fun (a b c : Nat → Int) => nbF (dq (maNum a b c) 0) (dq (maNum a b c) 1) (dq (maNum a b c) 2) (dq (maNum a b c) 3)) a b c
theorem maF_eq (a b c : Nat → Int) : maF a b c = nbF (dq (maNum a b c) 0) (dq (maNum a b c) 1) (dq (maNum a b c) 2) (dq (maNum a b c) 3) := by unfold maF; rw [zb5]
noncomputable def MulAddP : zb1
  | [.ints .u8 32 a, .ints .u8 32 b, .ints .u8 32 c] => some (za4 32 a && (za4 32 b && za4 32 c), .ints .u8 32 (maF a b c))
  | _ => none
theorem ma_res (a b c X Y Z S : Nat → Int) : zb3 Tryz.prog (stOf (tmk [(6, .ptr 3 [])] 0 98) (maG9 a b c S ++ (maG a b c X Y Z S).drop 4)) Tryz.f17.results.toList =
    some (true, [.ints .u8 32 (nbF (dq (maV S) 0) (dq (maV S) 1) (dq (maV S) 2) (dq (maV S) 3))], 8) := by kernel_rfl
theorem MulAdd_ok : SoundM Tryz.prog 17 (za1 MulAddP) := by
  refine SoundM.refineX ?_
  intro args vc v hm hvc ρ xs hargs
  unfold MulAddP at hm
  split at hm
  · rename_i a b c
    cases hm
    have hx : VLs rho0 [.ints .u8 32 a, .ints .u8 32 b, .ints .u8 32 c] xs := zd6 rfl hargs
    have hv := Bool.and_eq_true_iff.1 hvc
    have hv2 := Bool.and_eq_true_iff.1 hv.2
    obtain ⟨S, hS, htr⟩ := ma_tr hv.1 hv2.1 hv2.2
    refine ⟨za1 (fun args => open Classical in if args = [.ints .u8 32 a, .ints .u8 32 b, .ints .u8 32 c] then some (true, .ints .u8 32 (nbF (dq (maV S) 0) (dq (maV S) 1) (dq (maV S) 2) (dq (maV S) 3))) else none), ?_, _, hx,
      ⟨true, .ints .u8 32 (nbF (dq (maV S) 0) (dq (maV S) 1) (dq (maV S) 2) (dq (maV S) 3)), [], 0, 0⟩, by simp [za1], rfl, ?_⟩
    · refine SoundM.of_tr0 (fn := Tryz.f17) (c := maC) (by kernel_rfl) (by kernel_rfl) (by kernel_rfl) ?_
      intro args vc v hm hvc
      split at hm
      · rename_i e
        cases hm
        subst e
        exact ⟨rfl, rfl, .ret, _, _, 8, .inl rfl, htr, ma_res _ _ _ _ _ _ _, rfl⟩
      · cases hm
    · intro ρ' w hw
      rw [hS, ← maF_eq] at hw
      exact hw
  · cases hm
theorem L_val : L = 7237005577332262213973186563042994240857116359379907606001950938285454250989 := rfl
theorem maNum_lt (a b c : Nat → Int) : maNum a b c < L := Nat.mod_lt _ (by decide)
theorem maF_dg (a b c : Nat → Int) (i : Nat) (hi : i < 32) : maF a b c i = dgB 256 (maNum a b c) i := by
  rw [maF_eq]
  refine nbF_eq ?_ i hi
  have := maNum_lt a b c
  rw [L_val] at this
  omega
theorem bytes_dg {f : Nat → Int} {V : Nat} (h : ∀ i, i < 32 → f i = dgB 256 V i) : za4 32 f = true := zd5 fun i hi => by
  rw [h i hi]
  exact dgB_digs (by decide) V 32 i hi
theorem maF_bytes (a b c : Nat → Int) : za4 32 (maF a b c) = true := bytes_dg (maF_dg a b c)
theorem hi_dg {f : Nat → Int} {V : Nat} (h : ∀ i, i < 32 → f i = dgB 256 V i) (hV : V < 115792089237316195423570985008687907853269984665640564039457584007913129639936) : hi f 256 = V := by
  rw [hi_all (za9 (bytes_dg h)), natN_natB, zc6 32 h, zm7]
  exact Nat.mod_eq_of_lt hV
theorem maF_hi (a b c : Nat → Int) : hi (maF a b c) 256 = maNum a b c := hi_dg (maF_dg a b c) (by have := maNum_lt a b c; rw [L_val] at this; omega)
theorem zn9 {a : Nat → Int} (h : za4 32 a = true) : natB 256 a 32 = hi a 256 := by rw [hi_all (za9 h), natN_natB]
noncomputable def rdN (f : Nat → Int) : Nat := natB 18446744073709551616 (fun j => wdH (sh0 f) 64 (0 + j)) 8 % L
noncomputable def rdF (f : Nat → Int) : Nat → Int := hid (fun f => nbF (dq (rdN f) 0) (dq (rdN f) 1) (dq (rdN f) 2) (dq (rdN f) 3)) f
theorem rdF_eq (f : Nat → Int) : rdF f = nbF (dq (rdN f) 0) (dq (rdN f) 1) (dq (rdN f) 2) (dq (rdN f) 3) := by unfold rdF; rw [zb5]
noncomputable def rdV (f : Nat → Int) : Bool := (za4 64 (sh0 f) && true) && (((wordsB 8 (fun j => wdH (sh0 f) 64 (0 + j)) && true) && true) && true) && true
theorem rd_mv (f : Nat → Int) : mv (evFn Tryz.prog envN2 1000000 Tryz.f38) [.ints .u8 64 f] = some (rdV f, .ints .u8 32 (nbF (dq (rdN f) 0) (dq (rdN f) 1) (dq (rdN f) 2) (dq (rdN f) 3))) := by kernel_rfl
theorem rdN_eq {f : Nat → Int} (h : digs 256 64 f) : rdN f = natB 256 f 64 % L := by
  unfold rdN
  have e1 : (fun j => wdH (sh0 f) 64 (0 + j)) = dgB 18446744073709551616 (natB 256 f 64) := by
    funext j
    rw [wdH_eq, Nat.zero_add]
    have : sh0 f = f := by funext i; unfold sh0; rw [Nat.zero_add]
    rw [this]
    rfl
  have hlt := zd2 64 h
  have e2 : (18446744073709551616 : Nat) ^ 8 = 256 ^ 64 := by decide +kernel
  rw [e1, zm7, e2, Nat.mod_eq_of_lt hlt]
theorem rdV_ok {f : Nat → Int} (h : za4 64 f = true) : rdV f = true := by
  have : sh0 f = f := by funext i; unfold sh0; rw [Nat.zero_add]
  unfold rdV
  rw [this, h]
  have hw : wordsB 8 (fun j => wdH f 64 (0 + j)) = true := by
    unfold wordsB
    rw [List.all_eq_true]
    intro j hj
    rw [decide_eq_true_eq, wdH_eq]
    exact zt3 f 64 8 (0 + j) (by simp at hj; omega)
  rw [hw]
  rfl
noncomputable def ReduceP : zb1
  | [.ints .u8 64 f] => some (za4 64 f, .ints .u8 32 (rdF f))
  | _ => none
theorem Reduce_ok : SoundM Tryz.prog 38 (za1 ReduceP) := by
  refine (SoundM.of_ev zb0 mix (n := 1000000) (fn := Tryz.f38) (by kernel_rfl) (by kernel_rfl) (by kernel_rfl)).pure ?_
  intro args vc v h hvc
  unfold ReduceP at h
  split at h
  · rename_i f
    cases h
    obtain ⟨r, h3, h4, h5⟩ := za8 (rd_mv f)
    exact ⟨rfl, rfl, r, h3, by rw [h4]; exact rdV_ok hvc, by rw [h5, rdF_eq]⟩
  · cases h
theorem rdN_lt (f : Nat → Int) : rdN f < L := Nat.mod_lt _ (by decide)
theorem rdF_dg (f : Nat → Int) (i : Nat) (hi : i < 32) : rdF f i = dgB 256 (rdN f) i := by
  rw [rdF_eq]
  refine nbF_eq ?_ i hi
  have := rdN_lt f
  rw [L_val] at this
  omega
theorem zg8 (f : Nat → Int) : za4 32 (rdF f) = true := bytes_dg (rdF_dg f)
theorem rdF_hi (f : Nat → Int) : hi (rdF f) 256 = rdN f := hi_dg (rdF_dg f) (by have := rdN_lt f; rw [L_val] at this; omega)
noncomputable def fiW (f : Nat → Int) (k : Nat) : Nat := (wdH (sh0 f) 32 (0 + k)).toNat
theorem fi_mv (f : Nat → Int) : mv (evFn Tryz.prog envN2 1000000 Tryz.f23) [.ints .u8 32 f] =
  some (za4 32 (sh0 f) && true && true && true, .bool ((bif sb3 (fiW f 0) (fiW f 1) (fiW f 2) (fiW f 3) L0 L1 0 L3 then (1 : Int) else 0) == 1)) := by kernel_rfl
noncomputable def fineB (f : Nat → Int) : Bool := hid (fun f => decide (natB 256 f 32 < L)) f
theorem fineB_eq (f : Nat → Int) : fineB f = decide (natB 256 f 32 < L) := by unfold fineB; rw [zb5]
theorem fi_val {f : Nat → Int} (h : za4 32 f = true) : ((bif sb3 (fiW f 0) (fiW f 1) (fiW f 2) (fiW f 3) L0 L1 0 L3 then (1 : Int) else 0) == 1) = fineB f := by
  have hd := za9 h
  have e0 : sh0 f = f := by funext i; unfold sh0; rw [Nat.zero_add]
  have hlt := zd2 32 hd
  have ew : ∀ k, fiW f k = dq (natB 256 f 32) k := fun k => by
    unfold fiW
    rw [e0, wdH_eq, Nat.zero_add]
    unfold wdF dq dgB
    rfl
  obtain ⟨a, b, c, d, ha, hb, hc, hdd, q0, q1, q2, q3, hv⟩ := dq_back (V := natB 256 f 32) (by
    have : (256 : Nat) ^ 32 = 115792089237316195423570985008687907853269984665640564039457584007913129639936 := by decide +kernel
    omega)
  have w0 : fiW f 0 = a := by have := ew 0; omega
  have w1 : fiW f 1 = b := by have := ew 1; omega
  have w2 : fiW f 2 = c := by have := ew 2; omega
  have w3 : fiW f 3 = d := by have := ew 3; omega
  rw [w0, w1, w2, w3]
  obtain ⟨s0, s1, s2, s3, h0, h1, h2, h3, -, -, -, -, hs⟩ := sub4 ha hb hc hdd
  rw [← hv] at hs
  rw [fineB_eq]
  clear ew w0 w1 w2 w3 q0 q1 q2 q3 hlt e0 hd
  generalize natB 256 f 32 = V at *
  have hb2 : s0 + 18446744073709551616 * s1 + 340282366920938463463374607431768211456 * s2 + 6277101735386680763835789423207666416102355444464034512896 * s3 < 115792089237316195423570985008687907853269984665640564039457584007913129639936 := by omega
  generalize s0 + 18446744073709551616 * s1 + 340282366920938463463374607431768211456 * s2 + 6277101735386680763835789423207666416102355444464034512896 * s3 = S at *
  have hL : L < 115792089237316195423570985008687907853269984665640564039457584007913129639936 := by rw [L_val]; decide
  have hV : V < 115792089237316195423570985008687907853269984665640564039457584007913129639936 := by omega
  cases hbl : sb3 a b c d L0 L1 0 L3 with
  | true =>
    rw [hbl] at hs
    have g : bitI true = 1 := rfl
    rw [g] at hs
    rw [decide_eq_true (show V < L by generalize L = l at *; omega)]
    rfl
  | false =>
    rw [hbl] at hs
    have g : bitI false = 0 := rfl
    rw [g] at hs
    rw [decide_eq_false (show ¬ V < L by generalize L = l at *; omega)]
    rfl
noncomputable def FineP : zb1
  | [.ints .u8 32 f] => some (za4 32 f, .bool (fineB f))
  | _ => none
theorem Fine_ok : SoundM Tryz.prog 23 (za1 FineP) := by
  refine (SoundM.of_ev zb0 mix (n := 1000000) (fn := Tryz.f23) (by kernel_rfl) (by kernel_rfl) (by kernel_rfl)).pure ?_
  intro args vc v h hvc
  unfold FineP at h
  split at h
  · rename_i f
    cases h
    obtain ⟨r, h3, h4, h5⟩ := za8 (fi_mv f)
    have e0 : sh0 f = f := by funext i; unfold sh0; rw [Nat.zero_add]
    refine ⟨rfl, rfl, r, h3, ?_, by rw [h5, fi_val hvc]⟩
    rw [h4, e0, hvc]
    rfl
  · cases h
noncomputable def envSe : Env := env0.set 33 (lift 2 shaV)
theorem envSe_ok : EnvOK Tryz.prog envSe := (za0 _).set (Sha_ok.lift 2)
def secS0 (d : Nat → Int) : Nat → Int := fun j => bif Nat.beq j 31 then bits .or .u8 (bits .and .u8 (d (0 + 31)) 127) 64 else bif Nat.beq j 0 then bits .andNot .u8 (d (0 + 0)) 7 else d (0 + j)
noncomputable def secD (f : Nat → Int) : Nat → Int := shaH 32 (catF 0 (fun _ => 0) (sh0 f))
theorem sec_mv (f : Nat → Int) : mv (evFn Tryz.prog envSe 1000000 Tryz.f12) [.ints .u8 32 f] = some (true, .tup (.cons (.ints .u8 32 (secS0 (secD f))) (.cons (.ints .u8 32 (fun j => secD f (32 + j))) .nil))) := by kernel_rfl
noncomputable def envDg : Env := (env0.set 33 (lift 0 shaV)).set 38 (za1 ReduceP)
theorem envDg_ok : EnvOK Tryz.prog envDg := ((za0 _).set (Sha_ok.lift 0)).set Reduce_ok
noncomputable def dgC : Code := bodyC Tryz.f16
section
variable (n k : Nat) (f : Nat → Int) (c cp : Option Nat) (ns : Nat → Nat) (fs : Nat → Nat → Int) (cs : Nat → Option Nat)
def fsF : Nat → T := fun i => .fsi .u8 (ns i) (fs i) (cs i)
def dgX (F : Nat → T) : Nat → T := fun j => catT 1 (fun j => bif Nat.beq j 0 then .fsi .u8 n f c else .nilslice) F (0 + j)
noncomputable def dgD (F : Nat → T) : Nat → Int := shaH (totN (dgX n f c F) (1 + k)) (totF (dgX n f c F) (1 + k))
noncomputable def dgW (F : Nat → T) : Bool := (((1 + k) * Tryz.prog.types[23].bytes).ble 140737488355328 && (1 + k).ble 9223372036854775807) &&
  (((((decide (0 + (1 + k) ≤ 1 + k) && true) && allN (fun j => noPtr (dgX n f c F j) && noPtr (dgX n f c F j)) (1 + k)) && true) && true) &&
    (((allN (fun i => fzOK (dgX n f c F i)) (1 + k) && (lenB (totN (dgX n f c F) (1 + k) : Nat) && lenB (1 + k : Nat))) && true) && true) && (za4 64 (dgD n k f c F) && true)) && true
theorem dg_tr (h : dgW n k f c (fsF ns fs cs) = true) : Tr Tryz.prog 0 dgC (stW 0 0 ([.fsi .u8 n f c, .fsr 1 k (fsF ns fs cs) cp] ++ zb4 9) []) .ret (stW 0 0 (tmk [(4, .ptr 0 [])] 0 11) [some (.ints .u8 32 (rdF (dgD n k f c (fsF ns fs cs))))]) :=
  Tr.evW (n := 1000000) (N := 1) (keep := za2 [4]) (nm := 0) (vc := dgW n k f c (fsF ns fs cs)) envDg_ok mix (by kernel_rfl) h rfl rfl rfl
end
theorem dgX_zero (n : Nat) (f : Nat → Int) (c : Option Nat) (F : Nat → T) : dgX n f c F 0 = .fsi .u8 n f c := rfl
theorem dgX_succ (n : Nat) (f : Nat → Int) (c : Option Nat) (F : Nat → T) (i : Nat) : dgX n f c F (i + 1) = F i := by
  unfold dgX catT
  cases hb : Nat.blt (0 + (i + 1)) 1 with
  | true => exact absurd (Nat.le_of_ble_eq_true hb) (by omega)
  | false =>
    show F (0 + (i + 1) - 1) = F i
    congr 1
    omega
theorem dgX_N (n : Nat) (f : Nat → Int) (c : Option Nat) (F : Nat → T) : ∀ k, totN (dgX n f c F) (k + 1) = n + totN F k
  | 0 => by
    show 0 + fzN (dgX n f c F 0) = n + 0
    rw [dgX_zero, Nat.zero_add]; rfl
  | k + 1 => by
    show totN (dgX n f c F) (k + 1) + fzN (dgX n f c F (k + 1)) = n + (totN F k + fzN (F k))
    rw [dgX_N n f c F k, dgX_succ, Nat.add_assoc]
theorem dgX_F (n : Nat) (f : Nat → Int) (c : Option Nat) (F : Nat → T) : ∀ k j, j < n + totN F k → totF (dgX n f c F) (k + 1) j = catF n f (totF F k) j
  | 0, j, hj => by
    have hj : j < n := hj
    show catF 0 (fun _ => 0) (fzF (dgX n f c F 0)) j = _
    rw [zm3, dgX_zero, zc9 hj]; rfl
  | k + 1, j, hj => by
    have hj : j < n + (totN F k + fzN (F k)) := hj
    show catF (totN (dgX n f c F) (k + 1)) (totF (dgX n f c F) (k + 1)) (fzF (dgX n f c F (k + 1))) j = catF n f (catF (totN F k) (totF F k) (fzF (F k))) j
    rw [dgX_N, dgX_succ]
    by_cases h1 : j < n + totN F k
    · rw [zc9 h1, dgX_F n f c F k j h1]
      by_cases h2 : j < n
      · rw [zc9 h2, zc9 h2]
      · rw [zd0 (by omega), zd0 (by omega), zc9 (by omega)]
    · rw [zd0 (by omega), zd0 (by omega), zd0 (by omega)]
      congr 1
      omega
theorem dgD_eq (n k : Nat) (f : Nat → Int) (c : Option Nat) (F : Nat → T) : dgD n k f c F = shaH (n + totN F k) (catF n f (totF F k)) := by
  unfold dgD
  rw [Nat.add_comm 1 k, dgX_N]
  exact shaH_congr (dgX_F n f c F k)
theorem litF_in {P : Int → Prop} : ∀ (l : List Int) (i : Nat) (f : Nat → Int), (∀ x, x ∈ l → P x) → (∀ j, P (f j)) → ∀ j, P (litF l i f j)
  | [], _, _, _, hf, j => hf j
  | x :: r, i, f, hl, hf, j => litF_in r (i + 1) (upd f i x) (fun y hy => hl y (List.mem_cons_of_mem _ hy)) (fun j => by
      unfold upd
      cases Nat.beq j i with
      | true => exact hl x List.mem_cons_self
      | false => exact hf j) j
theorem shOut_bd (h : V8) (j : Nat) : 0 ≤ shOut h j ∧ shOut h j < 256 := by
  unfold shOut
  refine litF_in (P := fun x => 0 ≤ x ∧ x < 256) _ _ _ (fun x hx => ?_) (fun _ => by decide) j
  simp only [shOutL, List.mem_flatMap, List.mem_map] at hx
  obtain ⟨w, -, s, -, rfl⟩ := hx
  rw [IntKind.wrap_u8]
  omega
theorem shaH_bd (t : Nat) (A : Nat → Int) (j : Nat) : 0 ≤ shaH t A j ∧ shaH t A j < 256 := by
  rw [shaH_eq]
  exact shOut_bd _ j
theorem shaH_bytes (t : Nat) (A : Nat → Int) (n : Nat) : za4 n (shaH t A) = true := zd5 fun i _ => shaH_bd t A i
theorem allN_of {p : Nat → Bool} : ∀ {n : Nat}, (∀ i, i < n → p i = true) → allN p n = true
  | 0, _ => rfl
  | n + 1, h => by
    unfold allN
    rw [allN_of (fun i hi => h i (by omega)), h n (by omega)]
    rfl
theorem b23 : Tryz.prog.types[23].bytes = 24 := by kernel_rfl
theorem dgW_ok {n k : Nat} {f : Nat → Int} {c : Option Nat} {F : Nat → T} (h1 : ∀ i, i < k → fzOK (F i) = true) (h2 : lenB (n + totN F k : Nat) = true) (h3 : lenB (1 + k : Nat) = true) : dgW n k f c F = true := by
  have ok : ∀ i, i < 1 + k → fzOK (dgX n f c F i) = true := fun i hi => by
    cases i with
    | zero => rw [dgX_zero]; rfl
    | succ i => rw [dgX_succ]; exact h1 i (by omega)
  have np : ∀ i, i < 1 + k → noPtr (dgX n f c F i) = true := fun i hi => by rw [fzOK_eq (ok i hi)]; rfl
  have hk := zp8 h3
  unfold dgW
  rw [b23, allN_of (fun i hi => by rw [np i hi]; rfl), allN_of ok, h3, show totN (dgX n f c F) (1 + k) = n + totN F k by rw [Nat.add_comm 1 k, dgX_N], h2, show za4 64 (dgD n k f c F) = true by unfold dgD; exact shaH_bytes _ _ _,
    decide_eq_true (show 0 + (1 + k) ≤ 1 + k by omega), show (((1 + k) * 24).ble 140737488355328) = true by rw [Nat.ble_eq]; omega, show ((1 + k).ble 9223372036854775807) = true by rw [Nat.ble_eq]; omega]
  rfl
noncomputable def digV0 : zc0
  | [.fsi .u8 n f _, .fsr 1 k F _] => some ⟨allN (fun i => fzOK (F i)) k && (lenB (n + totN F k : Nat) && lenB (1 + k : Nat)), .ints .u8 32 (rdF (shaH (n + totN F k) (catF n f (totF F k)))), [some (.ints .u8 32 (rdF (shaH (n + totN F k) (catF n f (totF F k)))))], true⟩
  | _ => none
theorem dg_res (o : Nat → Int) : zb3 Tryz.prog (stW 0 0 (tmk [(4, .ptr 0 [])] 0 11) [some (.ints .u8 32 o)]) Tryz.f16.results.toList = some (true, [.ints .u8 32 o], 1) := by kernel_rfl
theorem Dig0_ok : SoundV Tryz.prog 16 digV0 := by
  refine SoundV.of_tr (fn := Tryz.f16) (c := dgC) (by kernel_rfl) (by kernel_rfl) (by kernel_rfl) ?_
  intro args r hm hvc
  unfold digV0 at hm
  split at hm
  · rename_i n f c k F cp
    cases hm
    simp only [Bool.and_eq_true] at hvc
    obtain ⟨h1, h2, h3⟩ := hvc
    have h1 := zg9 h1
    have hr := dg_tr n k f c cp (fun i => fzN (F i)) (fun i => fzF (F i)) (fun i => fzC (F i)) (dgW_ok (fun _ _ => rfl) (by
      have e : totN (fsF (fun i => fzN (F i)) (fun i => fzF (F i)) (fun i => fzC (F i))) k = totN F k := totN_st F k
      rw [e]; exact h2) h3)
    have e1 : totN (fsF (fun i => fzN (F i)) (fun i => fzF (F i)) (fun i => fzC (F i))) k = totN F k := totN_st F k
    have e2 : totF (fsF (fun i => fzN (F i)) (fun i => fzF (F i)) (fun i => fzC (F i))) k = totF F k := totF_st F k
    rw [dgD_eq, e1, e2] at hr
    have hr2 : Tr Tryz.prog 0 dgC (stW 0 0 ([.fsi .u8 n f c, .fsr 1 k F cp] ++ zb4 9) []) .ret _ := hr.weak0 ⟨(fun t ρ x hx => ?_), rfl, rfl, (fun k t h => by cases h), (fun _ h => h), (fun _ h => by omega), rfl, rfl⟩
    · exact ⟨.ret, _, _, _, .inl rfl, hr2, dg_res _, rfl, rfl, fun _ => rfl⟩
    · rcases t with _ | _ | t
      · exact hx
      · exact fsr_congrV (fun i hi => fzOK_eq (h1 i hi)) ρ x hx
      · exact hx
  · cases hm
theorem nil_fsrV {ρ ρ' : Rho} {m : Nat} {F : Nat → T} : ∀ x, (R ρ .nilslice).v x → (R ρ' (.fsr m 0 F none)).v x := by
  intro x hx
  obtain rfl : x = _ := hx
  exact ⟨none, 0, rfl, Nat.le_refl _, (fun _ h => by cases h), (fun h => absurd h (by omega))⟩
def partsN : T → Nat
  | .fsr _ k _ _ => k
  | _ => 0
def partsF : T → Nat → T
  | .fsr _ _ F _ => F
  | _ => fun _ => .any
def zr0 : T → Bool
  | .fsr 1 k F _ => allN (fun i => fzOK (F i)) k && lenB (1 + k : Nat)
  | .nilslice => true
  | _ => false
def txtN (t : T) : Nat := totN (partsF t) (partsN t)
def txtF (t : T) : Nat → Int := totF (partsF t) (partsN t)
noncomputable def digV : zc0
  | [.fsi .u8 n f _, t] => some ⟨zr0 t && lenB (n + txtN t : Nat), .ints .u8 32 (rdF (shaH (n + txtN t) (catF n f (txtF t)))), [], true⟩
  | _ => none
noncomputable def digV1 : zc0 := frz 0 digV0
theorem Dig_ok : SoundV Tryz.prog 16 digV := by
  refine SoundV.refine fun args r hr hvc ρ xs hρ hargs => ?_
  unfold digV at hr
  split at hr
  · rename_i n f c t
    cases hr
    simp only [Bool.and_eq_true] at hvc
    obtain ⟨h1, h2⟩ := hvc
    unfold zr0 at h1
    split at h1
    · rename_i k F cp
      simp only [Bool.and_eq_true] at h1
      have h2' : lenB (n + totN F k : Nat) = true := h2
      refine ⟨digV1, Dig0_ok.frz 0, _, hargs, ⟨(allN (fun i => fzOK (F i)) k && (lenB (n + totN F k : Nat) && lenB (1 + k : Nat))) && (true && true), _, _, _⟩, rfl, ?_, rfl, fun _ => rfl, fun ρ' x hx => hx⟩
      rw [h1.1, h1.2, h2']
      rfl
    · obtain ⟨y, ys, e, hy, z, zs, e2, hz, hn⟩ := hargs
      refine ⟨digV1, Dig0_ok.frz 0, [.fsi .u8 n f c, .fsr 1 0 (fun _ => .any) none], ⟨y, ys, e, hy, z, zs, e2, nil_fsrV z hz, hn⟩, ⟨(true && (lenB (n + 0 : Nat) && true)) && (true && true), _, _, _⟩, rfl, ?_, rfl, fun _ => rfl, fun ρ' x hx => hx⟩
      have h2' : lenB (n + 0 : Nat) = true := h2
      rw [h2']
      rfl
    · cases h1
  · cases hr
noncomputable def secS (f : Nat → Int) : Nat → Int := hid (fun f => secS0 (secD f)) f
theorem secS_eq (f : Nat → Int) : secS f = secS0 (secD f) := by unfold secS; rw [zb5]
noncomputable def secX (f : Nat → Int) : Nat → Int := hid (fun f j => secD f (32 + j)) f
theorem secX_eq (f : Nat → Int) : secX f = fun j => secD f (32 + j) := by unfold secX; rw [zb5]
theorem secD_eq (f : Nat → Int) : secD f = shaH 32 f := by
  unfold secD
  rw [zm3]
  congr 1
  funext j
  unfold sh0
  rw [Nat.zero_add]
theorem secS_bd (f : Nat → Int) (j : Nat) : 0 ≤ secS f j ∧ secS f j < 256 := by
  rw [secS_eq, secD_eq]
  unfold secS0
  cases Nat.beq j 31 with
  | true =>
    have h := shaH_bd 32 f (0 + 31)
    rw [cond_true, and127 h.1 h.2, u8_or _ _ (by omega) (by omega) (by decide) (by decide)]
    have : ((shaH 32 f (0 + 31) % 128).toNat ||| (64 : Int).toNat) < 2 ^ 8 := Nat.or_lt_two_pow (by omega) (by decide)
    omega
  | false =>
    rw [cond_false]
    cases Nat.beq j 0 with
    | true =>
      have h := shaH_bd 32 f (0 + 0)
      rw [cond_true, u8_andNot _ _ h.1 h.2 (by decide) (by decide)]
      have : ((shaH 32 f (0 + 0)).toNat &&& (255 - (7 : Int).toNat)) < 2 ^ 8 := Nat.and_lt_two_pow _ (by decide)
      omega
    | false => exact shaH_bd _ _ _
theorem zi8 (f : Nat → Int) : za4 32 (secS f) = true := zd5 fun i _ => secS_bd f i
noncomputable def secretP : zb1
  | [.ints .u8 32 f] => some (true, .tup (.cons (.ints .u8 32 (secS f)) (.cons (.ints .u8 32 (secX f)) .nil)))
  | _ => none
theorem Secret_ok : SoundM Tryz.prog 12 (za1 secretP) := by
  refine (SoundM.of_ev envSe_ok mix (n := 1000000) (fn := Tryz.f12) (by kernel_rfl) (by kernel_rfl) (by kernel_rfl)).pure ?_
  intro args vc v h hvc
  unfold secretP at h
  split at h
  · rename_i f
    cases h
    obtain ⟨r, h3, h4, h5⟩ := za8 (sec_mv f)
    exact ⟨rfl, rfl, r, h3, h4, by rw [h5, secS_eq, secX_eq]⟩
  · cases h
noncomputable def envBa : Env := (env0.set 26 (za1 BaseP)).set 34 (za1 MulP)
theorem envBa_ok : EnvOK Tryz.prog envBa := ((za0 _).set Base_pt).set MulP_ok
theorem sbase_mv (f : Nat → Int) : mv (evFn Tryz.prog envBa 1000000 Tryz.f13) [.ints .u8 32 f] = some (za4 32 f && true && true, ptA (pMul f pB)) := by kernel_rfl
noncomputable def sbaseP : zb1
  | [.ints .u8 32 f] => some (za4 32 f, ptA (pMul f pB))
  | _ => none
theorem sbase_ok : SoundM Tryz.prog 13 (za1 sbaseP) := by
  refine (SoundM.of_ev envBa_ok mix (n := 1000000) (fn := Tryz.f13) (by kernel_rfl) (by kernel_rfl) (by kernel_rfl)).pure ?_
  intro args vc v h hvc
  unfold sbaseP at h
  split at h
  · rename_i f
    cases h
    obtain ⟨r, h3, h4, h5⟩ := za8 (sbase_mv f)
    exact ⟨rfl, rfl, r, h3, by rw [h4, hvc]; rfl, h5⟩
  · cases h
noncomputable def envPu : Env := ((env0.set 12 (za1 secretP)).set 13 (za1 sbaseP)).set 14 (za1 BytesP)
theorem envPu_ok : EnvOK Tryz.prog envPu := (((za0 _).set Secret_ok).set sbase_ok).set PtBytes_ok
noncomputable def pubQ (f : Nat → Int) : Pt := hid (fun f => pMul (secS f) pB) f
theorem pubQ_eq (f : Nat → Int) : pubQ f = pMul (secS f) pB := by unfold pubQ; rw [zb5]
noncomputable def pubF (f : Nat → Int) : Nat → Int := hid (fun f => encP (pubQ f)) f
theorem zn7 (f : Nat → Int) : pubF f = encP (pubQ f) := by unfold pubF; rw [zb5]
theorem pub_mv (f : Nat → Int) : mv (evFn Tryz.prog envPu 1000000 Tryz.f6) [.ints .u8 32 f] = some (za4 32 (secS f) && true && true, .ints .u8 32 (encP (pMul (secS f) pB))) := by kernel_rfl
noncomputable def PublicP : zb1
  | [.ints .u8 32 f] => some (true, .ints .u8 32 (pubF f))
  | _ => none
theorem Public_ok : SoundM Tryz.prog 6 (za1 PublicP) := by
  refine (SoundM.of_ev envPu_ok mix (n := 1000000) (fn := Tryz.f6) (by kernel_rfl) (by kernel_rfl) (by kernel_rfl)).pure ?_
  intro args vc v h hvc
  unfold PublicP at h
  split at h
  · rename_i f
    cases h
    obtain ⟨r, h3, h4, h5⟩ := za8 (pub_mv f)
    exact ⟨rfl, rfl, r, h3, by rw [h4, zi8]; rfl, by rw [h5, zn7, pubQ_eq]⟩
  · cases h
noncomputable def envSt : Env := ((env0.set 16 (lift 0 digV)).set 13 (za1 sbaseP)).set 14 (za1 BytesP)
theorem envSt_ok : EnvOK Tryz.prog envSt := (((za0 _).set (Dig_ok.lift 0)).set sbase_ok).set PtBytes_ok
noncomputable def topM : Model := evFn Tryz.prog envSt 1000000 Tryz.f15
theorem topM_ok : SoundM Tryz.prog 15 topM := SoundM.of_ev envSt_ok mix (by kernel_rfl) (by kernel_rfl) (by kernel_rfl)
noncomputable def envSg : Env := ((envSt.set 12 (za1 secretP)).set 17 (za1 MulAddP)).set 15 topM
theorem envSg_ok : EnvOK Tryz.prog envSg := ((envSt_ok.set Secret_ok).set MulAdd_ok).set topM_ok
section
variable (f : Nat → Int) (n : Nat) (A : Nat → Int)
noncomputable def sgR1 : Nat → Int := rdF (shaH (32 + n) (catF 32 (sh0 (secX f)) A))
noncomputable def sgK0 (p q : Nat → Int) : Nat → Int := rdF (shaH (64 + n) (catF 64 (sh0 (catF 32 (sh0 p) (sh0 q))) A))
noncomputable def sgO0 (p e : Nat → Int) : Nat → Int := putF 32 32 (putF 0 32 (fun _ => 0) (sh0 p)) (sh0 e)
noncomputable def sgPt1 : Nat → Int := encP (pMul (sgR1 f n A) pB)
noncomputable def sgPu : Nat → Int := encP (pMul (secS f) pB)
noncomputable def sgK1 : Nat → Int := sgK0 n A (sgPt1 f n A) (sgPu f)
noncomputable def sgO1 : Nat → Int := sgO0 (sgPt1 f n A) (maF (sgK1 f n A) (secS f) (sgR1 f n A))
end
section
variable (f : Nat → Int) (t : T)
noncomputable def sgP : Bool := zr0 t && lenB (32 + txtN t : Nat)
noncomputable def sgP2 : Bool := zr0 t && lenB (64 + txtN t : Nat)
noncomputable def sgR0 : Nat → Int := sgR1 f (txtN t) (txtF t)
noncomputable def sgK : Nat → Int := sgK1 f (txtN t) (txtF t)
noncomputable def sgO : Nat → Int := sgO1 f (txtN t) (txtF t)
noncomputable def sgW1 : Bool := (za4 32 (sgR0 f t) && true) && (((sgP t && true) && true) && true)
noncomputable def sgW (K : Nat → Int) : Bool := ((za4 32 K && (za4 32 (secS f) && za4 32 (sgR0 f t))) && true) && (((sgP2 t && true) && true) && ((za4 32 (secS f) && true) && ((sgW1 f t && true) && true)))
end
noncomputable def sgC : Code := bodyC Tryz.f7
noncomputable def sgG (f : Nat → Int) (t : T) (x : T) : Heap := [some (.ints .u8 32 f), some x, some (.ints .u8 64 (sgO f t))]
theorem sg_tr (f : Nat → Int) (k : Nat) (F : Nat → T) (cp : Option Nat) (h : sgW f (.fsr 1 k F cp) (sgK f (.fsr 1 k F cp)) = true) :
    Tr Tryz.prog 0 sgC (stW 0 0 ([.ints .u8 32 f, .fsr 1 k F cp] ++ zb4 41) []) .ret (stW 0 0 (tmk [(4, .ptr 2 [])] 0 43) (sgG f (.fsr 1 k F cp) (.fsr 1 k F cp))) :=
  Tr.evW (n := 1000000) (N := 3) (keep := za2 [4]) (nm := 0) (vc := sgW f (.fsr 1 k F cp) (sgK f (.fsr 1 k F cp))) envSg_ok mix (by kernel_rfl) h rfl rfl rfl
theorem sg_tr0 (f : Nat → Int) (h : sgW f .nilslice (sgK f .nilslice) = true) :
    Tr Tryz.prog 0 sgC (stW 0 0 ([.ints .u8 32 f, .nilslice] ++ zb4 41) []) .ret (stW 0 0 (tmk [(4, .ptr 2 [])] 0 43) (sgG f .nilslice .nilslice)) :=
  Tr.evW (n := 1000000) (N := 3) (keep := za2 [4]) (nm := 0) (vc := sgW f .nilslice (sgK f .nilslice)) envSg_ok mix (by kernel_rfl) h rfl rfl rfl
theorem sgW_ok {f : Nat → Int} {t : T} (h1 : zr0 t = true) (h2 : lenB (64 + txtN t : Nat) = true) : sgW f t (sgK f t) = true := by
  have h3 : lenB (32 + txtN t : Nat) = true := by
    have := zp8 h2
    exact decide_eq_true (by omega)
  have b1 : za4 32 (sgK f t) = true := zg8 _
  have b2 : za4 32 (sgR0 f t) = true := zg8 _
  unfold sgW sgW1 sgP sgP2
  rw [b1, b2, zi8, h1, h2, h3]
  rfl
theorem sg_any (f : Nat → Int) (t : T) (x : T) (hx : ∀ ρ cs, (R ρ x).c cs → ∃ y, cs = [y]) (hs : x.size = 1) : St.le 0 (stW 0 0 (tmk [(4, .ptr 2 [])] 0 43) (sgG f t x)) (stW 0 0 (tmk [(4, .ptr 2 [])] 0 43) (sgG f t .any)) := by
  refine ⟨(fun _ _ _ h => h), rfl, rfl, (fun k t' hg => ?_), (fun k hg => ?_), (fun _ h => by omega), rfl, rfl⟩
  · rcases k with _ | _ | _ | k
    · exact ⟨t', hg, rfl, fun _ _ h => h⟩
    · cases hg
      refine ⟨x, rfl, hs, fun ρ cs hc => ?_⟩
      obtain ⟨y, rfl⟩ := hx ρ cs hc
      exact ⟨y, rfl, zt2 hc y List.mem_cons_self⟩
    · exact ⟨t', hg, rfl, fun _ _ h => h⟩
    · cases k <;> cases hg
  · rcases k with _ | _ | _ | k
    · cases hg
    · cases hg
    · cases hg
    · cases k <;> rfl
theorem sg_res (f : Nat → Int) (t x : T) : zb3 Tryz.prog (stW 0 0 (tmk [(4, .ptr 2 [])] 0 43) (sgG f t x)) Tryz.f7.results.toList = some (true, [.ints .u8 64 (sgO f t)], 4) := by kernel_rfl
noncomputable def sigF (f : Nat → Int) (n : Nat) (A : Nat → Int) : Nat → Int := hid sgO1 f n A
theorem sigF_eq (f : Nat → Int) (n : Nat) (A : Nat → Int) : sigF f n A = sgO1 f n A := by unfold sigF; rw [zb5]
noncomputable def signV0 : zc0
  | [.ints .u8 32 f, t] => some ⟨zr0 t && lenB (64 + txtN t : Nat), .ints .u8 64 (sigF f (txtN t) (txtF t)), sgG f t .any, true⟩
  | _ => none
theorem Sign0_ok : SoundV Tryz.prog 7 signV0 := by
  refine SoundV.of_tr (fn := Tryz.f7) (c := sgC) (by kernel_rfl) (by kernel_rfl) (by kernel_rfl) ?_
  intro args r hm hvc
  unfold signV0 at hm
  split at hm
  · rename_i f t
    cases hm
    simp only [Bool.and_eq_true] at hvc
    obtain ⟨h1, h2⟩ := hvc
    have hw := sgW_ok (f := f) h1 h2
    have h1' := h1
    unfold zr0 at h1'
    split at h1'
    · rename_i k F cp
      refine ⟨.ret, _, _, _, .inl rfl, (sg_tr f k F cp hw).weak (sg_any f _ _ (fun ρ cs hc => ?_) rfl), sg_res f _ _, ?_, rfl, fun _ => rfl⟩
      · obtain ⟨y, e, -⟩ := hc
        exact ⟨y, e⟩
      · rw [sigF_eq]; rfl
    · refine ⟨.ret, _, _, _, .inl rfl, (sg_tr0 f hw).weak (sg_any f _ _ (fun ρ cs hc => ?_) rfl), sg_res f _ _, ?_, rfl, fun _ => rfl⟩
      · obtain ⟨y, e, -⟩ := hc
        exact ⟨y, e⟩
      · rw [sigF_eq]; rfl
    · cases h1'
  · cases hm
noncomputable def signV : zc0 := frz 0 signV0
theorem Sign_ok : SoundV Tryz.prog 7 signV := Sign0_ok.frz 0
noncomputable def envVe : Env := ((((((env0.set 16 (lift 0 digV)).set 22 (za1 DecodeP)).set 23 (za1 FineP)).set 26 (za1 BaseP)).set 27 (za1 NegP)).set 25 (za1 BothP)).set 24 (za1 SameP)
theorem envVe_ok : EnvOK Tryz.prog envVe := (((((((za0 _).set (Dig_ok.lift 0)).set Decode_ok).set Fine_ok).set Base_pt).set Neg_pt).set Both_pt).set Same_pt
section
variable (p g : Nat → Int) (n : Nat) (A : Nat → Int) (t : T) (b : Bool)
def veT : Nat → Int := fun j => g (0 + j)
def veE : Nat → Int := fun j => g (32 + j)
noncomputable def veK : Nat → Int := sgK0 n A (veT g) p
noncomputable def veS : Bool := pSame (pBoth (veE g) pB (veK p g n A) (pNeg (decP p))) (decP (veT g))
noncomputable def veW0 : Bool := za4 32 p && true && (za4 32 (veT g) && true && true)
noncomputable def veWA : Bool := ((!decB (veT g)) == true) && true && veW0 p g
noncomputable def veWB : Bool := ((!decB (veT g)) == false) && (((!decB p) == true || false) && true) && veW0 p g
noncomputable def veWC : Bool := ((!decB (veT g)) == false) && (((!decB p) == false || false) && ((false || za4 32 (veE g)) && (((!fineB (veE g)) == b || false) && true))) && veW0 p g
noncomputable def veWD : Bool := ((za4 32 (veE g) && za4 32 (veK p g (txtN t) (txtF t))) && true) && (((sgP2 t && true) && true) && veWC p g false)
noncomputable def veA : zc0 := vEv (evFn Tryz.prog envVe ⟨1000000, [(31, true)]⟩ Tryz.f10)
noncomputable def veB : zc0 := vEv (evFn Tryz.prog envVe ⟨1000000, [(31, false), (34, true)]⟩ Tryz.f10)
noncomputable def veC : zc0 := vEv (evFn Tryz.prog envVe ⟨1000000, [(31, false), (34, false), (39, true)]⟩ Tryz.f10)
noncomputable def veD : zc0 := vEv (evFn Tryz.prog envVe ⟨1000000, [(31, false), (34, false), (39, false)]⟩ Tryz.f10)
theorem veA_s : SoundV Tryz.prog 10 veA := SoundV.of_model (SoundM.of_ev envVe_ok mix (by kernel_rfl) (by kernel_rfl) (by kernel_rfl))
theorem veB_s : SoundV Tryz.prog 10 veB := SoundV.of_model (SoundM.of_ev envVe_ok mix (by kernel_rfl) (by kernel_rfl) (by kernel_rfl))
theorem veC_s : SoundV Tryz.prog 10 veC := SoundV.of_model (SoundM.of_ev envVe_ok mix (by kernel_rfl) (by kernel_rfl) (by kernel_rfl))
theorem veD_s : SoundV Tryz.prog 10 veD := SoundV.of_model (SoundM.of_ev envVe_ok mix (by kernel_rfl) (by kernel_rfl) (by kernel_rfl))
theorem veA_v : frz 0 veA [.ints .u8 32 p, .ints .u8 64 g, .any] = some ⟨veWA p g && (true && true), .bool false, [], true⟩ := by kernel_rfl
theorem veB_v : frz 0 veB [.ints .u8 32 p, .ints .u8 64 g, .any] = some ⟨veWB p g && (true && true), .bool false, [], true⟩ := by kernel_rfl
theorem veC_v : frz 0 veC [.ints .u8 32 p, .ints .u8 64 g, .any] = some ⟨veWC p g true && (true && true), .bool false, [], true⟩ := by kernel_rfl
theorem veD_v (k : Nat) (F : Nat → T) (cp : Option Nat) : frz 0 veD [.ints .u8 32 p, .ints .u8 64 g, .fsr 1 k F cp] = some ⟨veWD p g (.fsr 1 k F cp) && (true && true), .bool (veS p g (txtN (.fsr 1 k F cp)) (txtF (.fsr 1 k F cp))), [], true⟩ := by kernel_rfl
theorem veD_0 : frz 0 veD [.ints .u8 32 p, .ints .u8 64 g, .nilslice] = some ⟨veWD p g .nilslice && (true && true), .bool (veS p g (txtN .nilslice) (txtF .nilslice)), [], true⟩ := by kernel_rfl
end
noncomputable def verB (p g : Nat → Int) (n : Nat) (A : Nat → Int) : Bool := hid (fun p g n A => ((decB (veT g) && decB p) && fineB (veE g)) && veS p g n A) p g n A
theorem zn4 (p g : Nat → Int) (n : Nat) (A : Nat → Int) : verB p g n A = (((decB (veT g) && decB p) && fineB (veE g)) && veS p g n A) := by unfold verB; rw [zb5]
noncomputable def verV : zc0
  | [.ints .u8 32 p, .ints .u8 64 g, t] => some ⟨(za4 32 p && za4 64 g) && (zr0 t && lenB (64 + txtN t : Nat)), .bool (verB p g (txtN t) (txtF t)), [], true⟩
  | _ => none
theorem Verify_ok : SoundV Tryz.prog 10 verV := by
  refine SoundV.refine fun args r hr hvc ρ xs hρ hargs => ?_
  unfold verV at hr
  split at hr
  · rename_i p g t
    cases hr
    simp only [Bool.and_eq_true] at hvc
    obtain ⟨⟨hp, hg⟩, h1, h2⟩ := hvc
    have hgb := za9 hg
    have hT : za4 32 (veT g) = true := zd5 fun i hi => by unfold veT; rw [Nat.zero_add]; exact hgb i (by omega)
    have hE : za4 32 (veE g) = true := zd5 fun i hi => hgb (32 + i) (by omega)
    have hw : veW0 p g = true := by unfold veW0; rw [hp, hT]; rfl
    have hany : VLs ρ [.ints .u8 32 p, .ints .u8 64 g, .any] xs := by
      obtain ⟨y, ys, e, hy, z, zs, e2, hz, x, xs', e3, hx, hn⟩ := hargs
      exact ⟨y, ys, e, hy, z, zs, e2, hz, x, xs', e3, trivial, hn⟩
    cases c1 : decB (veT g) with
    | false =>
      refine ⟨frz 0 veA, veA_s.frz 0, _, hany, _, veA_v p g, ?_, rfl, fun _ => rfl, fun ρ' x hx => ?_⟩
      · unfold veWA; rw [c1, hw]; rfl
      · show (R ρ' (.bool (verB p g (txtN t) (txtF t)))).v x
        rw [zn4, c1]; exact hx
    | true =>
      cases c2 : decB p with
      | false =>
        refine ⟨frz 0 veB, veB_s.frz 0, _, hany, _, veB_v p g, ?_, rfl, fun _ => rfl, fun ρ' x hx => ?_⟩
        · unfold veWB; rw [c1, c2, hw]; rfl
        · show (R ρ' (.bool (verB p g (txtN t) (txtF t)))).v x
          rw [zn4, c1, c2]; exact hx
      | true =>
        cases c3 : fineB (veE g) with
        | false =>
          refine ⟨frz 0 veC, veC_s.frz 0, _, hany, _, veC_v p g, ?_, rfl, fun _ => rfl, fun ρ' x hx => ?_⟩
          · unfold veWC; rw [c1, c2, c3, hw, hE]; rfl
          · show (R ρ' (.bool (verB p g (txtN t) (txtF t)))).v x
            rw [zn4, c1, c2, c3]; exact hx
        | true =>
          have hW : veWD p g t = true := by
            unfold veWD veWC sgP2
            rw [c1, c2, c3, hw, hE, h1, h2, show za4 32 (veK p g (txtN t) (txtF t)) = true from zg8 _]
            rfl
          have hv : verB p g (txtN t) (txtF t) = veS p g (txtN t) (txtF t) := by rw [zn4, c1, c2, c3]; rfl
          have h1' := h1
          unfold zr0 at h1'
          split at h1'
          · rename_i k F cp
            refine ⟨frz 0 veD, veD_s.frz 0, _, hargs, _, veD_v p g k F cp, by rw [hW]; rfl, rfl, fun _ => rfl, fun ρ' x hx => ?_⟩
            rw [hv]; exact hx
          · refine ⟨frz 0 veD, veD_s.frz 0, _, hargs, _, veD_0 p g, by rw [hW]; rfl, rfl, fun _ => rfl, fun ρ' x hx => ?_⟩
            rw [hv]; exact hx
          · cases h1'
  · cases hr
theorem putF_in {lo c : Nat} {f g : Nat → Int} {j : Nat} (h1 : lo ≤ j) (h2 : j < lo + c) : putF lo c f g j = g (j - lo) := by
  unfold putF
  rw [Nat.ble_eq_true_of_le h1, show Nat.blt j (lo + c) = true from Nat.ble_eq_true_of_le h2]
  rfl
theorem putF_out {lo c : Nat} {f g : Nat → Int} {j : Nat} (h : j < lo ∨ lo + c ≤ j) : putF lo c f g j = f j := by
  unfold putF
  have : (Nat.ble lo j && Nat.blt j (lo + c)) = false := by
    cases h1 : Nat.ble lo j with
    | false => rfl
    | true =>
      cases h2 : Nat.blt j (lo + c) with
      | false => rfl
      | true =>
        have a := Nat.le_of_ble_eq_true h1
        have b : j < lo + c := Nat.le_of_ble_eq_true h2
        omega
  rw [this]
  rfl
theorem sig_lo (f : Nat → Int) (n : Nat) (A : Nat → Int) {j : Nat} (hj : j < 32) : sigF f n A j = sgPt1 f n A j := by
  rw [sigF_eq]
  unfold sgO1 sgO0
  rw [putF_out (.inl hj), putF_in (Nat.zero_le _) (by omega), ze5, Nat.sub_zero]
theorem sig_hi (f : Nat → Int) (n : Nat) (A : Nat → Int) {j : Nat} (hj : j < 32) : sigF f n A (32 + j) = maF (sgK1 f n A) (secS f) (sgR1 f n A) j := by
  rw [sigF_eq]
  unfold sgO1 sgO0
  rw [putF_in (by omega) (by omega), ze5]
  congr 1
  omega
theorem sig_bd (f : Nat → Int) (n : Nat) (A : Nat → Int) {j : Nat} (hj : j < 64) : 0 ≤ sigF f n A j ∧ sigF f n A j < 256 := by
  by_cases h : j < 32
  · rw [sig_lo f n A h]
    exact encP_bd _ _
  · rw [show j = 32 + (j - 32) by omega, sig_hi f n A (by omega)]
    exact za9 (maF_bytes _ _ _) _ (by omega)
theorem sig_bytes (f : Nat → Int) (n : Nat) (A : Nat → Int) : za4 64 (sigF f n A) = true := zd5 fun i hi => sig_bd f n A hi
theorem veK_congr {p q g g' : Nat → Int} {n : Nat} {A B : Nat → Int} (hp : ∀ j, j < 32 → p j = q j) (hg : ∀ j, j < 32 → veT g j = veT g' j) (h : ∀ j, j < n → A j = B j) : veK p g n A = veK q g' n B := by
  unfold veK sgK0
  rw [shaH_congr fun j hj => ?_]
  rw [ze5, ze5, ze5, ze5, ze5, ze5]
  by_cases h1 : j < 64
  · rw [zc9 h1, zc9 h1]
    by_cases h2 : j < 32
    · rw [zc9 h2, zc9 h2, hg j h2]
    · rw [zd0 (by omega), zd0 (by omega), hp _ (by omega)]
  · rw [zd0 (by omega), zd0 (by omega), h _ (by omega)]
theorem hi_congr {a b : Nat → Int} (ha : za4 32 a = true) (h : ∀ j, j < 32 → a j = b j) : hi a 256 = hi b 256 := by
  have hb : za4 32 b = true := zd5 fun i hi => by rw [← h i hi]; exact za9 ha i hi
  rw [← zn9 ha, ← zn9 hb, zc6 32 h]
theorem neg_smul (p : Pt) (k : Nat) : (p.smul k).add (p.neg.smul k) = .zero := by
  rw [← smul_dist, Pt.add_neg, zr9]
theorem ver_sig (f : Nat → Int) (n : Nat) (A : Nat → Int) : verB (pubF f) (sigF f n A) n A = true := by
  have hT : ∀ j, j < 32 → veT (sigF f n A) j = sgPt1 f n A j := fun j hj => by unfold veT; rw [Nat.zero_add, sig_lo f n A hj]
  have hE : ∀ j, j < 32 → maF (sgK1 f n A) (secS f) (sgR1 f n A) j = veE (sigF f n A) j := fun j hj => by unfold veE; rw [sig_hi f n A hj]
  have d1 := dec_enc (pMul (sgR1 f n A) pB)
  have d2 := dec_enc (pubQ f)
  have c1 : decB (veT (sigF f n A)) = true := by rw [zs8, dOk_congr hT]; exact d1.1
  have p1 : decP (veT (sigF f n A)) = pMul (sgR1 f n A) pB := by rw [decP_congr hT]; exact d1.2
  have c2 : decB (pubF f) = true := by rw [zs8, zn7]; exact d2.1
  have p2 : decP (pubF f) = pubQ f := by rw [zn7]; exact d2.2
  have c3 : fineB (veE (sigF f n A)) = true := by
    rw [fineB_eq, decide_eq_true_eq, ← zc6 32 hE, zn9 (maF_bytes _ _ _), maF_hi]
    exact maNum_lt _ _ _
  have hK : veK (pubF f) (sigF f n A) n A = sgK1 f n A := by
    have h1 : ∀ j, j < 32 → veT (sigF f n A) j = veT (sgPt1 f n A) j := fun j hj => by rw [hT j hj]; unfold veT; rw [Nat.zero_add]
    rw [veK_congr (fun _ _ => rfl) h1 (fun _ _ => rfl)]
    unfold veK sgK1 veT sgPu
    rw [zn7, pubQ_eq]
    congr 1
    funext j
    rw [Nat.zero_add]
  rw [zn4, c1, c2, c3]
  unfold veS
  rw [hK, p1, p2]
  show pSame _ _ = true
  rw [pSame_iff, pBoth_eq, pNeg_eq, pubQ_eq, zk6, zk6, ← hi_congr (maF_bytes _ _ _) hE, maF_hi, pB_eq]
  unfold maNum
  have b1 : za4 32 (sgK1 f n A) = true := zg8 _
  have b2 : za4 32 (sgR1 f n A) = true := zg8 _
  rw [zn9 b1, zn9 (zi8 f), zn9 b2, smul_mod base_order, zh0, Nat.mul_comm, zm6]
  generalize Pt.base.smul (hi (secS f) 256) = Q
  generalize Pt.base.smul (hi (sgR1 f n A) 256) = S
  rw [Pt.add_comm (Q.smul _) S, Pt.add_assoc, neg_smul, Pt.add_zero]
def goB (k : Nat) : Q4 := Q4.go 256 k ⟨bx, by', 1, bx * by'⟩ ⟨0, 1, 1, 0⟩
theorem goB_is {k : Nat} (hk : k < 2 ^ 256) : (goB k).is (Pt.base.smul k) := by
  have h := Q4.is_go 256 k ⟨bx, by', 1, bx * by'⟩ ⟨0, 1, 1, 0⟩ .base .zero hk (ext_of .base) ext_zero
  rw [Pt.zero_add] at h
  exact h
theorem pt_cert {k : Nat} {x y : F} (hk : k < 2 ^ 256) (h : (goB k).x = x * (goB k).z ∧ (goB k).y = y * (goB k).z) : (Pt.base.smul k).x = x ∧ (Pt.base.smul k).y = y := by
  have hi := goB_is hk
  generalize goB k = q at *
  obtain ⟨z0, hx, hy, -⟩ := hi
  exact ⟨zg1 z0 (hx.symm.trans h.1), zg1 z0 (hy.symm.trans h.2)⟩
def encL (x y : F) (j : Nat) : Int := zb6 y j + (if j = 31 ∧ x.val % 2 = 1 then 128 else 0)
theorem enc_of {p : Pt} {x y : F} (h : p.x = x ∧ p.y = y) {j : Nat} (hj : j < 32) : encP p j = encL x y j := by
  unfold encL
  by_cases e : j = 31
  · subst e
    rw [encP_31, h.1, h.2, zn8]
    simp only [decide_eq_true_eq, true_and]
  · rw [encP_ne p e, h.2, if_neg (fun h => e h.1), Int.add_zero]
theorem awA_pt : (Pt.base.smul awS).x = toF awAx ∧ (Pt.base.smul awS).y = toF awAy := pt_cert (by decide +kernel) (by decide +kernel)
theorem awR_pt : (Pt.base.smul awR).x = toF awRx ∧ (Pt.base.smul awR).y = toF awRy := pt_cert (by decide +kernel) (by decide +kernel)
theorem awA_enc : ∀ j, j < 32 → encL (toF awAx) (toF awAy) j = awAl.getD j 0 := by decide +kernel
theorem awR_enc : ∀ j, j < 32 → encL (toF awRx) (toF awRy) j = awRl.getD j 0 := by decide +kernel
theorem awM_x : (goB awM).x ≠ 0 := by decide +kernel
theorem awM_ne : Pt.base.smul awM ≠ .zero := fun h => by
  have hi := goB_is (k := awM) (by decide +kernel)
  rw [h] at hi
  refine awM_x ?_
  rw [hi.hx]
  show (0 : F) * _ = 0
  grobner
theorem aw_secS0 : ∀ j, j < 32 → secS0 (fun i => (gN aw1O i : Nat)) j = awSl.getD j 0 := by decide +kernel
theorem aw_12 : ∀ j, j < 32 → ((gN aw1O (32 + j) : Nat) : Int) = aw2B.getD j 0 := by decide +kernel
theorem aw_3R : ∀ j, j < 32 → awRl.getD j 0 = aw3B.getD j 0 := by decide +kernel
theorem aw_3A : ∀ j, j < 32 → awAl.getD j 0 = aw3B.getD (32 + j) 0 := by decide +kernel
theorem aw_4R : ∀ j, j < 32 → awRl.getD j 0 = aw4B.getD j 0 := by decide +kernel
theorem aw_4A : ∀ j, j < 32 → awAl.getD j 0 = aw4B.getD (32 + j) 0 := by decide +kernel
theorem aw_S : natB 256 (fun j => awSl.getD j 0) 32 = awS := by decide +kernel
theorem aw_R : natB 256 (fun i => (gN aw2O i : Nat)) 64 % L = awR := by decide +kernel
theorem aw_K : natB 256 (fun i => (gN aw3O i : Nat)) 64 % L = awK := by decide +kernel
theorem aw_K2 : natB 256 (fun i => (gN aw4O i : Nat)) 64 % L = awK2 := by decide +kernel
theorem aw_M : (awK + (L - awK2)) * awS % L = awM := by decide +kernel
theorem rd_of {t : Nat} {f : Nat → Int} {o : List Nat} {r : Nat} (h : ∀ i, i < 64 → shaH t f i = (gN o i : Nat)) (hr : natB 256 (fun i => (gN o i : Nat)) 64 % L = r) : hi (rdF (shaH t f)) 256 = r := by
  rw [rdF_hi, rdN_eq (za9 (shaH_bytes t f 64)), zc6 64 h, hr]
section
variable {f : Nat → Int} (hf : ∀ i, i < 32 → f i = aw1B.getD i 0)
include hf
theorem aw_D : ∀ i, i < 64 → shaH 32 f i = (gN aw1O i : Nat) := aw1_sha hf
theorem aw_sec : ∀ j, j < 32 → secS f j = awSl.getD j 0 := by
  intro j hj
  have hd := aw_D hf
  rw [secS_eq, secD_eq, ← aw_secS0 j hj]
  unfold secS0
  rw [hd (0 + 31) (by omega), hd (0 + 0) (by omega), hd (0 + j) (by omega)]
theorem aw_x : ∀ j, j < 32 → secX f j = aw2B.getD j 0 := by
  intro j hj
  rw [secX_eq, secD_eq]
  show shaH 32 f (32 + j) = _
  rw [aw_D hf _ (by omega), aw_12 j hj]
theorem aw_s : hi (secS f) 256 = awS := by
  rw [← zn9 (zi8 f), zc6 32 (aw_sec hf), aw_S]
theorem aw_pub : pubQ f = Pt.base.smul awS := by rw [pubQ_eq, zk6, pB_eq, aw_s hf]
theorem aw_pubF : ∀ j, j < 32 → pubF f j = awAl.getD j 0 := by
  intro j hj
  rw [zn7, aw_pub hf, enc_of awA_pt hj, awA_enc j hj]
theorem aw_r (A : Nat → Int) : hi (sgR1 f 0 A) 256 = awR := by
  unfold sgR1
  refine rd_of (o := aw2O) (aw2_sha fun i hi => ?_) aw_R
  rw [zc9 hi, ze5, aw_x hf i hi]
theorem aw_top (A : Nat → Int) : ∀ j, j < 32 → sgPt1 f 0 A j = awRl.getD j 0 := by
  intro j hj
  unfold sgPt1
  rw [zk6, pB_eq, aw_r hf A, enc_of awR_pt hj, awR_enc j hj]
theorem aw_k (A : Nat → Int) : hi (sgK1 f 0 A) 256 = awK := by
  unfold sgK1 sgK0
  refine rd_of (o := aw3O) (aw3_sha fun i hi => ?_) aw_K
  rw [zc9 (by omega), ze5, ze5, ze5]
  by_cases h : i < 32
  · rw [zc9 h, aw_top hf A i h, aw_3R i h]
  · rw [zd0 (by omega)]
    have e : sgPu f = pubF f := by rw [zn7, pubQ_eq]; rfl
    rw [e, aw_pubF hf _ (by omega), aw_3A _ (by omega), show 32 + (i - 32) = i by omega]
theorem aw_k2 (A B : Nat → Int) (hB : B 0 = 1) : hi (veK (pubF f) (sigF f 0 A) 1 B) 256 = awK2 := by
  unfold veK sgK0
  refine rd_of (o := aw4O) (aw4_sha fun i hi => ?_) aw_K2
  by_cases h0 : i < 64
  · rw [zc9 h0, ze5, ze5, ze5]
    by_cases h : i < 32
    · rw [zc9 h]
      unfold veT
      rw [Nat.zero_add, sig_lo f 0 A h, aw_top hf A i h, aw_4R i h]
    · rw [zd0 (by omega), aw_pubF hf _ (by omega), aw_4A _ (by omega), show 32 + (i - 32) = i by omega]
  · have : i = 64 := by omega
    subst this
    rw [zd0 (by omega), Nat.sub_self, hB]
    rfl
theorem aw_p (A : Nat → Int) : pubF f 0 = 215 ∧ pubF f 1 = 90 ∧ pubF f 2 = 152 ∧ pubF f 3 = 1 := by
  rw [aw_pubF hf 0 (by decide), aw_pubF hf 1 (by decide), aw_pubF hf 2 (by decide), aw_pubF hf 3 (by decide)]
  decide +kernel
theorem aw_g (A : Nat → Int) : sigF f 0 A 0 = 229 ∧ sigF f 0 A 1 = 86 ∧ sigF f 0 A 2 = 67 ∧ sigF f 0 A 3 = 0 := by
  rw [sig_lo f 0 A (by decide), sig_lo f 0 A (by decide), sig_lo f 0 A (by decide), sig_lo f 0 A (by decide), aw_top hf A 0 (by decide), aw_top hf A 1 (by decide), aw_top hf A 2 (by decide), aw_top hf A 3 (by decide)]
  decide +kernel
end
theorem sig_eq (f : Nat → Int) (n : Nat) (A : Nat → Int) : Pt.base.smul (hi (veE (sigF f n A)) 256) = ((pubQ f).smul (hi (sgK1 f n A) 256)).add (Pt.base.smul (hi (sgR1 f n A) 256)) := by
  have hE : ∀ j, j < 32 → maF (sgK1 f n A) (secS f) (sgR1 f n A) j = veE (sigF f n A) j := fun j hj => by unfold veE; rw [sig_hi f n A hj]
  have b1 : za4 32 (sgK1 f n A) = true := zg8 _
  have b2 : za4 32 (sgR1 f n A) = true := zg8 _
  rw [← hi_congr (maF_bytes _ _ _) hE, maF_hi]
  unfold maNum
  rw [zn9 b1, zn9 (zi8 f), zn9 b2, smul_mod base_order, zh0, Nat.mul_comm, zm6, pubQ_eq, zk6, pB_eq]
theorem aw_not {f : Nat → Int} (hf : ∀ i, i < 32 → f i = aw1B.getD i 0) (A B : Nat → Int) (hB : B 0 = 1) : verB (pubF f) (sigF f 0 A) 1 B = false := by
  cases hc : verB (pubF f) (sigF f 0 A) 1 B with
  | false => rfl
  | true =>
    exfalso
    rw [zn4] at hc
    simp only [Bool.and_eq_true] at hc
    have hv : pSame _ _ = true := hc.2
    have hT : ∀ j, j < 32 → veT (sigF f 0 A) j = sgPt1 f 0 A j := fun j hj => by unfold veT; rw [Nat.zero_add, sig_lo f 0 A hj]
    have p1 : decP (veT (sigF f 0 A)) = pMul (sgR1 f 0 A) pB := by rw [decP_congr hT]; exact (dec_enc (pMul (sgR1 f 0 A) pB)).2
    have p2 : decP (pubF f) = pubQ f := by rw [zn7]; exact (dec_enc (pubQ f)).2
    rw [pSame_iff, p1, p2, pBoth_eq, pNeg_eq, zk6, pB_eq, sig_eq, aw_k hf, aw_k2 hf A B hB, Pt.add_comm ((pubQ f).smul awK), Pt.add_assoc] at hv
    have h0 : ((pubQ f).smul awK).add ((pubQ f).neg.smul awK2) = .zero := zt0 (hv.trans (Pt.add_zero _).symm)
    have hl : awK2 + (L - awK2) = L := by decide +kernel
    have hL : (pubQ f).smul L = .zero := by rw [aw_pub hf, ← zm6, Nat.mul_comm, zm6, base_order, zr9]
    -- the opposite, so many times, is itself L - k2 times
    have hn : (pubQ f).neg.smul awK2 = (pubQ f).smul (L - awK2) := by
      refine zt0 (p := (pubQ f).smul awK2) ?_
      rw [neg_smul, ← zh0, hl, hL]
    rw [hn, ← zh0, aw_pub hf, ← zm6, ← smul_mod base_order, Nat.mul_comm, aw_M] at h0
    exact awM_ne h0
noncomputable def envAw : Env := ((env0.set 6 (za1 PublicP)).set 7 (lift 0 signV)).set 10 (lift 1 verV)
theorem envAw_ok : EnvOK Tryz.prog envAw := (((za0 _).set Public_ok).set (Sign_ok.lift 0)).set (Verify_ok.lift 1)
noncomputable def awM6 : Model := evFn Tryz.prog envAw ⟨1000000, [(11, true), (15, true), (20, true), (25, true), (30, true), (35, true), (40, true), (45, true), (50, true), (58, true)]⟩ Tryz.f5
theorem awM6_ok : SoundM Tryz.prog 5 awM6 := SoundM.of_ev envAw_ok mix (by kernel_rfl) (by kernel_rfl) (by kernel_rfl)
def awSeed : Nat → Int := litF (aw1B.take 32) 0 fun _ => 0
theorem awSeed_ok : ∀ i, i < 32 → awSeed i = aw1B.getD i 0 := by decide +kernel
noncomputable def awPk : Nat → Int := pubF awSeed
noncomputable def awSg : Nat → Int := sigF awSeed 0 fun _ => 0
def awTx : Nat → Int := catF 0 (fun _ => 0) fun j => (fun j => bif Nat.beq j 0 then 1 else 0) (0 + j)
noncomputable def awVb : Bool := ((za4 32 awPk && za4 64 awSg) && true) && true
noncomputable def awVc : Bool := (((awPk 0 == 215) == true) && (((awPk 1 == 90) == true || false) && (((awPk 2 == 152) == true || false) && (((awPk 3 == 1) == true || false) && (((awSg 0 == 229) == true || false) && (((awSg 1 == 86) == true || false) &&
  (((awSg 2 == 67) == true || false) && (((awSg 3 == 0) == true || false) && ((awVb && ((verB awPk awSg 0 (fun _ => 0) == true) || false)) && (awVb && ((((!verB awPk awSg 1 awTx) == true) || false) && true))))))))))) && true
theorem awake8_mv : mv awM6 [] = some (awVc, .bool true) := by kernel_rfl
theorem awVc_ok : awVc = true := by
  obtain ⟨p0, p1, p2, p3⟩ := aw_p awSeed_ok (fun _ => 0)
  obtain ⟨g0, g1, g2, g3⟩ := aw_g awSeed_ok (fun _ => 0)
  have hv : awVb = true := by
    unfold awVb
    rw [show za4 32 awPk = true from by unfold awPk; rw [zn7]; exact encP_bytes _, show za4 64 awSg = true from sig_bytes _ _ _]
    rfl
  have h1 : verB awPk awSg 0 (fun _ => 0) = true := ver_sig _ _ _
  have h2 : verB awPk awSg 1 awTx = false := aw_not awSeed_ok _ _ rfl
  unfold awVc
  rw [hv, h1, h2]
  unfold awPk awSg
  rw [p0, p1, p2, p3, g0, g1, g2, g3]
  rfl
noncomputable def awakeP : zb1
  | [] => some (true, .bool true)
  | _ => none
theorem awake8_ok : SoundM Tryz.prog 5 (za1 awakeP) := by
  refine awM6_ok.pure ?_
  intro args vc v h hvc
  unfold awakeP at h
  split at h
  · cases h
    obtain ⟨r, h3, h4, h5⟩ := za8 awake8_mv
    exact ⟨rfl, rfl, r, h3, by rw [h4, awVc_ok], h5⟩
  · cases h
def bwB (a b : Nat → Int) : Nat → Bool
  | 0 => false
  | k + 1 => bif a k == b k then bwB a b k else decide (a k < b k)
theorem bwB_nat {a b : Nat → Int} (ha : ∀ i, i < 32 → 0 ≤ a i ∧ a i < 256) (hb : ∀ i, i < 32 → 0 ≤ b i ∧ b i < 256) : ∀ k, k ≤ 32 → bwB a b k = decide (natB 256 a k < natB 256 b k)
  | 0, _ => rfl
  | k + 1, hk => by
    have h1 := zd2 (B := 256) (f := a) k (fun i hi => ha i (by omega))
    have h2 := zd2 (B := 256) (f := b) k (fun i hi => hb i (by omega))
    have h3 := ha k (by omega)
    have h4 := hb k (by omega)
    unfold bwB natB
    rw [bwB_nat ha hb k (by omega)]
    generalize natB 256 a k = x at *
    generalize natB 256 b k = y at *
    generalize 256 ^ k = p at *
    obtain ⟨u, hu⟩ := Int.eq_ofNat_of_zero_le h3.1
    obtain ⟨v, hv⟩ := Int.eq_ofNat_of_zero_le h4.1
    rw [hu, hv] at *
    simp only [Int.toNat_natCast]
    by_cases e : u = v
    · subst e
      simp
    · rw [show (((u : Int) == (v : Int)) = false) from by simp; omega, cond_false]
      rcases Nat.lt_or_gt_of_ne e with h | h
      · have : p * (u + 1) ≤ p * v := Nat.mul_le_mul_left _ h
        rw [Nat.mul_add, Nat.mul_one] at this
        rw [decide_eq_true (by omega), decide_eq_true (by omega)]
      · have : p * (v + 1) ≤ p * u := Nat.mul_le_mul_left _ h
        rw [Nat.mul_add, Nat.mul_one] at this
        rw [decide_eq_false (by omega), decide_eq_false (by omega)]
def w2 : F := 3 * (d * 4 + 1)
noncomputable def bwC : Code := bodyC Tryz.f75
noncomputable def bwX : Code := postC 1 bwC
noncomputable def bwL : Code := cB (cB (cR (cL bwX)))
theorem bwX_eq : bwX = .seq (.seq (cL (cL bwX)) (.block 0 (.loop bwL))) (cR bwX) := by kernel_rfl
section
variable (a b : Nat → Int) (i : Int) (r : Bool)
def bwG : Heap := [some (.ints .u8 32 a), some (.ints .u8 32 b)]
def bwT (i : Int) : List T := tmk [(2, .ptr 0 []), (3, .ptr 1 []), (4, .bool false), (5, .num i)] 0 24
def bwE (r : Bool) : List T := tmk [(4, .bool r)] 0 24
theorem bw_0 : (za3 Tryz.prog env0 1000000 (preC 1 bwC) (stW 0 0 ([.ints .u8 32 a, .ints .u8 32 b] ++ zb4 22) [])).map (cutPW 0 0 (za2 [2, 3, 4]) 0) = some (.normal, true, tmk [(2, .ptr 0 []), (3, .ptr 1 []), (4, .bool false)] 0 24, bwG a b, true) := by kernel_rfl
def bwV (c : Bool) : Bool := decide (0 ≤ i ∧ i < 32) && (decide (i.toNat < 32) && true && (decide (0 ≤ i ∧ i < 32) && (decide (i.toNat < 32) && true && ((!a i.toNat == b i.toNat) == c && true)))) && (decide (i ≥ 0) == true && true && true)
theorem bw_i : Tr Tryz.prog 0 (cL (cL bwX)) (stW 0 0 (tmk [(2, .ptr 0 []), (3, .ptr 1 []), (4, .bool false)] 0 24) (bwG a b)) .normal (stW 0 0 (bwT 31) (bwG a b)) :=
  Tr.evW (n := 1000000) (N := 2) (keep := za2 [2, 3, 4, 5]) (nm := za2 [5]) (vc := true) (za0 _) mix (by kernel_rfl) rfl rfl rfl rfl
theorem bw_s (hv : (decide (-9223372036854775808 ≤ i - 1 ∧ i - 1 ≤ 9223372036854775807) && true && bwV a b i false) = true) : Tr Tryz.prog 0 bwL (stW 0 0 (bwT i) (bwG a b)) .normal (stW 0 0 (bwT (i - 1)) (bwG a b)) :=
  Tr.evW (n := ⟨1000000, [(7, true), (16, false)]⟩) (N := 2) (keep := za2 [2, 3, 4, 5]) (nm := za2 [5]) (vc := decide (-9223372036854775808 ≤ i - 1 ∧ i - 1 ≤ 9223372036854775807) && true && bwV a b i false) (za0 _) mix (by kernel_rfl) hv rfl rfl rfl
theorem bw_r (hv : (decide (0 ≤ i ∧ i < 32) && (decide (i.toNat < 32) && true && (decide (0 ≤ i ∧ i < 32) && (decide (i.toNat < 32) && true && true))) && bwV a b i true) = true) : Tr Tryz.prog 0 bwL (stW 0 0 (bwT i) (bwG a b)) .ret (stW 0 0 (bwE (decide (a i.toNat < b i.toNat))) (bwG a b)) :=
  Tr.evW (n := ⟨1000000, [(7, true), (16, true)]⟩) (N := 2) (keep := za2 [4]) (nm := 0) (vc := decide (0 ≤ i ∧ i < 32) && (decide (i.toNat < 32) && true && (decide (0 ≤ i ∧ i < 32) && (decide (i.toNat < 32) && true && true))) && bwV a b i true) (za0 _) mix (by kernel_rfl) hv rfl rfl rfl
theorem bw_x : Tr Tryz.prog 0 bwL (stW 0 0 (bwT (-1)) (bwG a b)) (.exit 0) (stW 0 0 (bwT (-1)) (bwG a b)) :=
  Tr.evW (n := 1000000) (N := 2) (keep := za2 [2, 3, 4, 5]) (nm := za2 [5]) (vc := true) (za0 _) mix (by kernel_rfl) rfl rfl rfl rfl
theorem bw_f : Tr Tryz.prog 0 (cR bwX) (stW 0 0 (bwT i) (bwG a b)) .ret (stW 0 0 (bwE false) (bwG a b)) :=
  Tr.evW (n := 1000000) (N := 2) (keep := za2 [4]) (nm := 0) (vc := true) (za0 _) mix (by kernel_rfl) rfl rfl rfl rfl
theorem bw_res : zb3 Tryz.prog (stW 0 0 (bwE r) (bwG a b)) Tryz.f75.results.toList = some (true, [.bool r], 0) := by kernel_rfl
theorem bw_loop : ∀ k : Nat, k ≤ 32 → ∃ n e s, TrN Tryz.prog 0 bwL n (stW 0 0 (bwT ((k : Int) - 1)) (bwG a b)) e s ∧ ((e = .ret ∧ s = stW 0 0 (bwE (bwB a b k)) (bwG a b)) ∨ (e = .exit 0 ∧ s = stW 0 0 (bwT (-1)) (bwG a b) ∧ bwB a b k = false))
  | 0, _ => ⟨1, _, _, TrN.done (bw_x a b) (by intro h; cases h), .inr ⟨rfl, rfl, rfl⟩⟩
  | k + 1, hk => by
    have e : ((k + 1 : Nat) : Int) - 1 = (k : Int) := by omega
    rw [e]
    cases h : a k == b k with
    | true =>
      obtain ⟨n, ex, s, h1, h2⟩ := bw_loop k (by omega)
      refine ⟨n + 1, ex, s, TrN.next (bw_s a b k ?_) h1, ?_⟩
      · unfold bwV
        rw [Int.toNat_natCast, h]
        simp only [Bool.and_true, Bool.and_eq_true, decide_eq_true_eq, beq_iff_eq, Bool.not_true, and_true]
        omega
      · unfold bwB
        rw [h]
        exact h2
    | false =>
      refine ⟨1, _, _, TrN.done (bw_r a b k ?_) (by intro h; cases h), .inl ⟨rfl, ?_⟩⟩
      · unfold bwV
        rw [Int.toNat_natCast, h]
        simp only [Bool.and_true, Bool.and_eq_true, decide_eq_true_eq, beq_iff_eq, Bool.not_false, and_true]
        omega
      · unfold bwB
        rw [h, Int.toNat_natCast]
        rfl
theorem bw_run : Tr Tryz.prog 0 bwC (stW 0 0 ([.ints .u8 32 a, .ints .u8 32 b] ++ zb4 22) []) .ret (stW 0 0 (bwE (bwB a b 32)) (bwG a b)) := by
  refine Tr.preW (za0 _) mix 0 1 (za2 [2, 3, 4]) 0 (bw_0 a b) rfl rfl ?_
  show Tr Tryz.prog 0 bwX _ _ _
  rw [bwX_eq]
  obtain ⟨n, e, s, h1, h2⟩ := bw_loop a b 32 (by omega)
  rcases h2 with ⟨rfl, rfl⟩ | ⟨rfl, rfl, h3⟩
  · exact Tr.seqX (Tr.seq (bw_i a b) (Tr.block (Tr.loop h1) (by intro i h; cases h))) (by intro h; cases h)
  · refine Tr.seq (Tr.seq (bw_i a b) (Tr.blockX (Tr.loop h1))) ?_
    rw [h3]
    exact bw_f a b _
end
noncomputable def bwH (a b : Nat → Int) : Bool := hid bwB a b 32
theorem bwH_eq (a b : Nat → Int) : bwH a b = bwB a b 32 := by unfold bwH; rw [zb5]
noncomputable def BelowP : zb1
  | [.ints .u8 32 a, .ints .u8 32 b] => some (true, .bool (bwH a b))
  | _ => none
theorem Below_ok : SoundM Tryz.prog 75 (za1 BelowP) := by
  refine SoundM.of_tr0 (fn := Tryz.f75) (c := bwC) (by kernel_rfl) (by kernel_rfl) (by kernel_rfl) ?_
  intro args vc v hm hvc
  unfold BelowP at hm
  split at hm
  · rename_i a b
    cases hm
    refine ⟨rfl, rfl, .ret, _, _, _, .inl rfl, bw_run a b, bw_res a b _, ?_⟩
    rw [bwH_eq]; rfl
  · cases hm
def ordL : Nat → Int := litF [237, 211, 245, 92, 26, 99, 18, 88, 214, 156, 247, 162, 222, 249, 222, 20, 0, 0, 0, 0, 0, 0, 0, 0, 0, 0, 0, 0, 0, 0, 0, 16] 0 fun _ => 0
noncomputable def ROrderP : zb1
  | [] => some (true, .ints .u8 32 ordL)
  | _ => none
theorem ROrder_mv : mv (evFn Tryz.prog env0 10 Tryz.f76) [] = some (true, .ints .u8 32 ordL) := by kernel_rfl
theorem ROrder_ok : SoundM Tryz.prog 76 (za1 ROrderP) := by
  refine (SoundM.of_ev (za0 _) mix (n := 10) (fn := Tryz.f76) (by kernel_rfl) (by kernel_rfl) (by kernel_rfl)).pure ?_
  intro args vc v h hvc
  unfold ROrderP at h
  split at h
  · cases h
    obtain ⟨r, h3, h4, h5⟩ := za8 ROrder_mv
    exact ⟨rfl, rfl, r, h3, h4, h5⟩
  · cases h
noncomputable def envRf : Env := (env0.set 75 (za1 BelowP)).set 76 (za1 ROrderP)
theorem envRf_ok : EnvOK Tryz.prog envRf := ((za0 _).set Below_ok).set ROrder_ok
noncomputable def RFineP : zb1
  | [.ints .u8 32 a] => some (true, .bool (bwH a ordL))
  | _ => none
theorem RFine_mv (a : Nat → Int) : mv (evFn Tryz.prog envRf 1000000 Tryz.f29) [.ints .u8 32 a] = some (true, .bool (bwH a ordL)) := by kernel_rfl
theorem RFine_ok : SoundM Tryz.prog 29 (za1 RFineP) := by
  refine (SoundM.of_ev envRf_ok mix (n := 1000000) (fn := Tryz.f29) (by kernel_rfl) (by kernel_rfl) (by kernel_rfl)).pure ?_
  intro args vc v h hvc
  unfold RFineP at h
  split at h
  · cases h
    obtain ⟨r, h3, h4, h5⟩ := za8 (RFine_mv _)
    exact ⟨rfl, rfl, r, h3, h4, h5⟩
  · cases h
theorem ordL_bytes : ∀ i, i < 32 → 0 ≤ ordL i ∧ ordL i < 256 := by decide +kernel
theorem ordL_nat : natB 256 ordL 32 = L := by decide +kernel
theorem rfine_eq {a : Nat → Int} (h : za4 32 a = true) : bwH a ordL = fineB a := by
  rw [bwH_eq, bwB_nat (za9 h) ordL_bytes 32 (Nat.le_refl _), ordL_nat, fineB_eq]
noncomputable def holds (p : Prop) : Bool := @decide p (Classical.propDecidable p)
theorem holds_of {p : Prop} (h : p) : holds p = true := @decide_eq_true p (Classical.propDecidable p) h
theorem of_holds {p : Prop} (h : holds p = true) : p := @of_decide_eq_true p (Classical.propDecidable p) h
noncomputable def twC : Code := bodyC Tryz.f86
noncomputable def twL : Code := cB (cB (cR (cL (cR (cR (cR twC))))))
noncomputable def lsC2 : Code := bodyC Tryz.f87
noncomputable def lsL2 : Code := cB (cB (cR (cL (cR (cR (cR lsC2))))))
def twT (c : Int) : List (Nat × T) := [(2, .ptr 0 []), (4, .ptr 1 []), (5, .ptr 2 []), (6, .int .u8 c)]
def twTi (c i : Int) : List (Nat × T) := [(2, .ptr 0 []), (4, .ptr 1 []), (5, .ptr 2 []), (6, .int .u8 c), (7, .num i)]
def twG (a z o : Nat → Int) : Heap := [some (.ints .u8 32 a), some (.ints .u8 32 z), some (.ints .u8 32 o)]
def leTb (c : Int) : List (Nat × T) := [(2, .ptr 0 []), (3, .ptr 1 []), (4, .ptr 2 []), (5, .ptr 3 []), (6, .num c)]
def leTi (c i : Int) : List (Nat × T) := [(2, .ptr 0 []), (3, .ptr 1 []), (4, .ptr 2 []), (5, .ptr 3 []), (6, .num c), (7, .num i)]
def leGb (a b z o : Nat → Int) : Heap := [some (.ints .u8 32 a), some (.ints .u8 32 b), some (.ints .u8 32 z), some (.ints .u8 32 o)]
theorem tw_0 (a : Nat → Int) (b : Int) : (za3 Tryz.prog env0 ⟨1000000, []⟩ (preC 3 (twC)) (stW 0 0 (tmk ([(0, .ints .u8 32 a), (1, .int .u8 b)]) 0 27) ([]))).map (cutPW 0 0 (za2 [2, 4, 5, 6]) (za2 [])) =
    some (.normal, true, (tmk (twT b) 0 27), twG a (fun _ => 0) (fun _ => 0), true) := by kernel_rfl
theorem tw_3 (a z o : Nat → Int) (c : Int) : Tr Tryz.prog 0 (cL (cL (cR (cR (cR twC))))) (stW 0 0 (tmk (twT c) 0 27) (twG a z o)) (.normal) (stW 0 0 (tmk (twTi c 0) 0 27) (twG a z o)) :=
  Tr.evW (n := ⟨1000000, []⟩) (N := 3) (keep := za2 [2, 4, 5, 6, 7]) (nm := za2 [7]) (vc := true) (za0 _) mix (by kernel_rfl) rfl rfl rfl (rfl)
noncomputable def tw_sV (a z o : Nat → Int) (c : Int) (i : Int) : Bool := (decide (-9223372036854775808 ≤ i + 1 ∧ i + 1 ≤ 9223372036854775807) && true && (decide (0 ≤ i ∧ i < (↑32 : Int)) && (decide (i.toNat < 32) && true && true) && (decide (0 ≤ i ∧ i < (↑32 : Int)) && (decide (i.toNat < 32) && true && (decide (0 ≤ i ∧ i < (↑32 : Int)) && (decide (i.toNat < 32) && true && true))) && (decide (i < 32) == true && true && true))))
theorem tw_s (a z o : Nat → Int) (c : Int) (i : Int) (hv : tw_sV a z o c i = true) : Tr Tryz.prog 0 (twL) (stW 0 0 (tmk (twTi c i) 0 27) (twG a z o)) (.normal) (stW 0 0 (tmk (twTi (shrI .u8 (a i.toNat) 7) (i + 1)) 0 27) (twG a z (upd o i.toNat (IntKind.u8.wrap (shlI .u8 (a i.toNat) 1 + c))))) :=
  Tr.evW (n := ⟨1000000, [(11, true)]⟩) (N := 3) (keep := za2 [2, 4, 5, 6, 7]) (nm := za2 [7]) (vc := tw_sV a z o c i) (za0 _) mix (by kernel_rfl) hv rfl rfl (rfl)
noncomputable def tw_xV (a z o : Nat → Int) (c : Int) (i : Int) : Bool := (decide (i < 32) == false && true && true)
theorem tw_x (a z o : Nat → Int) (c : Int) (i : Int) (hv : tw_xV a z o c i = true) : Tr Tryz.prog 0 (twL) (stW 0 0 (tmk (twTi c i) 0 27) (twG a z o)) (.exit 0) (stW 0 0 (tmk (twT c) 0 27) (twG a z o)) :=
  Tr.evW (n := ⟨1000000, [(11, false)]⟩) (N := 3) (keep := za2 [2, 4, 5, 6]) (nm := za2 []) (vc := tw_xV a z o c i) (za0 _) mix (by kernel_rfl) hv rfl rfl (rfl)
theorem tw_8 (a z o : Nat → Int) (c : Int) : Tr Tryz.prog 0 (cR (cR (cR (cR twC)))) (stW 0 0 (tmk (twT c) 0 27) (twG a z o)) (.ret) (stW 0 0 (tmk ([(4, .ptr 1 [])]) 0 27) (twG a o o)) :=
  Tr.evW (n := ⟨1000000, []⟩) (N := 3) (keep := za2 [4]) (nm := za2 []) (vc := true) (za0 _) mix (by kernel_rfl) rfl rfl rfl (rfl)
theorem lx_0 (a b : Nat → Int) : (za3 Tryz.prog env0 ⟨1000000, []⟩ (preC 3 (lsC2)) (stW 0 0 (tmk ([(0, .ints .u8 32 a), (1, .ints .u8 32 b)]) 0 34) ([]))).map (cutPW 0 0 (za2 [2, 3, 4, 5, 6]) (za2 [6])) =
    some (.normal, true, (tmk (leTb 0) 0 34), leGb a b (fun _ => 0) (fun _ => 0), true) := by kernel_rfl
theorem lx_3 (a b z o : Nat → Int) (c : Int) : Tr Tryz.prog 0 (cL (cL (cR (cR (cR lsC2))))) (stW 0 0 (tmk (leTb c) 0 34) (leGb a b z o)) (.normal) (stW 0 0 (tmk (leTi c 0) 0 34) (leGb a b z o)) :=
  Tr.evW (n := ⟨1000000, []⟩) (N := 4) (keep := za2 [2, 3, 4, 5, 6, 7]) (nm := za2 [6, 7]) (vc := true) (za0 _) mix (by kernel_rfl) rfl rfl rfl (rfl)
noncomputable def lx_aV (a b z o : Nat → Int) (c : Int) (i : Int) : Bool := (decide (-9223372036854775808 ≤ i + 1 ∧ i + 1 ≤ 9223372036854775807) && true && (decide (0 ≤ i ∧ i < (↑32 : Int)) && (decide (i.toNat < 32) && true && true) && (decide (-9223372036854775808 ≤ IntKind.i64.wrap (IntKind.i64.wrap (a i.toNat) - IntKind.i64.wrap (b i.toNat)) - c + 256 ∧ IntKind.i64.wrap (IntKind.i64.wrap (a i.toNat) - IntKind.i64.wrap (b i.toNat)) - c + 256 ≤ 9223372036854775807) && true && (decide (IntKind.i64.wrap (IntKind.i64.wrap (a i.toNat) - IntKind.i64.wrap (b i.toNat)) - c < 0) == true && true && (decide (0 ≤ i ∧ i < (↑32 : Int)) && (decide (i.toNat < 32) && true && (decide (0 ≤ i ∧ i < (↑32 : Int)) && (decide (i.toNat < 32) && true && (decide (-9223372036854775808 ≤ IntKind.i64.wrap (IntKind.i64.wrap (a i.toNat) - IntKind.i64.wrap (b i.toNat)) - c ∧ IntKind.i64.wrap (IntKind.i64.wrap (a i.toNat) - IntKind.i64.wrap (b i.toNat)) - c ≤ 9223372036854775807) && true)))) && (decide (i < 32) == true && true && true))))))
theorem lx_a (a b z o : Nat → Int) (c : Int) (i : Int) (hv : lx_aV a b z o c i = true) : Tr Tryz.prog 0 (lsL2) (stW 0 0 (tmk (leTi c i) 0 34) (leGb a b z o)) (.normal) (stW 0 0 (tmk (leTi 1 (i + 1)) 0 34) (leGb a b z (upd o i.toNat (IntKind.u8.wrap ((IntKind.i64.wrap (IntKind.i64.wrap (a i.toNat) - IntKind.i64.wrap (b i.toNat)) - c) + 256))))) :=
  Tr.evW (n := ⟨1000000, [(11, true), (26, true)]⟩) (N := 4) (keep := za2 [2, 3, 4, 5, 6, 7]) (nm := za2 [6, 7]) (vc := lx_aV a b z o c i) (za0 _) mix (by kernel_rfl) hv rfl rfl (rfl)
noncomputable def lx_bV (a b z o : Nat → Int) (c : Int) (i : Int) : Bool := (decide (-9223372036854775808 ≤ i + 1 ∧ i + 1 ≤ 9223372036854775807) && true && (decide (0 ≤ i ∧ i < (↑32 : Int)) && (decide (i.toNat < 32) && true && true) && (decide (IntKind.i64.wrap (IntKind.i64.wrap (a i.toNat) - IntKind.i64.wrap (b i.toNat)) - c < 0) == false && true && (decide (0 ≤ i ∧ i < (↑32 : Int)) && (decide (i.toNat < 32) && true && (decide (0 ≤ i ∧ i < (↑32 : Int)) && (decide (i.toNat < 32) && true && (decide (-9223372036854775808 ≤ IntKind.i64.wrap (IntKind.i64.wrap (a i.toNat) - IntKind.i64.wrap (b i.toNat)) - c ∧ IntKind.i64.wrap (IntKind.i64.wrap (a i.toNat) - IntKind.i64.wrap (b i.toNat)) - c ≤ 9223372036854775807) && true)))) && (decide (i < 32) == true && true && true)))))
theorem lx_b (a b z o : Nat → Int) (c : Int) (i : Int) (hv : lx_bV a b z o c i = true) : Tr Tryz.prog 0 (lsL2) (stW 0 0 (tmk (leTi c i) 0 34) (leGb a b z o)) (.normal) (stW 0 0 (tmk (leTi 0 (i + 1)) 0 34) (leGb a b z (upd o i.toNat (IntKind.u8.wrap (IntKind.i64.wrap (IntKind.i64.wrap (a i.toNat) - IntKind.i64.wrap (b i.toNat)) - c))))) :=
  Tr.evW (n := ⟨1000000, [(11, true), (26, false)]⟩) (N := 4) (keep := za2 [2, 3, 4, 5, 6, 7]) (nm := za2 [6, 7]) (vc := lx_bV a b z o c i) (za0 _) mix (by kernel_rfl) hv rfl rfl (rfl)
noncomputable def lx_xV (a b z o : Nat → Int) (c : Int) (i : Int) : Bool := (decide (i < 32) == false && true && true)
theorem lx_x (a b z o : Nat → Int) (c : Int) (i : Int) (hv : lx_xV a b z o c i = true) : Tr Tryz.prog 0 (lsL2) (stW 0 0 (tmk (leTi c i) 0 34) (leGb a b z o)) (.exit 0) (stW 0 0 (tmk (leTb c) 0 34) (leGb a b z o)) :=
  Tr.evW (n := ⟨1000000, [(11, false)]⟩) (N := 4) (keep := za2 [2, 3, 4, 5, 6]) (nm := za2 [6]) (vc := lx_xV a b z o c i) (za0 _) mix (by kernel_rfl) hv rfl rfl (rfl)
theorem lx_8 (a b z o : Nat → Int) (c : Int) : Tr Tryz.prog 0 (cR (cR (cR (cR lsC2)))) (stW 0 0 (tmk (leTb c) 0 34) (leGb a b z o)) (.ret) (stW 0 0 (tmk ([(4, .ptr 2 [])]) 0 34) (leGb a b o o)) :=
  Tr.evW (n := ⟨1000000, []⟩) (N := 4) (keep := za2 [4]) (nm := za2 []) (vc := true) (za0 _) mix (by kernel_rfl) rfl rfl rfl (rfl)
theorem twC_eq : postC 3 twC = .seq (.seq (cL (cL (cR (cR (cR twC))))) (.block 0 (.loop twL))) (cR (cR (cR (cR twC)))) := by kernel_rfl
theorem lsC2_eq : postC 3 lsC2 = .seq (.seq (cL (cL (cR (cR (cR lsC2))))) (.block 0 (.loop lsL2))) (cR (cR (cR (cR lsC2)))) := by kernel_rfl
theorem tw_res (a o : Nat → Int) : zb3 Tryz.prog (stW 0 0 (tmk [(4, .ptr 1 [])] 0 27) (twG a o o)) Tryz.f86.results.toList = some (true, [.ints .u8 32 o], 2) := by kernel_rfl
theorem lx_res (a b o : Nat → Int) : zb3 Tryz.prog (stW 0 0 (tmk [(4, .ptr 2 [])] 0 34) (leGb a b o o)) Tryz.f87.results.toList = some (true, [.ints .u8 32 o], 4) := by kernel_rfl
theorem shl8 {a : Int} (h : 0 ≤ a ∧ a < 256) : shlI .u8 a 1 = 2 * a % 256 := by
  unfold shlI
  rw [show min (1 : Int).toNat IntKind.u8.bits = 1 by decide, IntKind.wrap_u8]; omega
theorem shr8 {a : Int} (h : 0 ≤ a ∧ a < 256) : shrI .u8 a 7 = a / 128 := by
  unfold shrI
  rw [show min (7 : Int).toNat IntKind.u8.bits = 7 by decide, Int.fdiv_eq_ediv_of_nonneg _ (by decide)]; rfl
def twS (a : Nat → Int) (b : Int) : Nat → Int × (Nat → Int)
  | 0 => (b, fun _ => 0)
  | i + 1 => (shrI .u8 (a i) 7, upd (twS a b i).2 i (IntKind.u8.wrap (shlI .u8 (a i) 1 + (twS a b i).1)))
theorem tw_inv {a : Nat → Int} {b : Int} (ha : digs 256 32 a) (hb : 0 ≤ b ∧ b ≤ 1) : ∀ i, i ≤ 32 →
    (0 ≤ (twS a b i).1 ∧ (twS a b i).1 ≤ 1) ∧ digs 256 i (twS a b i).2 ∧ natB 256 (twS a b i).2 i + (twS a b i).1.toNat * 256 ^ i = 2 * natB 256 a i + b.toNat
  | 0, _ => ⟨hb, fun j hj => absurd hj (Nat.not_lt_zero _), by simp [natB, twS]⟩
  | i + 1, h => by
    obtain ⟨h1, h2, h3⟩ := tw_inv ha hb i (by omega)
    have hai := ha i (by omega)
    have hai' : 0 ≤ a i ∧ a i < 256 := ⟨hai.1, hai.2⟩
    have e1 : (twS a b (i + 1)).1 = a i / 128 := shr8 hai'
    have e2 : (twS a b (i + 1)).2 = upd (twS a b i).2 i (2 * a i % 256 + (twS a b i).1) := by
      show upd _ i _ = _
      rw [shl8 hai', IntKind.wrap_u8, Int.emod_eq_of_lt (by omega) (by omega)]
    rw [e1, e2]
    refine ⟨by omega, fun j hj => ?_, ?_⟩
    · by_cases hji : j = i
      · subst hji; rw [zb9]; constructor
        · omega
        · show _ < ((256 : Nat) : Int); omega
      · rw [zd3 hji]; exact h2 j (by omega)
    · unfold natB
      rw [zj9 i (Nat.le_refl _), zb9, Nat.pow_succ]
      generalize natB 256 (twS a b i).2 i = A at *
      generalize natB 256 a i = F at *
      generalize (twS a b i).1 = c at *
      generalize (256 : Nat) ^ i = W at *
      obtain ⟨x, hx⟩ := Int.eq_ofNat_of_zero_le hai'.1
      obtain ⟨y, hy⟩ := Int.eq_ofNat_of_zero_le h1.1
      subst hy
      rw [hx]
      rw [show (2 * (x : Int) % 256 + (y : Int)).toNat = 2 * x % 256 + y by omega, show ((x : Int) / 128).toNat = x / 128 by omega, Int.toNat_natCast]
      rw [Int.toNat_natCast] at h3
      have e : W * (2 * x % 256 + y) + x / 128 * (W * 256) = W * (2 * x) + y * W := by
        rw [Nat.mul_add, show x / 128 * (W * 256) = W * (256 * (x / 128)) by rw [Nat.mul_comm (x / 128), Nat.mul_assoc], Nat.mul_comm W y]
        have : 2 * x % 256 + 256 * (x / 128) = 2 * x := by omega
        have e5 : W * (2 * x) = W * (2 * x % 256) + W * (256 * (x / 128)) := by rw [← Nat.mul_add, this]
        rw [e5]; omega
      have e4 : W * (2 * x) = 2 * (W * x) := by rw [Nat.mul_left_comm]
      omega
noncomputable def twF (a : Nat → Int) (b : Int) : Nat → Int := hid (fun a b => dgB 256 ((2 * natB 256 a 32 + b.toNat) % 256 ^ 32)) a b
theorem twF_eq (a : Nat → Int) (b : Int) : twF a b = dgB 256 ((2 * natB 256 a 32 + b.toNat) % 256 ^ 32) := by unfold twF; rw [zb5]
theorem tw_val {a : Nat → Int} {b : Int} (ha : digs 256 32 a) (hb : 0 ≤ b ∧ b ≤ 1) : ∀ j, j < 32 → (twS a b 32).2 j = twF a b j := by
  obtain ⟨h1, h2, h3⟩ := tw_inv ha hb 32 (Nat.le_refl _)
  have hlt := zd2 32 h2
  intro j hj
  rw [twF_eq, dgB_of (by decide) h2 hj, ← h3, Nat.add_mul_mod_self_right, Nat.mod_eq_of_lt hlt]
theorem tw_run (a : Nat → Int) (b : Int) : Tr Tryz.prog 0 twC (stW 0 0 (tmk [(0, .ints .u8 32 a), (1, .int .u8 b)] 0 27) []) .ret (stW 0 0 (tmk [(4, .ptr 1 [])] 0 27) (twG a (twS a b 32).2 (twS a b 32).2)) := by
  refine Tr.preW (za0 _) mix 0 3 (za2 [2, 4, 5, 6]) (za2 []) (tw_0 a b) rfl rfl ?_
  rw [twC_eq]
  refine Tr.seq (Tr.seq (tw_3 a (fun _ => 0) (fun _ => 0) b) ?_) (tw_8 a (fun _ => 0) _ (twS a b 32).1)
  refine Tr.iter (n := 32) (S := fun i => stW 0 0 (tmk (twTi (twS a b i).1 (i : Nat)) 0 27) (twG a (fun _ => 0) (twS a b i).2)) (fun i hi => ?_) (tw_x a _ _ _ 32 (by unfold tw_xV; rfl))
  have h := tw_s a (fun _ => 0) (twS a b i).2 (twS a b i).1 i (by
    unfold tw_sV
    rw [Int.toNat_natCast, decide_eq_true (show -9223372036854775808 ≤ (i : Int) + 1 ∧ (i : Int) + 1 ≤ 9223372036854775807 by omega), decide_eq_true (show 0 ≤ (i : Int) ∧ (i : Int) < 32 by omega), decide_eq_true hi, decide_eq_true (show (i : Int) < 32 by omega)]; rfl)
  rw [Int.toNat_natCast] at h
  exact h
noncomputable def twP : zb1
  | [.ints .u8 32 a, .int .u8 b] => some (za4 32 a && decide (0 ≤ b ∧ b ≤ 1), .ints .u8 32 (twF a b))
  | _ => none
theorem twM0 (a : Nat → Int) (b : Int) : SoundM Tryz.prog 86 (za1 fun args => open Classical in if args = [.ints .u8 32 a, .int .u8 b] then some (true, .ints .u8 32 (twS a b 32).2) else none) := by
  refine SoundM.of_tr0 (fn := Tryz.f86) (c := twC) (by kernel_rfl) (by kernel_rfl) (by kernel_rfl) ?_
  intro args vc v hm hvc
  split at hm
  · rename_i e
    cases hm
    subst e
    exact ⟨rfl, rfl, .ret, _, _, _, .inl rfl, tw_run a b, tw_res a _, rfl⟩
  · cases hm
theorem Twice_ok : SoundM Tryz.prog 86 (za1 twP) := by
  refine SoundM.refineX ?_
  intro args vc v hm hvc ρ xs hargs
  unfold twP at hm
  split at hm
  · rename_i a b
    cases hm
    simp only [Bool.and_eq_true, decide_eq_true_eq] at hvc
    have hx : VLs rho0 [.ints .u8 32 a, .int .u8 b] xs := zd6 rfl hargs
    refine ⟨_, twM0 a b, _, hx, ⟨true, .ints .u8 32 (twS a b 32).2, [], 0, 0⟩, by simp [za1], rfl, fun ρ' w hw => ?_⟩
    exact ze7 (fun i hi => tw_val (za9 hvc.1) hvc.2 i hi) hw
  · cases hm
def lxN (a b : Nat → Int) (c : Int) (i : Nat) : Int := a i - b i - c
def lxS (a b : Nat → Int) : Nat → Int × (Nat → Int)
  | 0 => (0, fun _ => 0)
  | i + 1 => if lxN a b (lxS a b i).1 i < 0 then (1, upd (lxS a b i).2 i (lxN a b (lxS a b i).1 i + 256)) else (0, upd (lxS a b i).2 i (lxN a b (lxS a b i).1 i))
theorem lx_inv {a b : Nat → Int} (ha : digs 256 32 a) (hb : digs 256 32 b) : ∀ i, i ≤ 32 →
    ((lxS a b i).1 = 0 ∨ (lxS a b i).1 = 1) ∧ digs 256 i (lxS a b i).2 ∧ natB 256 (lxS a b i).2 i + natB 256 b i = natB 256 a i + (lxS a b i).1.toNat * 256 ^ i
  | 0, _ => ⟨.inl rfl, fun j hj => absurd hj (Nat.not_lt_zero _), rfl⟩
  | i + 1, h => by
    obtain ⟨h1, h2, h3⟩ := lx_inv ha hb i (by omega)
    have hai := ha i (by omega)
    have hbi := hb i (by omega)
    obtain ⟨x, hx⟩ := Int.eq_ofNat_of_zero_le hai.1
    obtain ⟨y, hy⟩ := Int.eq_ofNat_of_zero_le hbi.1
    have hx2 : x < 256 := by rw [hx] at hai; exact_mod_cast hai.2
    have hy2 : y < 256 := by rw [hy] at hbi; exact_mod_cast hbi.2
    have hN : lxN a b (lxS a b i).1 i = x - y - (lxS a b i).1 := by unfold lxN; rw [hx, hy]
    obtain ⟨r, b', k0, k1, k2, k3⟩ : ∃ r b' : Nat, lxS a b (i + 1) = ((b' : Int), upd (lxS a b i).2 i (r : Int)) ∧ (b' = 0 ∨ b' = 1) ∧ r < 256 ∧ r + y + (lxS a b i).1.toNat = x + 256 * b' := by
      rw [lxS, hN]
      by_cases h5 : (x : Int) - y - (lxS a b i).1 < 0
      · rw [if_pos h5]
        refine ⟨((x : Int) - y - (lxS a b i).1 + 256).toNat, 1, ?_, .inr rfl, by omega, by omega⟩
        rw [show ((((x : Int) - y - (lxS a b i).1 + 256).toNat : Nat) : Int) = (x : Int) - y - (lxS a b i).1 + 256 by omega]; rfl
      · rw [if_neg h5]
        refine ⟨((x : Int) - y - (lxS a b i).1).toNat, 0, ?_, .inl rfl, by omega, by omega⟩
        rw [show ((((x : Int) - y - (lxS a b i).1).toNat : Nat) : Int) = (x : Int) - y - (lxS a b i).1 by omega]; rfl
    rw [k0]
    refine ⟨by dsimp only; omega, fun j hj => ?_, ?_⟩
    · dsimp only
      by_cases hji : j = i
      · subst hji; rw [zb9]; exact ⟨by omega, by exact_mod_cast k2⟩
      · rw [zd3 hji]; exact h2 j (by omega)
    · dsimp only
      unfold natB
      rw [zj9 i (Nat.le_refl _), zb9, Nat.pow_succ, hx, hy, Int.toNat_natCast, Int.toNat_natCast, Int.toNat_natCast, Int.toNat_natCast]
      generalize natB 256 (lxS a b i).2 i = A at *
      generalize natB 256 a i = F at *
      generalize natB 256 b i = G at *
      generalize (lxS a b i).1.toNat = c at *
      generalize (256 : Nat) ^ i = W at *
      have e : W * (r + y + c) = W * (x + 256 * b') := by rw [k3]
      simp only [Nat.mul_add] at e
      have e3 : c * W = W * c := Nat.mul_comm _ _
      have e4 : b' * (W * 256) = W * (256 * b') := by rw [Nat.mul_comm, Nat.mul_assoc]
      omega
noncomputable def geB (a b : Nat → Int) : Bool := hid (fun a b => decide (natB 256 b 32 ≤ natB 256 a 32)) a b
theorem geB_iff {a b : Nat → Int} : geB a b = true ↔ natB 256 b 32 ≤ natB 256 a 32 := by unfold geB; rw [zb5]; simp
noncomputable def lxF (a b : Nat → Int) : Nat → Int := hid (fun a b => dgB 256 (natB 256 a 32 - natB 256 b 32)) a b
theorem lxF_eq (a b : Nat → Int) : lxF a b = dgB 256 (natB 256 a 32 - natB 256 b 32) := by unfold lxF; rw [zb5]
theorem lx_val {a b : Nat → Int} (ha : digs 256 32 a) (hb : digs 256 32 b) (hle : natB 256 b 32 ≤ natB 256 a 32) : ∀ j, j < 32 → (lxS a b 32).2 j = lxF a b j := by
  obtain ⟨h1, h2, h3⟩ := lx_inv ha hb 32 (Nat.le_refl _)
  have hlt := zd2 32 h2
  have e : natB 256 (lxS a b 32).2 32 = natB 256 a 32 - natB 256 b 32 := by
    generalize (256 : Nat) ^ 32 = W at *
    rcases h1 with h | h <;> rw [h] at h3
    · rw [show (0 : Int).toNat = 0 from rfl, Nat.zero_mul] at h3; omega
    · rw [show (1 : Int).toNat = 1 from rfl, Nat.one_mul] at h3; omega
  intro j hj
  rw [lxF_eq, dgB_of (by decide) h2 hj, e]
theorem lx_run {a b : Nat → Int} (ha : digs 256 32 a) (hb : digs 256 32 b) : Tr Tryz.prog 0 lsC2 (stW 0 0 (tmk [(0, .ints .u8 32 a), (1, .ints .u8 32 b)] 0 34) []) .ret (stW 0 0 (tmk [(4, .ptr 2 [])] 0 34) (leGb a b (lxS a b 32).2 (lxS a b 32).2)) := by
  refine Tr.preW (za0 _) mix 0 3 (za2 [2, 3, 4, 5, 6]) (za2 [6]) (lx_0 a b) rfl rfl ?_
  rw [lsC2_eq]
  refine Tr.seq (Tr.seq (lx_3 a b (fun _ => 0) (fun _ => 0) 0) ?_) (lx_8 a b (fun _ => 0) _ (lxS a b 32).1)
  refine Tr.iter (n := 32) (S := fun i => stW 0 0 (tmk (leTi (lxS a b i).1 (i : Nat)) 0 34) (leGb a b (fun _ => 0) (lxS a b i).2)) (fun i hi => ?_) (lx_x a b _ _ _ 32 (by unfold lx_xV; rfl))
  have hc := (lx_inv ha hb i (by omega)).1
  have hai := ha i hi
  have hbi := hb i hi
  have hai2 : a i < 256 := hai.2
  have hbi2 : b i < 256 := hbi.2
  have w1 : IntKind.i64.wrap (IntKind.i64.wrap (a i) - IntKind.i64.wrap (b i)) = a i - b i := by
    rw [IntKind.wrap_i64 (a i), IntKind.wrap_i64 (b i), IntKind.wrap_i64]; omega
  have d1 : decide (-9223372036854775808 ≤ (i : Int) + 1 ∧ (i : Int) + 1 ≤ 9223372036854775807) = true := decide_eq_true (by omega)
  have d2 : decide (0 ≤ (i : Int) ∧ (i : Int) < 32) = true := decide_eq_true (by omega)
  have d3 : decide ((i : Int) < 32) = true := decide_eq_true (by omega)
  have d4 : decide (i < 32) = true := decide_eq_true hi
  show Tr Tryz.prog 0 lsL2 _ _ (stW 0 0 (tmk (leTi (lxS a b (i + 1)).1 ((i : Int) + 1)) 0 34) (leGb a b (fun _ => 0) (lxS a b (i + 1)).2))
  rw [lxS]
  by_cases h5 : lxN a b (lxS a b i).1 i < 0
  · rw [if_pos h5]
    have h := lx_a a b (fun _ => 0) (lxS a b i).2 (lxS a b i).1 i (by
      unfold lx_aV
      rw [Int.toNat_natCast, w1, d1, d2, d3, d4, decide_eq_true (show -9223372036854775808 ≤ a i - b i - (lxS a b i).1 + 256 ∧ a i - b i - (lxS a b i).1 + 256 ≤ 9223372036854775807 by omega), decide_eq_true (show a i - b i - (lxS a b i).1 < 0 from h5), decide_eq_true (show -9223372036854775808 ≤ a i - b i - (lxS a b i).1 ∧ a i - b i - (lxS a b i).1 ≤ 9223372036854775807 by omega)]; rfl)
    rw [Int.toNat_natCast, w1, show IntKind.u8.wrap (a i - b i - (lxS a b i).1 + 256) = lxN a b (lxS a b i).1 i + 256 by
      unfold lxN at h5 ⊢
      rw [IntKind.wrap_u8]; omega] at h
    exact h
  · rw [if_neg h5]
    have h := lx_b a b (fun _ => 0) (lxS a b i).2 (lxS a b i).1 i (by
      unfold lx_bV
      rw [Int.toNat_natCast, w1, d1, d2, d3, d4, decide_eq_false (show ¬ a i - b i - (lxS a b i).1 < 0 from h5), decide_eq_true (show -9223372036854775808 ≤ a i - b i - (lxS a b i).1 ∧ a i - b i - (lxS a b i).1 ≤ 9223372036854775807 by omega)]; rfl)
    rw [Int.toNat_natCast, w1, show IntKind.u8.wrap (a i - b i - (lxS a b i).1) = lxN a b (lxS a b i).1 i by
      unfold lxN at h5 ⊢
      rw [IntKind.wrap_u8]; omega] at h
    exact h
noncomputable def lxP : zb1
  | [.ints .u8 32 a, .ints .u8 32 b] => some (za4 32 a && (za4 32 b && geB a b), .ints .u8 32 (lxF a b))
  | _ => none
theorem lxM0 {a b : Nat → Int} (ha : digs 256 32 a) (hb : digs 256 32 b) : SoundM Tryz.prog 87 (za1 fun args => open Classical in if args = [.ints .u8 32 a, .ints .u8 32 b] then some (true, .ints .u8 32 (lxS a b 32).2) else none) := by
  refine SoundM.of_tr0 (fn := Tryz.f87) (c := lsC2) (by kernel_rfl) (by kernel_rfl) (by kernel_rfl) ?_
  intro args vc v hm hvc
  split at hm
  · rename_i e
    cases hm
    subst e
    exact ⟨rfl, rfl, .ret, _, _, _, .inl rfl, lx_run ha hb, lx_res a b _, rfl⟩
  · cases hm
theorem Less2_ok : SoundM Tryz.prog 87 (za1 lxP) := by
  refine SoundM.refineX ?_
  intro args vc v hm hvc ρ xs hargs
  unfold lxP at hm
  split at hm
  · rename_i a b
    cases hm
    simp only [Bool.and_eq_true] at hvc
    obtain ⟨h1, h2, h3⟩ := hvc
    have ha : digs 256 32 a := za9 h1
    have hb : digs 256 32 b := za9 h2
    have hx : VLs rho0 [.ints .u8 32 a, .ints .u8 32 b] xs := zd6 rfl hargs
    refine ⟨_, lxM0 ha hb, _, hx, ⟨true, .ints .u8 32 (lxS a b 32).2, [], 0, 0⟩, by simp [za1], rfl, fun ρ' w hw => ?_⟩
    exact ze7 (fun i hi => lx_val ha hb (geB_iff.1 h3) i hi) hw
  · cases hm
noncomputable def moC2 : Code := bodyC Tryz.f47
noncomputable def moL2 : Code := cB (cB (cR (cL (cR (cR moC2)))))
noncomputable def envMo2 : Env := (((env0.set 86 (za1 twP)).set 87 (za1 lxP)).set 75 (za1 BelowP)).set 76 (za1 ROrderP)
theorem zq2 : EnvOK Tryz.prog envMo2 := ((((za0 _).set Twice_ok).set Less2_ok).set Below_ok).set ROrder_ok
def moT0 (n : Nat) (f : Nat → Int) (cp : Option Nat) : List (Nat × T) := [(0, .fsi .u8 n f cp), (2, .ptr 0 []), (3, .ptr 1 [])]
def moTi (n : Nat) (f : Nat → Int) (cp : Option Nat) (i : Int) : List (Nat × T) := [(0, .fsi .u8 n f cp), (2, .ptr 0 []), (3, .ptr 1 []), (4, .num i)]
def moG2 (z o : Nat → Int) : Heap := [some (.ints .u8 32 z), some (.ints .u8 32 o)]
def moBit (f : Nat → Int) (i : Int) : Int := bits .and .u8 (shrI .u8 (f (i / 8).toNat) (IntKind.u64.wrap (i % 8))) 1
theorem mo2_0 (n : Nat) (f : Nat → Int) (cp : Option Nat) : (za3 Tryz.prog envMo2 ⟨1000000, []⟩ (preC 2 (moC2)) (stW 0 0 (tmk ([(0, .fsi .u8 n f cp)]) 0 34) ([]))).map (cutPW 0 0 (za2 [0, 2, 3]) (za2 [])) =
    some (.normal, true, (tmk (moT0 n f cp) 0 34), moG2 (fun _ => 0) (fun _ => 0), true) := by kernel_rfl
noncomputable def mo2_2V (n : Nat) (f : Nat → Int) (cp : Option Nat) (z o : Nat → Int) : Bool := (decide (-9223372036854775808 ≤ 8 * (↑n : Int) ∧ 8 * (↑n : Int) ≤ 9223372036854775807) && (decide (-9223372036854775808 ≤ 8 * (↑n : Int) - 1 ∧ 8 * (↑n : Int) - 1 ≤ 9223372036854775807) && true) && true)
theorem mo2_2 (n : Nat) (f : Nat → Int) (cp : Option Nat) (z o : Nat → Int) (hv : mo2_2V n f cp z o = true) : Tr Tryz.prog 0 (cL (cL (cR (cR moC2)))) (stW 0 0 (tmk (moT0 n f cp) 0 34) (moG2 z o)) (.normal) (stW 0 0 (tmk (moTi n f cp (8 * (n : Int) - 1)) 0 34) (moG2 z o)) :=
  Tr.evW (n := ⟨1000000, []⟩) (N := 2) (keep := za2 [0, 2, 3, 4]) (nm := za2 [4]) (vc := mo2_2V n f cp z o) zq2 mix (by kernel_rfl) hv rfl rfl (rfl)
noncomputable def mo2_aV (n : Nat) (f : Nat → Int) (cp : Option Nat) (z o : Nat → Int) (i : Int) : Bool := (decide (-9223372036854775808 ≤ i - 1 ∧ i - 1 ≤ 9223372036854775807) && true && ((!bwH (twF o (moBit f i)) ordL) == false && true && (decide (0 ≤ i ∧ (0 : Int) < 8) && decide (-9223372036854775808 ≤ i / 8 ∧ i / 8 ≤ 9223372036854775807) && (decide (0 ≤ i / 8 ∧ i / 8 < (↑n : Int)) && (decide (0 ≤ i ∧ (0 : Int) < 8) && (decide (0 ≤ IntKind.u64.wrap (i % 8)) && (za4 32 o && decide (0 ≤ moBit f i ∧ moBit f i ≤ 1) && true)))) && (decide (i ≥ 0) == true && true && true))))
theorem mo2_a (n : Nat) (f : Nat → Int) (cp : Option Nat) (z o : Nat → Int) (i : Int) (hv : mo2_aV n f cp z o i = true) : Tr Tryz.prog 0 (moL2) (stW 0 0 (tmk (moTi n f cp i) 0 34) (moG2 z o)) (.normal) (stW 0 0 (tmk (moTi n f cp (i - 1)) 0 34) (moG2 z (twF o (moBit f i)))) :=
  Tr.evW (n := ⟨1000000, [(11, true), (29, false)]⟩) (N := 2) (keep := za2 [0, 2, 3, 4]) (nm := za2 [4]) (vc := mo2_aV n f cp z o i) zq2 mix (by kernel_rfl) hv rfl rfl (rfl)
noncomputable def mo2_bV (n : Nat) (f : Nat → Int) (cp : Option Nat) (z o : Nat → Int) (i : Int) : Bool := (decide (-9223372036854775808 ≤ i - 1 ∧ i - 1 ≤ 9223372036854775807) && true && (za4 32 (twF o (moBit f i)) && (za4 32 ordL && geB (twF o (moBit f i)) ordL) && true && ((!bwH (twF o (moBit f i)) ordL) == true && true && (decide (0 ≤ i ∧ (0 : Int) < 8) && decide (-9223372036854775808 ≤ i / 8 ∧ i / 8 ≤ 9223372036854775807) && (decide (0 ≤ i / 8 ∧ i / 8 < (↑n : Int)) && (decide (0 ≤ i ∧ (0 : Int) < 8) && (decide (0 ≤ IntKind.u64.wrap (i % 8)) && (za4 32 o && decide (0 ≤ moBit f i ∧ moBit f i ≤ 1) && true)))) && (decide (i ≥ 0) == true && true && true)))))
theorem mo2_b (n : Nat) (f : Nat → Int) (cp : Option Nat) (z o : Nat → Int) (i : Int) (hv : mo2_bV n f cp z o i = true) : Tr Tryz.prog 0 (moL2) (stW 0 0 (tmk (moTi n f cp i) 0 34) (moG2 z o)) (.normal) (stW 0 0 (tmk (moTi n f cp (i - 1)) 0 34) (moG2 z (lxF (twF o (moBit f i)) ordL))) :=
  Tr.evW (n := ⟨1000000, [(11, true), (29, true)]⟩) (N := 2) (keep := za2 [0, 2, 3, 4]) (nm := za2 [4]) (vc := mo2_bV n f cp z o i) zq2 mix (by kernel_rfl) hv rfl rfl (rfl)
noncomputable def mo2_xV (n : Nat) (f : Nat → Int) (cp : Option Nat) (z o : Nat → Int) (i : Int) : Bool := (decide (i ≥ 0) == false && true && true)
theorem mo2_x (n : Nat) (f : Nat → Int) (cp : Option Nat) (z o : Nat → Int) (i : Int) (hv : mo2_xV n f cp z o i = true) : Tr Tryz.prog 0 (moL2) (stW 0 0 (tmk (moTi n f cp i) 0 34) (moG2 z o)) (.exit 0) (stW 0 0 (tmk ([(2, .ptr 0 []), (3, .ptr 1 [])]) 0 34) (moG2 z o)) :=
  Tr.evW (n := ⟨1000000, [(11, false)]⟩) (N := 2) (keep := za2 [2, 3]) (nm := za2 []) (vc := mo2_xV n f cp z o i) zq2 mix (by kernel_rfl) hv rfl rfl (rfl)
theorem mo2_8 (z o : Nat → Int) : Tr Tryz.prog 0 (cR (cR (cR moC2))) (stW 0 0 (tmk ([(2, .ptr 0 []), (3, .ptr 1 [])]) 0 34) (moG2 z o)) (.ret) (stW 0 0 (tmk ([(2, .ptr 0 [])]) 0 34) (moG2 o o)) :=
  Tr.evW (n := ⟨1000000, []⟩) (N := 2) (keep := za2 [2]) (nm := za2 []) (vc := true) zq2 mix (by kernel_rfl) rfl rfl rfl (rfl)
theorem moC2_eq : postC 2 moC2 = .seq (.seq (cL (cL (cR (cR moC2)))) (.block 0 (.loop moL2))) (cR (cR (cR moC2))) := by kernel_rfl
theorem mo2_res (o : Nat → Int) : zb3 Tryz.prog (stW 0 0 (tmk [(2, .ptr 0 [])] 0 34) (moG2 o o)) Tryz.f47.results.toList = some (true, [.ints .u8 32 o], 1) := by kernel_rfl
theorem bit_nat {f : Nat → Int} {n i : Nat} (hf : digs 256 n f) (hi : i < 8 * n) : natB 256 f n / 2 ^ i % 2 = (f (i / 8)).toNat / 2 ^ (i % 8) % 2 := by
  have h := natB_digit (B := 256) (by decide) n hf (i / 8) (by omega)
  have e : (2 : Nat) ^ i = 256 ^ (i / 8) * 2 ^ (i % 8) := by
    rw [show (256 : Nat) = 2 ^ 8 from rfl, ← Nat.pow_mul, ← Nat.pow_add]
    congr 1; omega
  rw [e, ← Nat.div_div_eq_div_mul, ← h]
  generalize natB 256 f n / 256 ^ (i / 8) = M
  have hr : i % 8 < 8 := Nat.mod_lt _ (by decide)
  generalize i % 8 = r at *
  rcases (show r = 0 ∨ r = 1 ∨ r = 2 ∨ r = 3 ∨ r = 4 ∨ r = 5 ∨ r = 6 ∨ r = 7 by omega) with rfl | rfl | rfl | rfl | rfl | rfl | rfl | rfl
  · rw [show (2 : Nat) ^ 0 = 1 from rfl]; omega
  · rw [show (2 : Nat) ^ 1 = 2 from rfl]; omega
  · rw [show (2 : Nat) ^ 2 = 4 from rfl]; omega
  · rw [show (2 : Nat) ^ 3 = 8 from rfl]; omega
  · rw [show (2 : Nat) ^ 4 = 16 from rfl]; omega
  · rw [show (2 : Nat) ^ 5 = 32 from rfl]; omega
  · rw [show (2 : Nat) ^ 6 = 64 from rfl]; omega
  · rw [show (2 : Nat) ^ 7 = 128 from rfl]; omega
theorem moBit_eq {f : Nat → Int} {i : Nat} (h : 0 ≤ f (i / 8) ∧ f (i / 8) < 256) : moBit f i = (((f (i / 8)).toNat / 2 ^ (i % 8) % 2 : Nat) : Int) := by
  unfold moBit
  rw [show ((i : Int) / 8).toNat = i / 8 by omega, show IntKind.u64.wrap ((i : Int) % 8) = ((i % 8 : Nat) : Int) by rw [IntKind.wrap_u64]; omega]
  obtain ⟨x, hx⟩ := Int.eq_ofNat_of_zero_le h.1
  rw [hx] at h ⊢
  have e : shrI .u8 (x : Int) ((i % 8 : Nat) : Int) = ((x / 2 ^ (i % 8) : Nat) : Int) := by
    unfold shrI
    rw [show min ((i % 8 : Nat) : Int).toNat IntKind.u8.bits = i % 8 by show min _ 8 = _; omega, Int.fdiv_eq_ediv_of_nonneg _ (Int.le_of_lt (Int.pow_pos (by decide)))]
    push_cast; rfl
  have hq : x / 2 ^ (i % 8) ≤ x := Nat.div_le_self _ _
  rw [e, Int.toNat_natCast]
  generalize x / 2 ^ (i % 8) = q at *
  have h2 := bits_mask .u8 8 (by decide) (fun n h0 h1 => by rw [IntKind.wrap_u8]; omega) 1 (by decide) (q : Int) (by omega) (by omega)
  rw [show ((2 : Int) ^ 1 - 1) = 1 by decide] at h2
  rw [h2, show (2 : Int) ^ 1 = 2 by decide]; omega
theorem ordL_byB : za4 32 ordL = true := by kernel_rfl
theorem L_lt : 2 * L + 1 < 256 ^ 32 := by rw [L_val]; decide
theorem dg_nat {V : Nat} (h : V < 256 ^ 32) : natB 256 (dgB 256 V) 32 = V := by rw [zm7, Nat.mod_eq_of_lt h]
theorem dg_bytes (V : Nat) : za4 32 (dgB 256 V) = true := zd5 fun i hi => dgB_digs (by decide) V 32 i hi
noncomputable def moF2 (f : Nat → Int) (n : Nat) : Nat → Int := hid (fun f n => dgB 256 (natB 256 f n % L)) f n
theorem moF2_eq (f : Nat → Int) (n : Nat) : moF2 f n = dgB 256 (natB 256 f n % L) := by unfold moF2; rw [zb5]
section
variable {n : Nat} {f : Nat → Int} {cp : Option Nat}
noncomputable def moO (f : Nat → Int) (n k : Nat) : Nat → Int := dgB 256 (natB 256 f n / 2 ^ k % L)
theorem mo2_step (hn : n ≤ 1000000) (hf : digs 256 n f) {i : Nat} (hi : i < 8 * n) (z : Nat → Int) :
    Tr Tryz.prog 0 moL2 (stW 0 0 (tmk (moTi n f cp (i : Nat)) 0 34) (moG2 z (moO f n (i + 1)))) .normal (stW 0 0 (tmk (moTi n f cp ((i : Int) - 1)) 0 34) (moG2 z (moO f n i))) := by
  have hfi := hf (i / 8) (by omega)
  have hfi' : 0 ≤ f (i / 8) ∧ f (i / 8) < 256 := hfi
  have hb := bit_nat hf hi
  have hm := moBit_eq (f := f) (i := i) hfi'
  rw [← hb] at hm
  have hL : 0 < L := by rw [L_val]; decide
  have hLl := L_lt
  have hX : natB 256 f n / 2 ^ (i + 1) % L < L := Nat.mod_lt _ hL
  have hd : natB 256 f n / 2 ^ i = 2 * (natB 256 f n / 2 ^ (i + 1)) + natB 256 f n / 2 ^ i % 2 := by
    rw [Nat.pow_succ, ← Nat.div_div_eq_div_mul]; omega
  have hb2 : natB 256 f n / 2 ^ i % 2 < 2 := Nat.mod_lt _ (by decide)
  have hV : natB 256 f n / 2 ^ i % L = (2 * (natB 256 f n / 2 ^ (i + 1) % L) + natB 256 f n / 2 ^ i % 2) % L := by
    rw [Nat.add_mod, Nat.mul_mod, Nat.mod_mod, ← Nat.mul_mod, ← Nat.add_mod, ← hd]
  unfold moO
  generalize hbt : natB 256 f n / 2 ^ i % 2 = b at *
  rw [hV]
  generalize natB 256 f n / 2 ^ (i + 1) % L = X at *
  have e1 : twF (dgB 256 X) (moBit f i) = dgB 256 (2 * X + b) := by
    rw [twF_eq, hm, Int.toNat_natCast, dg_nat (by omega), Nat.mod_eq_of_lt (by omega)]
  have hw : bwH (dgB 256 (2 * X + b)) ordL = decide (2 * X + b < L) := by
    rw [bwH_eq, bwB_nat (za9 (dg_bytes _)) (za9 ordL_byB) 32 (Nat.le_refl _), dg_nat (by omega), ordL_nat]
  have hi8 : (i : Int) / 8 = ((i / 8 : Nat) : Int) := by omega
  by_cases hlt : 2 * X + b < L
  · have h := mo2_a n f cp z (dgB 256 X) i (by
      unfold mo2_aV
      rw [e1, hw, hm, decide_eq_true hlt, dg_bytes]
      simp only [Bool.not_true, Bool.and_true, Bool.true_and, Bool.and_eq_true, decide_eq_true_eq, beq_self_eq_true, beq_iff_eq]
      rw [IntKind.wrap_u64]; omega)
    rw [e1] at h
    rw [Nat.mod_eq_of_lt hlt]
    exact h
  · have e2 : lxF (dgB 256 (2 * X + b)) ordL = dgB 256 (2 * X + b - L) := by rw [lxF_eq, dg_nat (by omega), ordL_nat]
    have hg : geB (dgB 256 (2 * X + b)) ordL = true := geB_iff.2 (by rw [dg_nat (by omega), ordL_nat]; omega)
    have h := mo2_b n f cp z (dgB 256 X) i (by
      unfold mo2_bV
      rw [e1, hw, hg, hm, decide_eq_false hlt, dg_bytes, dg_bytes, ordL_byB]
      simp only [Bool.not_false, Bool.and_true, Bool.true_and, Bool.and_eq_true, decide_eq_true_eq, beq_self_eq_true, beq_iff_eq]
      rw [IntKind.wrap_u64]; omega)
    rw [e1, e2] at h
    rw [Nat.mod_eq_sub_mod (by omega), Nat.mod_eq_of_lt (by omega)]
    exact h
theorem mo2_run (hn : n ≤ 1000000) (hf : digs 256 n f) : Tr Tryz.prog 0 moC2 (stW 0 0 (tmk [(0, .fsi .u8 n f cp)] 0 34) []) .ret (stW 0 0 (tmk [(2, .ptr 0 [])] 0 34) (moG2 (moF2 f n) (moF2 f n))) := by
  refine Tr.preW zq2 mix 0 2 (za2 [0, 2, 3]) (za2 []) (mo2_0 n f cp) rfl rfl ?_
  have e0 : (fun _ => 0 : Nat → Int) = moO f n (8 * n) := by
    have hlt := zd2 n hf
    have e : (2 : Nat) ^ (8 * n) = 256 ^ n := by rw [Nat.pow_mul]
    funext j
    unfold moO
    rw [e, Nat.div_eq_of_lt hlt, Nat.zero_mod]
    unfold dgB
    rw [Nat.zero_div]; rfl
  have e1 : moF2 f n = moO f n 0 := by rw [moF2_eq]; unfold moO; rw [Nat.pow_zero, Nat.div_one]
  rw [moC2_eq, e1]
  have h2 := (mo2_2 n f cp (fun _ => 0) (fun _ => 0) (by
    unfold mo2_2V
    simp only [Bool.and_true, Bool.and_eq_true, decide_eq_true_eq]
    omega))
  have h2' : Tr Tryz.prog 0 (cL (cL (cR (cR moC2)))) (stW 0 0 (tmk (moT0 n f cp) 0 34) (moG2 (fun _ => 0) (fun _ => 0))) .normal (stW 0 0 (tmk (moTi n f cp (8 * (n : Int) - 1 - (0 : Nat))) 0 34) (moG2 (fun _ => 0) (moO f n (8 * n - 0)))) := by
    rw [show (8 * (n : Int) - 1 - (0 : Nat)) = 8 * (n : Int) - 1 by omega, Nat.sub_zero, ← e0]
    exact h2
  refine Tr.seq (s1 := stW 0 0 (tmk [(2, .ptr 0 []), (3, .ptr 1 [])] 0 34) (moG2 (fun _ => 0) (moO f n 0))) (Tr.seq h2' ?_) (mo2_8 (fun _ => 0) (moO f n 0))
  · refine Tr.iter (n := 8 * n) (S := fun k => stW 0 0 (tmk (moTi n f cp (8 * (n : Int) - 1 - (k : Nat))) 0 34) (moG2 (fun _ => 0) (moO f n (8 * n - k)))) (fun k hk => ?_) ?_
    · have h := mo2_step (cp := cp) hn hf (i := 8 * n - 1 - k) (by omega) (fun _ => 0)
      rw [show 8 * n - 1 - k + 1 = 8 * n - k by omega, show ((8 * n - 1 - k : Nat) : Int) = 8 * (n : Int) - 1 - (k : Nat) by omega] at h
      rw [show 8 * n - (k + 1) = 8 * n - 1 - k by omega, show 8 * (n : Int) - 1 - ((k + 1 : Nat) : Int) = 8 * (n : Int) - 1 - (k : Nat) - 1 by omega]
      exact h
    · rw [Nat.sub_self]
      exact mo2_x n f cp (fun _ => 0) (moO f n 0) _ (by unfold mo2_xV; rw [decide_eq_false (show ¬ 8 * (n : Int) - 1 - ((8 * n : Nat) : Int) ≥ 0 by omega)]; rfl)
end
noncomputable def moV0 : zc0
  | [.fsi .u8 n f _] => some ⟨holds (n ≤ 1000000 ∧ digs 256 n f), .ints .u8 32 (moF2 f n), moG2 (moF2 f n) (moF2 f n), true⟩
  | _ => none
theorem Mod0_ok : SoundV Tryz.prog 47 moV0 := by
  refine SoundV.of_tr (fn := Tryz.f47) (c := moC2) (by kernel_rfl) (by kernel_rfl) (by kernel_rfl) ?_
  intro args r hm hvc
  unfold moV0 at hm
  split at hm
  · rename_i n f cp
    cases hm
    obtain ⟨h1, h2⟩ := of_holds hvc
    exact ⟨.ret, _, _, _, .inl rfl, mo2_run h1 h2, mo2_res _, rfl, rfl, fun _ => rfl⟩
  · cases hm
noncomputable def moV : zc0 := frz 0 moV0
theorem Mod_ok : SoundV Tryz.prog 47 moV := Mod0_ok.frz 0
noncomputable def msC : Code := bodyC Tryz.f21
noncomputable def msN (k : Nat) : Code := cL (postC k msC)
noncomputable def msB0 : Code := cB (cB (cR (msN 2)))
noncomputable def msY0 : Code := cB (cL (cR msB0))
noncomputable def msI0 : Code := cB (cB (cR (cL msY0)))
noncomputable def msB4 : Code := cB (cB (cR (msN 5)))
noncomputable def envMs : Env := env0.set 47 (lift 0 moV)
theorem envMs_ok : EnvOK Tryz.prog envMs := (za0 _).set (Mod_ok.lift 0)
def msT : List (Nat × T) := [(3, .ptr 0 []), (4, .ptr 1 []), (5, .ptr 2 []), (6, .ptr 3 []), (7, .ptr 4 [])]
def msTi (i : Int) : List (Nat × T) := msT ++ [(8, .num i)]
def msTk (i k : Int) : List (Nat × T) := msT ++ [(8, .num i), (9, .num k)]
def msG (a b c z S : Nat → Int) : Heap := [some (.ints .u8 32 a), some (.ints .u8 32 b), some (.ints .u8 32 c), some (.ints .u8 32 z), some (.ints .i64 65 S)]
def msH (a b c z S o : Nat → Int) : Heap := [some (.ints .u8 32 a), some (.ints .u8 32 b), some (.ints .u8 32 c), some (.ints .u8 32 z), some (.ints .i64 65 S), some (.ints .u8 65 o)]
def msU : List (Nat × T) := [(6, .ptr 3 []), (7, .ptr 4 []), (10, .ptr 5 [])]
def msUc (c : Int) : List (Nat × T) := msU ++ [(11, .num c)]
def msUi (c i : Int) : List (Nat × T) := msU ++ [(11, .num c), (12, .num i)]
theorem ms_0 (a b c : Nat → Int) : (za3 Tryz.prog env0 ⟨1000000, []⟩ (preC 2 (msC)) (stW 0 0 (tmk ([(0, .ints .u8 32 a), (1, .ints .u8 32 b), (2, .ints .u8 32 c)]) 0 71) ([]))).map (cutPW 0 0 (za2 [3, 4, 5, 6, 7]) (za2 [])) =
    some (.normal, true, (tmk (msT) 0 71), msG a b c (fun _ => 0) (fun _ => 0), true) := by kernel_rfl
theorem ms_2 (a b c z S : Nat → Int) : Tr Tryz.prog 0 (cL (msN 2)) (stW 0 0 (tmk (msT) 0 71) (msG a b c z S)) (.normal) (stW 0 0 (tmk (msTi 0) 0 71) (msG a b c z S)) :=
  Tr.evW (n := ⟨1000000, []⟩) (N := 5) (keep := za2 [3, 4, 5, 6, 7, 8]) (nm := za2 [8]) (vc := true) (za0 _) mix (by kernel_rfl) rfl rfl rfl (rfl)
noncomputable def ms_3V (a b c z S : Nat → Int) (i : Int) : Bool := (decide (i < 32) == true && true && true)
theorem ms_3 (a b c z S : Nat → Int) (i : Int) (hv : ms_3V a b c z S i = true) : Tr Tryz.prog 0 (cL msB0) (stW 0 0 (tmk (msTi i) 0 71) (msG a b c z S)) (.normal) (stW 0 0 (tmk (msTi i) 0 71) (msG a b c z S)) :=
  Tr.evW (n := ⟨1000000, [(16, true)]⟩) (N := 5) (keep := za2 [3, 4, 5, 6, 7, 8]) (nm := za2 [8]) (vc := ms_3V a b c z S i) (za0 _) mix (by kernel_rfl) hv rfl rfl (rfl)
noncomputable def ms_3xV (a b c z S : Nat → Int) (i : Int) : Bool := (decide (i < 32) == false && true && true)
theorem ms_3x (a b c z S : Nat → Int) (i : Int) (hv : ms_3xV a b c z S i = true) : Tr Tryz.prog 0 (msB0) (stW 0 0 (tmk (msTi i) 0 71) (msG a b c z S)) (.exit 0) (stW 0 0 (tmk (msT) 0 71) (msG a b c z S)) :=
  Tr.evW (n := ⟨1000000, [(16, false)]⟩) (N := 5) (keep := za2 [3, 4, 5, 6, 7]) (nm := za2 []) (vc := ms_3xV a b c z S i) (za0 _) mix (by kernel_rfl) hv rfl rfl (rfl)
theorem ms_5 (a b c z S : Nat → Int) (i : Int) : Tr Tryz.prog 0 (cL (cL msY0)) (stW 0 0 (tmk (msTi i) 0 71) (msG a b c z S)) (.normal) (stW 0 0 (tmk (msTk i 0) 0 71) (msG a b c z S)) :=
  Tr.evW (n := ⟨1000000, []⟩) (N := 5) (keep := za2 [3, 4, 5, 6, 7, 8, 9]) (nm := za2 [8, 9]) (vc := true) (za0 _) mix (by kernel_rfl) rfl rfl rfl (rfl)
noncomputable def ms_6V (a b c z S : Nat → Int) (i : Int) (k : Int) : Bool := (decide (-9223372036854775808 ≤ k + 1 ∧ k + 1 ≤ 9223372036854775807) && true && (decide (-9223372036854775808 ≤ i + k ∧ i + k ≤ 9223372036854775807) && (decide (-9223372036854775808 ≤ i + k ∧ i + k ≤ 9223372036854775807) && (decide (0 ≤ i + k ∧ i + k < (↑65 : Int)) && (decide ((i + k).toNat < 65) && true && (decide (0 ≤ i ∧ i < (↑32 : Int)) && (decide (i.toNat < 32) && true && (decide (0 ≤ k ∧ k < (↑32 : Int)) && (decide (k.toNat < 32) && true && (decide (0 ≤ i + k ∧ i + k < (↑65 : Int)) && (decide ((i + k).toNat < 65) && true && true))))))))) && (decide (k < 32) == true && true && true)))
theorem ms_6 (a b c z S : Nat → Int) (i : Int) (k : Int) (hv : ms_6V a b c z S i k = true) : Tr Tryz.prog 0 (msI0) (stW 0 0 (tmk (msTk i k) 0 71) (msG a b c z S)) (.normal) (stW 0 0 (tmk (msTk i (k + 1)) 0 71) (msG a b c z (upd S (i + k).toNat (IntKind.i64.wrap (S (i + k).toNat + IntKind.i64.wrap (IntKind.i64.wrap (a i.toNat) * IntKind.i64.wrap (b k.toNat))))))) :=
  Tr.evW (n := ⟨1000000, [(20, true)]⟩) (N := 5) (keep := za2 [3, 4, 5, 6, 7, 8, 9]) (nm := za2 [8, 9]) (vc := ms_6V a b c z S i k) (za0 _) mix (by kernel_rfl) hv rfl rfl (rfl)
noncomputable def ms_6xV (a b c z S : Nat → Int) (i : Int) (k : Int) : Bool := (decide (k < 32) == false && true && true)
theorem ms_6x (a b c z S : Nat → Int) (i : Int) (k : Int) (hv : ms_6xV a b c z S i k = true) : Tr Tryz.prog 0 (msI0) (stW 0 0 (tmk (msTk i k) 0 71) (msG a b c z S)) (.exit 2) (stW 0 0 (tmk (msTi i) 0 71) (msG a b c z S)) :=
  Tr.evW (n := ⟨1000000, [(20, false)]⟩) (N := 5) (keep := za2 [3, 4, 5, 6, 7, 8]) (nm := za2 [8]) (vc := ms_6xV a b c z S i k) (za0 _) mix (by kernel_rfl) hv rfl rfl (rfl)
noncomputable def ms_9V (a b c z S : Nat → Int) (i : Int) : Bool := (decide (0 ≤ i ∧ i < (↑65 : Int)) && (decide (i.toNat < 65) && true && (decide (0 ≤ i ∧ i < (↑32 : Int)) && (decide (i.toNat < 32) && true && (decide (0 ≤ i ∧ i < (↑65 : Int)) && (decide (i.toNat < 65) && true && true))))) && true)
theorem ms_9 (a b c z S : Nat → Int) (i : Int) (hv : ms_9V a b c z S i = true) : Tr Tryz.prog 0 (cR msY0) (stW 0 0 (tmk (msTi i) 0 71) (msG a b c z S)) (.normal) (stW 0 0 (tmk (msTi i) 0 71) (msG a b c z (upd S i.toNat (IntKind.i64.wrap (S i.toNat + IntKind.i64.wrap (c i.toNat)))))) :=
  Tr.evW (n := ⟨1000000, []⟩) (N := 5) (keep := za2 [3, 4, 5, 6, 7, 8]) (nm := za2 [8]) (vc := ms_9V a b c z S i) (za0 _) mix (by kernel_rfl) hv rfl rfl (rfl)
noncomputable def ms_4V (a b c z S : Nat → Int) (i : Int) : Bool := (decide (-9223372036854775808 ≤ i + 1 ∧ i + 1 ≤ 9223372036854775807) && true && true)
theorem ms_4 (a b c z S : Nat → Int) (i : Int) (hv : ms_4V a b c z S i = true) : Tr Tryz.prog 0 (cR (cR msB0)) (stW 0 0 (tmk (msTi i) 0 71) (msG a b c z S)) (.normal) (stW 0 0 (tmk (msTi (i + 1)) 0 71) (msG a b c z S)) :=
  Tr.evW (n := ⟨1000000, []⟩) (N := 5) (keep := za2 [3, 4, 5, 6, 7, 8]) (nm := za2 [8]) (vc := ms_4V a b c z S i) (za0 _) mix (by kernel_rfl) hv rfl rfl (rfl)
theorem ms_10 (a b c z S : Nat → Int) : Tr Tryz.prog 0 (msN 3) (stW 0 0 (tmk (msT) 0 71) (msG a b c z S)) (.normal) (stW 0 0 (tmk (msU) 0 71) (msH a b c z S fun _ => 0)) :=
  Tr.evW (n := ⟨1000000, []⟩) (N := 6) (keep := za2 [6, 7, 10]) (nm := za2 []) (vc := true) (za0 _) mix (by kernel_rfl) rfl rfl rfl (rfl)
theorem ms_11 (a b c z S o : Nat → Int) : Tr Tryz.prog 0 (msN 4) (stW 0 0 (tmk (msU) 0 71) (msH a b c z S o)) (.normal) (stW 0 0 (tmk (msUc 0) 0 71) (msH a b c z S o)) :=
  Tr.evW (n := ⟨1000000, []⟩) (N := 6) (keep := za2 [6, 7, 10, 11]) (nm := za2 [11]) (vc := true) (za0 _) mix (by kernel_rfl) rfl rfl rfl (rfl)
theorem ms_12 (a b c z S o : Nat → Int) (y : Int) : Tr Tryz.prog 0 (cL (msN 5)) (stW 0 0 (tmk (msUc y) 0 71) (msH a b c z S o)) (.normal) (stW 0 0 (tmk (msUi y 0) 0 71) (msH a b c z S o)) :=
  Tr.evW (n := ⟨1000000, []⟩) (N := 6) (keep := za2 [6, 7, 10, 11, 12]) (nm := za2 [11, 12]) (vc := true) (za0 _) mix (by kernel_rfl) rfl rfl rfl (rfl)
noncomputable def ms_13V (a b c z S o : Nat → Int) (y i : Int) : Bool := (decide (-9223372036854775808 ≤ i + 1 ∧ i + 1 ≤ 9223372036854775807) && true && (decide (0 ≤ S i.toNat + y ∧ (0 : Int) < 256) && decide (-9223372036854775808 ≤ (S i.toNat + y) / 256 ∧ (S i.toNat + y) / 256 ≤ 9223372036854775807) && true && (decide (0 ≤ S i.toNat + y ∧ (0 : Int) < 256) && (decide (0 ≤ i ∧ i < (↑65 : Int)) && (decide (i.toNat < 65) && true && true)) && (decide (0 ≤ i ∧ i < (↑65 : Int)) && (decide (i.toNat < 65) && true && (decide (-9223372036854775808 ≤ S i.toNat + y ∧ S i.toNat + y ≤ 9223372036854775807) && true)) && (decide (i < 65) == true && true && true)))))
theorem ms_13 (a b c z S o : Nat → Int) (y i : Int) (hv : ms_13V a b c z S o y i = true) : Tr Tryz.prog 0 (msB4) (stW 0 0 (tmk (msUi y i) 0 71) (msH a b c z S o)) (.normal) (stW 0 0 (tmk (msUi ((S i.toNat + y) / 256) (i + 1)) 0 71) (msH a b c z S (upd o i.toNat (IntKind.u8.wrap ((S i.toNat + y) % 256))))) :=
  Tr.evW (n := ⟨1000000, [(54, true)]⟩) (N := 6) (keep := za2 [6, 7, 10, 11, 12]) (nm := za2 [11, 12]) (vc := ms_13V a b c z S o y i) (za0 _) mix (by kernel_rfl) hv rfl rfl (rfl)
noncomputable def ms_13xV (a b c z S o : Nat → Int) (y i : Int) : Bool := (decide (i < 65) == false && true && true)
theorem ms_13x (a b c z S o : Nat → Int) (y i : Int) (hv : ms_13xV a b c z S o y i = true) : Tr Tryz.prog 0 (msB4) (stW 0 0 (tmk (msUi y i) 0 71) (msH a b c z S o)) (.exit 4) (stW 0 0 (tmk (msU) 0 71) (msH a b c z S o)) :=
  Tr.evW (n := ⟨1000000, [(54, false)]⟩) (N := 6) (keep := za2 [6, 7, 10]) (nm := za2 []) (vc := ms_13xV a b c z S o y i) (za0 _) mix (by kernel_rfl) hv rfl rfl (rfl)
noncomputable def ms_18V (a b c z S o : Nat → Int) : Bool := (holds ((↑65 : Int).toNat - Int.toNat 0 ≤ 1000000 ∧ digs 256 ((↑65 : Int).toNat - Int.toNat 0) fun j => o ((if Int.toNat 0 = 65 then 0 else Int.toNat 0) + j)) && true && true && true && true)
theorem ms_18 (a b c z S o : Nat → Int) (hv : ms_18V a b c z S o = true) : Tr Tryz.prog 0 (postC 6 msC) (stW 0 0 (tmk (msU) 0 71) (msH a b c z S o)) (.ret) (stW 0 0 (tmk ([(6, .ptr 3 [])]) 0 71) (msH a b c (moF2 (fun j => o (0 + j)) 65) S o)) :=
  Tr.evW (n := ⟨1000000, []⟩) (N := 6) (keep := za2 [6]) (nm := za2 []) (vc := ms_18V a b c z S o) envMs_ok mix (by kernel_rfl) hv rfl rfl (rfl)
theorem msC_eq : postC 2 msC = .seq (msN 2) (.seq (msN 3) (.seq (msN 4) (.seq (msN 5) (postC 6 msC)))) := by kernel_rfl
theorem msN2_eq : msN 2 = .seq (cL (msN 2)) (.block 0 (.loop msB0)) := by kernel_rfl
theorem msB0_eq : msB0 = .seq (cL msB0) (.seq (.block 1 msY0) (cR (cR msB0))) := by kernel_rfl
theorem msY0_eq : msY0 = .seq (.seq (cL (cL msY0)) (.block 2 (.loop msI0))) (cR msY0) := by kernel_rfl
theorem msN5_eq : msN 5 = .seq (cL (msN 5)) (.block 4 (.loop msB4)) := by kernel_rfl
theorem ms_res (a b c o S p : Nat → Int) : zb3 Tryz.prog (stW 0 0 (tmk [(6, .ptr 3 [])] 0 71) (msH a b c o S p)) Tryz.f21.results.toList = some (true, [.ints .u8 32 o], 8) := by kernel_rfl
theorem re2_mv (f : Nat → Int) : (mv (evFn Tryz.prog envMs 1000000 Tryz.f46) [.ints .u8 64 f]).map (·.2) = some (.ints .u8 32 (moF2 (fun j => f (0 + j)) 64)) := by kernel_rfl
theorem re2_vc (f : Nat → Int) : (mv (evFn Tryz.prog envMs 1000000 Tryz.f46) [.ints .u8 64 f]).map (·.1) = some (holds ((64 : Int).toNat - Int.toNat 0 ≤ 1000000 ∧ digs 256 ((64 : Int).toNat - Int.toNat 0) (fun j => f ((if Int.toNat 0 = 64 then 0 else Int.toNat 0) + j))) && true && true && true && true) := by kernel_rfl
theorem natB_more {B : Nat} {S : Nat → Int} {q : Nat} {v : Int} (hS : 0 ≤ S q) (hv : 0 ≤ v) : ∀ n, q < n → natB B (upd S q (S q + v)) n = natB B S n + B ^ q * v.toNat
  | n + 1, h => by
    unfold natB
    by_cases e : q = n
    · subst e
      rw [zj9 q (Nat.le_refl _), zb9, show (S q + v).toNat = (S q).toNat + v.toNat by omega, Nat.mul_add]; omega
    · rw [natB_more hS hv n (by omega), zd3 (by omega)]; omega
theorem natB_succ (B : Nat) (f : Nat → Int) (n : Nat) : natB B f (n + 1) = natB B f n + B ^ n * (f n).toNat := rfl
def msK (a b : Nat → Int) (i : Nat) (S : Nat → Int) : Nat → (Nat → Int)
  | 0 => S
  | k + 1 => upd (msK a b i S k) (i + k) (msK a b i S k (i + k) + a i * b k)
def msS (a b c : Nat → Int) : Nat → (Nat → Int)
  | 0 => fun _ => 0
  | i + 1 => upd (msK a b i (msS a b c i) 32) i (msK a b i (msS a b c i) 32 i + c i)
section
variable {a b c : Nat → Int}
theorem mul_bd {x y : Int} (hx : 0 ≤ x ∧ x < 256) (hy : 0 ≤ y ∧ y < 256) : 0 ≤ x * y ∧ x * y ≤ 65025 := by
  refine ⟨Int.mul_nonneg hx.1 hy.1, ?_⟩
  have := Int.mul_le_mul (show x ≤ 255 by omega) (show y ≤ 255 by omega) hy.1 (by decide)
  omega
theorem msK_inv (ha : digs 256 32 a) (hb : digs 256 32 b) {i : Nat} (hi : i < 32) {S : Nat → Int} {D : Int} (hS : ∀ j, 0 ≤ S j ∧ S j ≤ D) : ∀ k, k ≤ 32 →
    (∀ j, 0 ≤ msK a b i S k j ∧ msK a b i S k j ≤ D + k * 65025) ∧ natB 256 (msK a b i S k) 65 = natB 256 S 65 + 256 ^ i * (a i).toNat * natB 256 b k
  | 0, _ => ⟨fun j => by have := hS j; show 0 ≤ S j ∧ S j ≤ _; omega, by show natB 256 S 65 = natB 256 S 65 + 256 ^ i * (a i).toNat * 0; rw [Nat.mul_zero, Nat.add_zero]⟩
  | k + 1, hk => by
    obtain ⟨h1, h2⟩ := msK_inv ha hb hi hS k (by omega)
    have hm := mul_bd (ha i hi) (hb k (by omega))
    refine ⟨fun j => ?_, ?_⟩
    · have hj := h1 j
      have hq := h1 (i + k)
      show 0 ≤ upd _ (i + k) _ j ∧ upd _ (i + k) _ j ≤ _
      by_cases e : j = i + k
      · subst e; rw [zb9]; omega
      · rw [zd3 e]; omega
    · show natB 256 (upd _ (i + k) _) 65 = _
      rw [natB_more (h1 (i + k)).1 hm.1 65 (by omega), h2, natB_succ 256 b k]
      obtain ⟨x, hx⟩ := Int.eq_ofNat_of_zero_le (ha i hi).1
      obtain ⟨y, hy⟩ := Int.eq_ofNat_of_zero_le (hb k (by omega)).1
      rw [hx, hy, show ((x : Int) * (y : Int)).toNat = x * y by rw [← Int.natCast_mul, Int.toNat_natCast], Int.toNat_natCast, Int.toNat_natCast, Nat.mul_add, Nat.pow_add]
      have : 256 ^ i * 256 ^ k * (x * y) = 256 ^ i * x * (256 ^ k * y) := by
        rw [Nat.mul_mul_mul_comm]
      omega
theorem msS_inv (ha : digs 256 32 a) (hb : digs 256 32 b) (hc : digs 256 32 c) : ∀ i, i ≤ 32 →
    (∀ j, 0 ≤ msS a b c i j ∧ msS a b c i j ≤ i * 2100000) ∧ natB 256 (msS a b c i) 65 = natB 256 a i * natB 256 b 32 + natB 256 c i
  | 0, _ => ⟨fun j => by show (0 : Int) ≤ 0 ∧ (0 : Int) ≤ _; omega, by
      have : ∀ n, natB 256 (fun _ => 0) n = 0 := fun n => by
        induction n with
        | zero => rfl
        | succ n ih => rw [natB, ih]; simp
      show natB 256 (fun _ => 0) 65 = _
      rw [this]
      show 0 = 0 * natB 256 b 32 + 0
      rw [Nat.zero_mul]⟩
  | i + 1, hi => by
    obtain ⟨h1, h2⟩ := msS_inv ha hb hc i (by omega)
    obtain ⟨h3, h4⟩ := msK_inv ha hb (i := i) (by omega) h1 32 (Nat.le_refl _)
    have hci := hc i (by omega)
    have hci2 : c i < 256 := hci.2
    refine ⟨fun j => ?_, ?_⟩
    · have hj := h3 j
      have hq := h3 i
      show 0 ≤ upd _ i _ j ∧ upd _ i _ j ≤ _
      by_cases e : j = i
      · subst e; rw [zb9]; omega
      · rw [zd3 e]; omega
    · show natB 256 (upd _ i _) 65 = _
      rw [natB_more (h3 i).1 hci.1 65 (by omega), h4, h2, natB_succ 256 a i, natB_succ 256 c i, Nat.add_mul]
      omega
def msO (S : Nat → Int) : Nat → Int × (Nat → Int)
  | 0 => (0, fun _ => 0)
  | i + 1 => ((S i + (msO S i).1) / 256, upd (msO S i).2 i ((S i + (msO S i).1) % 256))
theorem msO_inv {S : Nat → Int} (hS : ∀ j, 0 ≤ S j ∧ S j ≤ 100000000) : ∀ i, i ≤ 65 →
    (0 ≤ (msO S i).1 ∧ (msO S i).1 ≤ 100000000) ∧ digs 256 i (msO S i).2 ∧ natB 256 (msO S i).2 i + 256 ^ i * (msO S i).1.toNat = natB 256 S i
  | 0, _ => ⟨by show (0 : Int) ≤ 0 ∧ (0 : Int) ≤ _; omega, fun j hj => absurd hj (Nat.not_lt_zero _), rfl⟩
  | i + 1, h => by
    obtain ⟨h1, h2, h3⟩ := msO_inv hS i (by omega)
    have hs := hS i
    obtain ⟨x, hx⟩ := Int.eq_ofNat_of_zero_le hs.1
    obtain ⟨y, hy⟩ := Int.eq_ofNat_of_zero_le h1.1
    have e1 : (msO S (i + 1)).1 = ((x + y) / 256 : Nat) := by show (S i + (msO S i).1) / 256 = _; rw [hx, hy]; omega
    have e2 : (msO S (i + 1)).2 = upd (msO S i).2 i (((x + y) % 256 : Nat) : Int) := by show upd _ i ((S i + (msO S i).1) % 256) = _; rw [hx, hy]; congr 1
    rw [e1, e2]
    refine ⟨by omega, fun j hj => ?_, ?_⟩
    · by_cases hji : j = i
      · subst hji; rw [zb9]
        exact ⟨by omega, by show _ < ((256 : Nat) : Int); omega⟩
      · rw [zd3 hji]; exact h2 j (by omega)
    · rw [hy, Int.toNat_natCast] at h3
      unfold natB
      rw [zj9 i (Nat.le_refl _), zb9, hx, Int.toNat_natCast, Int.toNat_natCast, Int.toNat_natCast, Nat.pow_succ, ← h3, Nat.mul_assoc]
      have : (256 : Nat) ^ i * ((x + y) % 256) + 256 ^ i * (256 * ((x + y) / 256)) = 256 ^ i * y + 256 ^ i * x := by
        rw [← Nat.mul_add, ← Nat.mul_add]
        congr 1; omega
      omega
theorem msO_val (ha : digs 256 32 a) (hb : digs 256 32 b) (hc : digs 256 32 c) : digs 256 65 (msO (msS a b c 32) 65).2 ∧ natB 256 (msO (msS a b c 32) 65).2 65 = natB 256 a 32 * natB 256 b 32 + natB 256 c 32 := by
  obtain ⟨h1, h2⟩ := msS_inv ha hb hc 32 (Nat.le_refl _)
  obtain ⟨h3, h4, h5⟩ := msO_inv (S := msS a b c 32) (fun j => by have := h1 j; omega) 65 (Nat.le_refl _)
  refine ⟨h4, ?_⟩
  rw [h2] at h5
  have la := zd2 32 ha
  have lb := zd2 32 hb
  have lc := zd2 32 hc
  have lm : natB 256 a 32 * natB 256 b 32 ≤ (256 ^ 32 - 1) * (256 ^ 32 - 1) := Nat.mul_le_mul (by omega) (by omega)
  have e : ((256 : Nat) ^ 32 - 1) * (256 ^ 32 - 1) + 256 ^ 32 < 256 ^ 65 := by decide +kernel
  have hz : (msO (msS a b c 32) 65).1.toNat = 0 := by
    refine Nat.eq_zero_of_not_pos fun hpos => ?_
    have := Nat.mul_le_mul_left (256 ^ 65) hpos
    rw [Nat.mul_one] at this
    generalize natB 256 a 32 * natB 256 b 32 = X at *
    generalize (256 : Nat) ^ 65 * (msO (msS a b c 32) 65).1.toNat = Y at *
    generalize (256 : Nat) ^ 65 = W at *
    generalize ((256 : Nat) ^ 32 - 1) * (256 ^ 32 - 1) = V at *
    generalize (256 : Nat) ^ 32 = U at *
    omega
  rw [hz, Nat.mul_zero, Nat.add_zero] at h5
  exact h5
theorem ms_run (ha : digs 256 32 a) (hb : digs 256 32 b) (hc : digs 256 32 c) :
    Tr Tryz.prog 0 msC (stW 0 0 (tmk [(0, .ints .u8 32 a), (1, .ints .u8 32 b), (2, .ints .u8 32 c)] 0 71) []) .ret
      (stW 0 0 (tmk [(6, .ptr 3 [])] 0 71) (msH a b c (moF2 (msO (msS a b c 32) 65).2 65) (msS a b c 32) (msO (msS a b c 32) 65).2)) := by
  refine Tr.preW (za0 _) mix 0 2 (za2 [3, 4, 5, 6, 7]) (za2 []) (ms_0 a b c) rfl rfl ?_
  rw [msC_eq]
  have hloop : Tr Tryz.prog 0 (msN 2) (stW 0 0 (tmk msT 0 71) (msG a b c (fun _ => 0) (fun _ => 0))) .normal (stW 0 0 (tmk msT 0 71) (msG a b c (fun _ => 0) (msS a b c 32))) := by
    rw [msN2_eq]
    refine Tr.seq (ms_2 a b c (fun _ => 0) (fun _ => 0)) ?_
    refine Tr.iter (n := 32) (S := fun i => stW 0 0 (tmk (msTi (i : Nat)) 0 71) (msG a b c (fun _ => 0) (msS a b c i))) (fun i hi => ?_) (ms_3x a b c _ _ 32 (by unfold ms_3xV; rfl))
    rw [msB0_eq]
    obtain ⟨h1, _⟩ := msS_inv ha hb hc i (by omega)
    refine Tr.seq (ms_3 a b c _ _ i (by unfold ms_3V; rw [decide_eq_true (show (i : Int) < 32 by omega)]; rfl)) (Tr.seq (Tr.block (s1 := stW 0 0 (tmk (msTi (i : Nat)) 0 71) (msG a b c (fun _ => 0) (msS a b c (i + 1)))) ?_ (by intro i h; cases h)) (ms_4 a b c _ _ i (by unfold ms_4V; rw [decide_eq_true (show -9223372036854775808 ≤ (i : Int) + 1 ∧ (i : Int) + 1 ≤ 9223372036854775807 by omega)]; rfl)))
    rw [msY0_eq]
    obtain ⟨h3, _⟩ := msK_inv ha hb (i := i) (by omega) h1 32 (Nat.le_refl _)
    have d0 : decide (0 ≤ (i : Int) ∧ (i : Int) < 32) = true := decide_eq_true (by omega)
    have d1 : decide (0 ≤ (i : Int) ∧ (i : Int) < 65) = true := decide_eq_true (by omega)
    refine Tr.seq (Tr.seq (ms_5 a b c _ _ i) (Tr.iter (n := 32) (S := fun k => stW 0 0 (tmk (msTk (i : Nat) (k : Nat)) 0 71) (msG a b c (fun _ => 0) (msK a b i (msS a b c i) k))) (fun k hk => ?_) (ms_6x a b c _ _ i 32 (by unfold ms_6xV; rfl)))) ?_
    · obtain ⟨h4, _⟩ := msK_inv ha hb (i := i) (by omega) h1 k (by omega)
      have hq := h4 (i + k)
      have hai := ha i hi
      have hbk := hb k hk
      have hai2 : a i < 256 := hai.2
      have hbk2 : b k < 256 := hbk.2
      have hm := mul_bd ⟨hai.1, hai2⟩ ⟨hbk.1, hbk2⟩
      have e1 : ((i : Int) + (k : Int)).toNat = i + k := by omega
      have h := ms_6 a b c (fun _ => 0) (msK a b i (msS a b c i) k) i k (by
        unfold ms_6V
        rw [e1, Int.toNat_natCast, Int.toNat_natCast]
        simp only [Bool.and_true, Bool.and_eq_true, decide_eq_true_eq, beq_iff_eq]
        omega)
      rw [e1, Int.toNat_natCast, Int.toNat_natCast, show IntKind.i64.wrap (msK a b i (msS a b c i) k (i + k) + IntKind.i64.wrap (IntKind.i64.wrap (a i) * IntKind.i64.wrap (b k))) = msK a b i (msS a b c i) k (i + k) + a i * b k by
        rw [show IntKind.i64.wrap (a i) = a i by rw [IntKind.wrap_i64]; omega, show IntKind.i64.wrap (b k) = b k by rw [IntKind.wrap_i64]; omega, show IntKind.i64.wrap (a i * b k) = a i * b k by rw [IntKind.wrap_i64]; omega, IntKind.wrap_i64]; omega] at h
      exact h
    · have hq := h3 i
      have hci := hc i hi
      have hci2 : c i < 256 := hci.2
      have h := ms_9 a b c (fun _ => 0) (msK a b i (msS a b c i) 32) i (by
        unfold ms_9V
        rw [Int.toNat_natCast]
        simp only [Bool.and_true, Bool.and_eq_true, decide_eq_true_eq, beq_iff_eq]
        omega)
      rw [Int.toNat_natCast, show IntKind.i64.wrap (msK a b i (msS a b c i) 32 i + IntKind.i64.wrap (c i)) = msK a b i (msS a b c i) 32 i + c i by
        rw [show IntKind.i64.wrap (c i) = c i by rw [IntKind.wrap_i64]; omega, IntKind.wrap_i64]; omega] at h
      exact h
  obtain ⟨hb1, _⟩ := msS_inv ha hb hc 32 (Nat.le_refl _)
  obtain ⟨hv1, _⟩ := msO_val ha hb hc
  refine Tr.seq hloop (Tr.seq (ms_10 a b c _ _) (Tr.seq (ms_11 a b c _ _ _) ?_))
  generalize msS a b c 32 = S at *
  have hS : ∀ j, 0 ≤ S j ∧ S j ≤ 100000000 := fun j => by have := hb1 j; omega
  refine Tr.seq (s1 := stW 0 0 (tmk msU 0 71) (msH a b c (fun _ => 0) S (msO S 65).2)) ?_ ?_
  · rw [msN5_eq]
    refine Tr.seq (ms_12 a b c _ S _ 0) (Tr.iter (n := 65) (S := fun i => stW 0 0 (tmk (msUi (msO S i).1 (i : Nat)) 0 71) (msH a b c (fun _ => 0) S (msO S i).2)) (fun i hi => ?_) (ms_13x a b c _ S _ _ 65 (by unfold ms_13xV; rfl)))
    obtain ⟨h3, _⟩ := msO_inv hS i (by omega)
    have hs := hS i
    have h := ms_13 a b c (fun _ => 0) S (msO S i).2 (msO S i).1 i (by
      unfold ms_13V
      rw [Int.toNat_natCast]
      simp only [Bool.and_true, Bool.and_eq_true, decide_eq_true_eq, beq_iff_eq]
      omega)
    rw [Int.toNat_natCast, show IntKind.u8.wrap ((S i + (msO S i).1) % 256) = (S i + (msO S i).1) % 256 by rw [IntKind.wrap_u8]; omega] at h
    exact h
  · have h := ms_18 a b c (fun _ => 0) S (msO S 65).2 (by
      unfold ms_18V
      rw [holds_of (show (65 : Int).toNat - Int.toNat 0 ≤ 1000000 ∧ digs 256 ((65 : Int).toNat - Int.toNat 0) (fun j => (msO S 65).2 ((if Int.toNat 0 = 65 then 0 else Int.toNat 0) + j)) from ⟨by decide, fun j hj => by
        show 0 ≤ (msO S 65).2 (0 + j) ∧ (msO S 65).2 (0 + j) < _
        rw [Nat.zero_add]
        exact hv1 j hj⟩)]; rfl)
    rw [show (fun j => (msO S 65).2 (0 + j)) = (msO S 65).2 from by funext j; rw [Nat.zero_add]] at h
    exact h
end
theorem MulAdd2_ok : SoundM Tryz.prog 21 (za1 MulAddP) := by
  refine SoundM.refineX ?_
  intro args vc v hm hvc ρ xs hargs
  unfold MulAddP at hm
  split at hm
  · rename_i a b c
    cases hm
    have hx : VLs rho0 [.ints .u8 32 a, .ints .u8 32 b, .ints .u8 32 c] xs := zd6 rfl hargs
    simp only [Bool.and_eq_true] at hvc
    have ha : digs 256 32 a := za9 hvc.1
    have hb : digs 256 32 b := za9 hvc.2.1
    have hc : digs 256 32 c := za9 hvc.2.2
    refine ⟨za1 (fun args => open Classical in if args = [.ints .u8 32 a, .ints .u8 32 b, .ints .u8 32 c] then some (true, .ints .u8 32 (moF2 (msO (msS a b c 32) 65).2 65)) else none), ?_, _, hx,
      ⟨true, .ints .u8 32 (moF2 (msO (msS a b c 32) 65).2 65), [], 0, 0⟩, by simp [za1], rfl, ?_⟩
    · refine SoundM.of_tr0 (fn := Tryz.f21) (c := msC) (by kernel_rfl) (by kernel_rfl) (by kernel_rfl) ?_
      intro args vc v hm hvc
      split at hm
      · rename_i e
        cases hm
        subst e
        exact ⟨rfl, rfl, .ret, _, _, _, .inl rfl, ms_run ha hb hc, ms_res _ _ _ _ _ _, rfl⟩
      · cases hm
    · intro ρ' w hw
      refine ze7 (fun i hi => ?_) hw
      rw [moF2_eq, maF_dg a b c i hi, (msO_val ha hb hc).2]
      unfold maNum
      rfl
  · cases hm
theorem Reduce2_ok : SoundM Tryz.prog 46 (za1 ReduceP) := by
  refine (SoundM.of_ev envMs_ok mix (n := 1000000) (fn := Tryz.f46) (by kernel_rfl) (by kernel_rfl) (by kernel_rfl)).refine ?_
  intro args vc v hm hvc ρ xs hargs
  unfold ReduceP at hm
  split at hm
  · rename_i f
    cases hm
    have hf : digs 256 64 f := za9 hvc
    have e : (fun j => f (0 + j)) = f := by funext j; rw [Nat.zero_add]
    cases hm : mv (evFn Tryz.prog envMs 1000000 Tryz.f46) [.ints .u8 64 f] with
    | none => have := re2_mv f; rw [hm] at this; cases this
    | some q =>
      obtain ⟨k, t⟩ := q
      have h1 := re2_mv f
      have h2 := re2_vc f
      rw [hm] at h1 h2
      cases h1
      have h3 : k = (holds ((64 : Int).toNat - Int.toNat 0 ≤ 1000000 ∧ digs 256 ((64 : Int).toNat - Int.toNat 0) (fun j => f ((if Int.toNat 0 = 64 then 0 else Int.toNat 0) + j))) && true && true && true && true) := Option.some.inj h2
      obtain ⟨r, h4, h5, h6⟩ := za8 hm
      refine ⟨_, zd6 rfl hargs, r, h4, ?_, fun ρ' w hw => ?_⟩
      · rw [h5, h3, holds_of (show (64 : Int).toNat - Int.toNat 0 ≤ 1000000 ∧ digs 256 ((64 : Int).toNat - Int.toNat 0) (fun j => f ((if Int.toNat 0 = 64 then 0 else Int.toNat 0) + j)) from ⟨by decide, fun j hj => by
          show 0 ≤ f (0 + j) ∧ f (0 + j) < _
          rw [Nat.zero_add]
          exact hf j hj⟩)]; rfl
      · rw [h6, e] at hw
        refine ze7 (fun i hi => ?_) hw
        rw [moF2_eq, rdF_dg f i hi, rdN_eq hf]
  · cases hm
theorem turn_mv (x n : Int) : mv (evFn Tryz.prog envS1 1000000 Tryz.f111) [.int .u64 x, .int .i64 n] =
  some (decide (-64 ≤ IntKind.i64.wrap (0 - n) ∧ IntKind.i64.wrap (0 - n) < 0) && true && true, .int .u64 (rotI x (IntKind.i64.wrap (0 - n)))) := by kernel_rfl
theorem Turn_ok : SoundM Tryz.prog 111 (za1 trnM) := by
  refine SoundM.refine (SoundM.of_ev envS1_ok mix (n := 1000000) (fn := Tryz.f111) (by kernel_rfl) (by kernel_rfl) (by kernel_rfl)) ?_
  intro args vc v hm hvc ρ xs hargs
  unfold trnM at hm
  split at hm
  · rename_i x n
    cases hm
    rw [decide_eq_true_eq] at hvc
    obtain ⟨r, h1, h2, h3⟩ := za8 (turn_mv x n)
    have hd : decide (-64 ≤ IntKind.i64.wrap (0 - n) ∧ IntKind.i64.wrap (0 - n) < 0) = true := by
      rw [decide_eq_true_eq, IntKind.wrap_i64]; omega
    exact ⟨_, zd6 rfl hargs, r, h1, by rw [h2, hd]; rfl, fun ρ' x hx => by rw [h3, ← trnI_eq] at hx; exact (zc5 rfl ρ' ρ).2.1 _ hx⟩
  · cases hm
noncomputable def envTn : Env := env0.set 111 (za1 trnM)
theorem envTn_ok : EnvOK Tryz.prog envTn := (za0 _).set Turn_ok
noncomputable def wsC : Code := bodyC Tryz.f110
noncomputable def wsL1 : Code := cB (cB (cR (cL (postC 2 wsC))))
noncomputable def wsL2 : Code := cB (cB (cR (cL (postC 3 wsC))))
def wsT (f : Nat → Int) (cp : Option Nat) : List (Nat × T) := [(0, .fsi .u8 128 f cp), (2, .ptr 0 []), (3, .ptr 1 [])]
def wsTi (f : Nat → Int) (cp : Option Nat) (i : Int) : List (Nat × T) := [(0, .fsi .u8 128 f cp), (2, .ptr 0 []), (3, .ptr 1 []), (4, .num i)]
def wsU : List (Nat × T) := [(2, .ptr 0 []), (3, .ptr 1 [])]
def wsUi (i : Int) : List (Nat × T) := [(2, .ptr 0 []), (3, .ptr 1 []), (5, .num i)]
def wsG (z W : Nat → Int) : Heap := [some (.ints .u64 80 z), some (.ints .u64 80 W)]
theorem ws_0 (f : Nat → Int) (cp : Option Nat) : (za3 Tryz.prog envTn ⟨1000000, []⟩ (preC 2 (wsC)) (stW 0 0 (tmk ([(0, .fsi .u8 128 f cp)]) 0 81) ([]))).map (cutPW 0 0 (za2 [0, 2, 3]) (za2 [])) =
    some (.normal, true, (tmk (wsT f cp) 0 81), wsG (fun _ => 0) (fun _ => 0), true) := by kernel_rfl
theorem ws_2 (f : Nat → Int) (cp : Option Nat) (z W : Nat → Int) : Tr Tryz.prog 0 (cL (cL (postC 2 wsC))) (stW 0 0 (tmk (wsT f cp) 0 81) (wsG z W)) (.normal) (stW 0 0 (tmk (wsTi f cp 0) 0 81) (wsG z W)) :=
  Tr.evW (n := ⟨1000000, []⟩) (N := 2) (keep := za2 [0, 2, 3, 4]) (nm := za2 [4]) (vc := true) envTn_ok mix (by kernel_rfl) rfl rfl rfl (rfl)
noncomputable def ws_3V (f : Nat → Int) (cp : Option Nat) (z W : Nat → Int) (i : Int) : Bool := (decide (-9223372036854775808 ≤ i + 1 ∧ i + 1 ≤ 9223372036854775807) && true && (decide (0 ≤ i ∧ (0 : Int) < 8) && decide (-9223372036854775808 ≤ i / 8 ∧ i / 8 ≤ 9223372036854775807) && (decide (0 ≤ i ∧ (0 : Int) < 8) && decide (-9223372036854775808 ≤ i / 8 ∧ i / 8 ≤ 9223372036854775807) && (decide (0 ≤ i / 8 ∧ i / 8 < (↑80 : Int)) && (decide ((i / 8).toNat < 80) && true && (decide (0 ≤ i ∧ i < (↑128 : Int)) && (decide (0 ≤ i / 8 ∧ i / 8 < (↑80 : Int)) && (decide ((i / 8).toNat < 80) && true && true)))))) && (decide (i < 128) == true && true && true)))
theorem ws_3 (f : Nat → Int) (cp : Option Nat) (z W : Nat → Int) (i : Int) (hv : ws_3V f cp z W i = true) : Tr Tryz.prog 0 (wsL1) (stW 0 0 (tmk (wsTi f cp i) 0 81) (wsG z W)) (.normal) (stW 0 0 (tmk (wsTi f cp (i + 1)) 0 81) (wsG z (upd W (i / 8).toNat (IntKind.u64.wrap (shlI .u64 (W (i / 8).toNat) 8 + IntKind.u64.wrap (f i.toNat)))))) :=
  Tr.evW (n := ⟨1000000, [(10, true)]⟩) (N := 2) (keep := za2 [0, 2, 3, 4]) (nm := za2 [4]) (vc := ws_3V f cp z W i) envTn_ok mix (by kernel_rfl) hv rfl rfl (rfl)
noncomputable def ws_3xV (f : Nat → Int) (cp : Option Nat) (z W : Nat → Int) (i : Int) : Bool := (decide (i < 128) == false && true && true)
theorem ws_3x (f : Nat → Int) (cp : Option Nat) (z W : Nat → Int) (i : Int) (hv : ws_3xV f cp z W i = true) : Tr Tryz.prog 0 (wsL1) (stW 0 0 (tmk (wsTi f cp i) 0 81) (wsG z W)) (.exit 0) (stW 0 0 (tmk (wsU) 0 81) (wsG z W)) :=
  Tr.evW (n := ⟨1000000, [(10, false)]⟩) (N := 2) (keep := za2 [2, 3]) (nm := za2 []) (vc := ws_3xV f cp z W i) envTn_ok mix (by kernel_rfl) hv rfl rfl (rfl)
theorem ws_6 (z W : Nat → Int) : Tr Tryz.prog 0 (cL (cL (postC 3 wsC))) (stW 0 0 (tmk (wsU) 0 81) (wsG z W)) (.normal) (stW 0 0 (tmk (wsUi 16) 0 81) (wsG z W)) :=
  Tr.evW (n := ⟨1000000, []⟩) (N := 2) (keep := za2 [2, 3, 5]) (nm := za2 [5]) (vc := true) envTn_ok mix (by kernel_rfl) rfl rfl rfl (rfl)
noncomputable def ws_7V (z W : Nat → Int) (i : Int) : Bool := (decide (-9223372036854775808 ≤ i + 1 ∧ i + 1 ≤ 9223372036854775807) && true && (decide (-9223372036854775808 ≤ i - 16 ∧ i - 16 ≤ 9223372036854775807) && (decide (0 ≤ i - 16 ∧ i - 16 < (↑80 : Int)) && (decide ((i - 16).toNat < 80) && true && (decide (-9223372036854775808 ≤ i - 7 ∧ i - 7 ≤ 9223372036854775807) && (decide (0 ≤ i - 7 ∧ i - 7 < (↑80 : Int)) && (decide ((i - 7).toNat < 80) && true && (decide (0 ≤ i ∧ i < (↑80 : Int)) && (decide (i.toNat < 80) && true && true))))))) && (decide (-9223372036854775808 ≤ i - 2 ∧ i - 2 ≤ 9223372036854775807) && (decide (0 ≤ i - 2 ∧ i - 2 < (↑80 : Int)) && (decide ((i - 2).toNat < 80) && true && (decide (-9223372036854775808 ≤ i - 2 ∧ i - 2 ≤ 9223372036854775807) && (decide (0 ≤ i - 2 ∧ i - 2 < (↑80 : Int)) && (decide ((i - 2).toNat < 80) && true && (decide (-9223372036854775808 ≤ i - 2 ∧ i - 2 ≤ 9223372036854775807) && (decide (0 ≤ i - 2 ∧ i - 2 < (↑80 : Int)) && (decide ((i - 2).toNat < 80) && true && true)))))))) && (decide (-9223372036854775808 ≤ i - 15 ∧ i - 15 ≤ 9223372036854775807) && (decide (0 ≤ i - 15 ∧ i - 15 < (↑80 : Int)) && (decide ((i - 15).toNat < 80) && true && (decide (-9223372036854775808 ≤ i - 15 ∧ i - 15 ≤ 9223372036854775807) && (decide (0 ≤ i - 15 ∧ i - 15 < (↑80 : Int)) && (decide ((i - 15).toNat < 80) && true && (decide (-9223372036854775808 ≤ i - 15 ∧ i - 15 ≤ 9223372036854775807) && (decide (0 ≤ i - 15 ∧ i - 15 < (↑80 : Int)) && (decide ((i - 15).toNat < 80) && true && true)))))))) && (decide (i < 80) == true && true && true)))))
theorem ws_7 (z W : Nat → Int) (i : Int) (hv : ws_7V z W i = true) : Tr Tryz.prog 0 (wsL2) (stW 0 0 (tmk (wsUi i) 0 81) (wsG z W)) (.normal) (stW 0 0 (tmk (wsUi (i + 1)) 0 81) (wsG z (shW2 W i))) :=
  Tr.evW (n := ⟨1000000, [(28, true)]⟩) (N := 2) (keep := za2 [2, 3, 5]) (nm := za2 [5]) (vc := ws_7V z W i) envTn_ok mix (by kernel_rfl) hv rfl rfl (rfl)
noncomputable def ws_7xV (z W : Nat → Int) (i : Int) : Bool := (decide (i < 80) == false && true && true)
theorem ws_7x (z W : Nat → Int) (i : Int) (hv : ws_7xV z W i = true) : Tr Tryz.prog 0 (wsL2) (stW 0 0 (tmk (wsUi i) 0 81) (wsG z W)) (.exit 2) (stW 0 0 (tmk (wsU) 0 81) (wsG z W)) :=
  Tr.evW (n := ⟨1000000, [(28, false)]⟩) (N := 2) (keep := za2 [2, 3]) (nm := za2 []) (vc := ws_7xV z W i) envTn_ok mix (by kernel_rfl) hv rfl rfl (rfl)
theorem ws_12 (z W : Nat → Int) : Tr Tryz.prog 0 (cR (postC 3 wsC)) (stW 0 0 (tmk (wsU) 0 81) (wsG z W)) (.ret) (stW 0 0 (tmk ([(2, .ptr 0 [])]) 0 81) (wsG W W)) :=
  Tr.evW (n := ⟨1000000, []⟩) (N := 2) (keep := za2 [2]) (nm := za2 []) (vc := true) envTn_ok mix (by kernel_rfl) rfl rfl rfl (rfl)
theorem wsC_eq : postC 2 wsC = .seq (.seq (cL (cL (postC 2 wsC))) (.block 0 (.loop wsL1))) (postC 3 wsC) := by kernel_rfl
theorem wsC3_eq : postC 3 wsC = .seq (.seq (cL (cL (postC 3 wsC))) (.block 2 (.loop wsL2))) (cR (postC 3 wsC)) := by kernel_rfl
theorem ws_res (W : Nat → Int) : zb3 Tryz.prog (stW 0 0 (tmk [(2, .ptr 0 [])] 0 81) (wsG W W)) Tryz.f110.results.toList = some (true, [.ints .u64 80 W], 1) := by kernel_rfl
theorem sum_or {x v : Int} (hv : 0 ≤ v ∧ v < 256) : IntKind.u64.wrap (shlI .u64 x 8 + IntKind.u64.wrap v) = bits .or .u64 (shlI .u64 x 8) (IntKind.u64.wrap v) := by
  have ev : IntKind.u64.wrap v = v := by rw [IntKind.wrap_u64]; omega
  have es : shlI .u64 x 8 = x * 256 % 18446744073709551616 := by
    unfold shlI
    rw [show min (8 : Int).toNat IntKind.u64.bits = 8 by decide, show (2 : Int) ^ 8 = 256 by decide, IntKind.wrap_u64]
  rw [ev, es]
  have h := bits_join .u64 64 (by decide) (fun n h0 h1 => by rw [IntKind.wrap_u64]; omega) 8 (x * 256 % 18446744073709551616) v (by omega) (by omega) (by omega) (by omega) (by omega) (by omega)
  rw [h, IntKind.wrap_u64]; omega
noncomputable def wdsH (f : Nat → Int) : Nat → Int := hid (fun f => shF2 (shF1 f 128) 64) f
theorem wdsH_eq (f : Nat → Int) : wdsH f = shF2 (shF1 f 128) 64 := by unfold wdsH; rw [zb5]
theorem ws_run {f : Nat → Int} {cp : Option Nat} (hf : digs 256 128 f) : Tr Tryz.prog 0 wsC (stW 0 0 (tmk [(0, .fsi .u8 128 f cp)] 0 81) []) .ret (stW 0 0 (tmk [(2, .ptr 0 [])] 0 81) (wsG (wdsH f) (wdsH f))) := by
  refine Tr.preW envTn_ok mix 0 2 (za2 [0, 2, 3]) (za2 []) (ws_0 f cp) rfl rfl ?_
  rw [wsC_eq, wdsH_eq]
  refine Tr.seq (s1 := stW 0 0 (tmk wsU 0 81) (wsG (fun _ => 0) (shF1 f 128))) (Tr.seq (ws_2 f cp _ _) (Tr.iter (n := 128) (S := fun i => stW 0 0 (tmk (wsTi f cp (i : Nat)) 0 81) (wsG (fun _ => 0) (shF1 f i))) (fun i hi => ?_) (ws_3x f cp _ _ 128 (by unfold ws_3xV; rfl)))) ?_
  · have h := ws_3 f cp (fun _ => 0) (shF1 f i) i (by
      unfold ws_3V
      simp only [Bool.and_true, Bool.and_eq_true, decide_eq_true_eq, beq_iff_eq]
      omega)
    rw [Int.toNat_natCast, sum_or (hf i hi)] at h
    exact h
  · rw [wsC3_eq]
    refine Tr.seq (Tr.seq (ws_6 _ _) (Tr.iter (n := 64) (S := fun i => stW 0 0 (tmk (wsUi ((16 + i : Nat) : Int)) 0 81) (wsG (fun _ => 0) (shF2 (shF1 f 128) i))) (fun i hi => ?_) (ws_7x _ _ ((16 + 64 : Nat) : Int) (by unfold ws_7xV; rfl)))) (ws_12 _ _)
    have h := ws_7 (fun _ => 0) (shF2 (shF1 f 128) i) ((16 + i : Nat) : Int) (by
      unfold ws_7V
      simp only [Bool.and_true, Bool.true_and, Bool.and_eq_true, decide_eq_true_eq, beq_iff_eq]
      omega)
    exact h
noncomputable def wdsV0 : zc0
  | [.fsi .u8 n f _] => some ⟨holds (n = 128 ∧ digs 256 128 f), .ints .u64 80 (wdsH f), wsG (wdsH f) (wdsH f), true⟩
  | _ => none
theorem Wds0_ok : SoundV Tryz.prog 110 wdsV0 := by
  refine SoundV.of_tr (fn := Tryz.f110) (c := wsC) (by kernel_rfl) (by kernel_rfl) (by kernel_rfl) ?_
  intro args r hm hvc
  unfold wdsV0 at hm
  split at hm
  · rename_i n f cp
    cases hm
    obtain ⟨rfl, h2⟩ := of_holds hvc
    exact ⟨.ret, _, _, _, .inl rfl, ws_run h2, ws_res _, rfl, rfl, fun _ => rfl⟩
  · cases hm
noncomputable def wdsV : zc0 := frz 0 wdsV0
theorem Wds_ok : SoundV Tryz.prog 110 wdsV := Wds0_ok.frz 0
noncomputable def bkC : Code := bodyC Tryz.f105
noncomputable def bkL : Code := cB (cB (cR (cL (postC 3 bkC))))
noncomputable def envBk : Env := envTn.set 110 (lift 0 wdsV)
theorem envBk_ok : EnvOK Tryz.prog envBk := envTn_ok.set (Wds_ok.lift 0)
def v8Z : T := v8T ⟨0, 0, 0, 0, 0, 0, 0, 0⟩
def bkT : List (Nat × T) := [(3, .ptr 0 []), (5, .ptr 1 []), (6, .ptr 2 []), (7, .ptr 3 []), (8, .ptr 4 [])]
def bkTi (i : Int) : List (Nat × T) := bkT ++ [(9, .num i)]
def bkG (h v : V8) (z : T) (K W : Nat → Int) : Heap := [some (v8T h), some (.ints .u64 80 K), some z, some (.ints .u64 80 W), some (v8T v)]
noncomputable def bk_0V (h : V8) (f : Nat → Int) (cp : Option Nat) (K : Nat → Int) : Bool := (holds (128 = 128 ∧ digs 256 128 f) && true && true && true && true)
theorem bk_0 (h : V8) (f : Nat → Int) (cp : Option Nat) (K : Nat → Int) : (za3 Tryz.prog envBk ⟨1000000, []⟩ (preC 3 (bkC)) (stW 0 0 (tmk ([(0, v8T h), (1, .fsi .u8 128 f cp), (2, .ints .u64 80 K)]) 0 118) ([]))).map (cutPW 0 0 (za2 [3, 5, 6, 7, 8]) (za2 [])) =
    some (.normal, bk_0V h f cp K, (tmk (bkT) 0 118), bkG h h v8Z K (wdsH f), true) := by kernel_rfl
theorem bk_3 (h v : V8) (K W : Nat → Int) : Tr Tryz.prog 0 (cL (cL (postC 3 bkC))) (stW 0 0 (tmk (bkT) 0 118) (bkG h v v8Z K W)) (.normal) (stW 0 0 (tmk (bkTi 0) 0 118) (bkG h v v8Z K W)) :=
  Tr.evW (n := ⟨1000000, []⟩) (N := 5) (keep := za2 [3, 5, 6, 7, 8, 9]) (nm := za2 [9]) (vc := true) envBk_ok mix (by kernel_rfl) rfl rfl rfl (rfl)
noncomputable def bk_4V (h v : V8) (K W : Nat → Int) (i : Int) : Bool := (decide (-9223372036854775808 ≤ i + 1 ∧ i + 1 ≤ 9223372036854775807) && true && (decide (0 ≤ i ∧ i < (↑80 : Int)) && (decide (i.toNat < 80) && true && (decide (0 ≤ i ∧ i < (↑80 : Int)) && (decide (i.toNat < 80) && true && true))) && (decide (i < 80) == true && true && true)))
theorem bk_4 (h v : V8) (K W : Nat → Int) (i : Int) (hv : bk_4V h v K W i = true) : Tr Tryz.prog 0 (bkL) (stW 0 0 (tmk (bkTi i) 0 118) (bkG h v v8Z K W)) (.normal) (stW 0 0 (tmk (bkTi (i + 1)) 0 118) (bkG h (shR v (K i.toNat) (W i.toNat)) v8Z K W)) :=
  Tr.evW (n := ⟨1000000, [(17, true)]⟩) (N := 5) (keep := za2 [3, 5, 6, 7, 8, 9]) (nm := za2 [9]) (vc := bk_4V h v K W i) envBk_ok mix (by kernel_rfl) hv rfl rfl (rfl)
noncomputable def bk_4xV (h v : V8) (K W : Nat → Int) (i : Int) : Bool := (decide (i < 80) == false && true && true)
theorem bk_4x (h v : V8) (K W : Nat → Int) (i : Int) (hv : bk_4xV h v K W i = true) : Tr Tryz.prog 0 (bkL) (stW 0 0 (tmk (bkTi i) 0 118) (bkG h v v8Z K W)) (.exit 0) (stW 0 0 (tmk (bkT) 0 118) (bkG h v v8Z K W)) :=
  Tr.evW (n := ⟨1000000, [(17, false)]⟩) (N := 5) (keep := za2 [3, 5, 6, 7, 8]) (nm := za2 []) (vc := bk_4xV h v K W i) envBk_ok mix (by kernel_rfl) hv rfl rfl (rfl)
theorem bk_9 (h v : V8) (K W : Nat → Int) : Tr Tryz.prog 0 (cR (postC 3 bkC)) (stW 0 0 (tmk (bkT) 0 118) (bkG h v v8Z K W)) (.ret) (stW 0 0 (tmk ([(6, .ptr 2 [])]) 0 118) (bkG (shA h v) v (v8T (shA h v)) K W)) :=
  Tr.evW (n := ⟨1000000, []⟩) (N := 5) (keep := za2 [6]) (nm := za2 []) (vc := true) envBk_ok mix (by kernel_rfl) rfl rfl rfl (rfl)
theorem bkC_eq : postC 3 bkC = .seq (.seq (cL (cL (postC 3 bkC))) (.block 0 (.loop bkL))) (cR (postC 3 bkC)) := by kernel_rfl
theorem bk_res (h v : V8) (K W : Nat → Int) : zb3 Tryz.prog (stW 0 0 (tmk [(6, .ptr 2 [])] 0 118) (bkG h v (v8T h) K W)) Tryz.f105.results.toList = some (true, [v8T h], 4) := by kernel_rfl
theorem bk_run {h : V8} {f : Nat → Int} {cp : Option Nat} {K : Nat → Int} (hf : digs 256 128 f) :
    Tr Tryz.prog 0 bkC (stW 0 0 (tmk [(0, v8T h), (1, .fsi .u8 128 f cp), (2, .ints .u64 80 K)] 0 118) []) .ret (stW 0 0 (tmk [(6, .ptr 2 [])] 0 118) (bkG (shB K h f) (shF3 K (wdsH f) h 80) (v8T (shB K h f)) K (wdsH f))) := by
  refine Tr.preW envBk_ok mix 0 3 (za2 [3, 5, 6, 7, 8]) (za2 []) (bk_0 h f cp K) (by unfold bk_0V; rw [holds_of (show 128 = 128 ∧ digs 256 128 f from ⟨rfl, hf⟩)]; rfl) rfl ?_
  have e : shB K h f = shA h (shF3 K (wdsH f) h 80) := by rw [wdsH_eq]; rfl
  rw [bkC_eq, e]
  refine Tr.seq (Tr.seq (bk_3 h h K (wdsH f)) (Tr.iter (n := 80) (S := fun i => stW 0 0 (tmk (bkTi (i : Nat)) 0 118) (bkG h (shF3 K (wdsH f) h i) v8Z K (wdsH f))) (fun i hi => ?_) (bk_4x h _ K (wdsH f) 80 (by unfold bk_4xV; rfl)))) (bk_9 h _ K (wdsH f))
  have h := bk_4 h (shF3 K (wdsH f) h i) K (wdsH f) i (by
    unfold bk_4V
    simp only [Bool.and_true, Bool.and_eq_true, decide_eq_true_eq, beq_iff_eq]
    omega)
  rw [Int.toNat_natCast] at h
  exact h
noncomputable def bkV0 : zc0
  | [hT, .fsi .u8 n f _, .ints .u64 m K] => match asV8 hT with
    | some h => some ⟨holds (n = 128 ∧ m = 80 ∧ digs 256 128 f), v8T (shBH K h f), bkG (shB K h f) (shF3 K (wdsH f) h 80) (v8T (shB K h f)) K (wdsH f), true⟩
    | none => none
  | _ => none
theorem Bk0_ok : SoundV Tryz.prog 105 bkV0 := by
  refine SoundV.of_tr (fn := Tryz.f105) (c := bkC) (by kernel_rfl) (by kernel_rfl) (by kernel_rfl) ?_
  intro args r hm hvc
  unfold bkV0 at hm
  split at hm
  · split at hm
    · rename_i hT n f cp m K _ h hh
      cases hm
      obtain ⟨rfl, rfl, h2⟩ := of_holds hvc
      have e := asV8_eq hh
      subst e
      exact ⟨.ret, _, _, _, .inl rfl, bk_run h2, bk_res _ _ _ _, by rw [shBH_eq]; rfl, rfl, fun _ => rfl⟩
    · cases hm
  · cases hm
noncomputable def bkV : zc0 := frz 0 bkV0
theorem Bk_ok : SoundV Tryz.prog 105 bkV := Bk0_ok.frz 0
noncomputable def sbC : Code := bodyC Tryz.f84
noncomputable def sbN (k : Nat) : Code := cL (postC k sbC)
noncomputable def sbB0 : Code := cB (cB (sbN 2))
noncomputable def sbB2 : Code := cB (cB (cR (sbN 5)))
noncomputable def sbB4 : Code := cB (cB (sbN 6))
noncomputable def envSb : Env := env0.set 105 (lift 0 bkV)
theorem zh1 : EnvOK Tryz.prog envSb := (za0 _).set (Bk_ok.lift 0)
def sbZ : T := .ints .u8 64 fun _ => 0
def sbA (t : Nat) (A : Nat → Int) (cp : Option Nat) : List (Nat × T) := [(0, .fsi .u8 t A cp), (4, .ptr 0 []), (5, .ptr 1 []), (6, .ptr 2 [])]
def sbT (t : Nat) (A : Nat → Int) (cp : Option Nat) (n : Nat) : List (Nat × T) := sbA t A cp ++ [(7, .slice 3 [] 0 1 n none)]
def sbT5 (t : Nat) (A : Nat → Int) (cp : Option Nat) (n : Nat) : List (Nat × T) := sbA t A cp ++ [(7, .slice 5 [] 0 1 n none)]
def sbU (n : Nat) (b : Int) : List (Nat × T) := [(4, .ptr 0 []), (5, .ptr 1 []), (6, .ptr 2 []), (7, .slice 3 [] 0 1 n none), (8, .int .u64 b)]
def sbUi (n : Nat) (b i : Int) : List (Nat × T) := [(4, .ptr 0 []), (5, .ptr 1 []), (6, .ptr 2 []), (7, .slice 3 [] 0 1 n none), (8, .int .u64 b), (9, .num i)]
def sbU5 (n : Nat) (b i : Int) : List (Nat × T) := [(4, .ptr 0 []), (5, .ptr 1 []), (6, .ptr 2 []), (7, .slice 5 [] 0 1 n none), (8, .int .u64 b), (9, .num i)]
def sbX (x : T) : List (Nat × T) := [(4, .ptr 0 []), (5, .ptr 1 []), (6, .ptr 2 []), (7, x)]
def sbY : List (Nat × T) := [(4, .ptr 0 []), (6, .ptr 2 [])]
def sbG0 (h : V8) (K : Nat → Int) : Heap := [some (v8T h), some (.ints .u64 80 K), some sbZ]
def sbG (h : V8) (K : Nat → Int) (n : Nat) (F : Nat → Int) : Heap := sbG0 h K ++ [some (.ints .u8 n F)]
def z8 : Nat → Int := fun j => bif Nat.beq j 7 then 0 else bif Nat.beq j 6 then 0 else bif Nat.beq j 5 then 0 else bif Nat.beq j 4 then 0 else bif Nat.beq j 3 then 0 else bif Nat.beq j 2 then 0 else bif Nat.beq j 1 then 0 else bif Nat.beq j 0 then 0 else 0
theorem z8_eq (j : Nat) : z8 j = 0 := by
  unfold z8
  cases Nat.beq j 7 <;> cases Nat.beq j 6 <;> cases Nat.beq j 5 <;> cases Nat.beq j 4 <;> cases Nat.beq j 3 <;> cases Nat.beq j 2 <;> cases Nat.beq j 1 <;> cases Nat.beq j 0 <;> rfl
def sbO (x : Int) : Nat → Int := fun j => bif Nat.beq j 0 then x else 0
def sbO0 (x : Int) : Nat → Int := fun j => bif Nat.beq (0 + j) 0 then x else 0
theorem sb_0 (t : Nat) (A : Nat → Int) (cp : Option Nat) (h : V8) (K : Nat → Int) : (za3 Tryz.prog envSb ⟨1000000, []⟩ (preC 1 (sbC)) (stW 0 0 (tmk ([(0, .fsi .u8 t A cp), (1, v8T h), (2, .ints .u64 80 K)]) 0 73) ([]))).map (cutPW 0 0 (za2 [0, 4, 5, 6]) (za2 [])) =
    some (.normal, true, (tmk (sbA t A cp) 0 73), sbG0 h K, true) := by kernel_rfl
noncomputable def sb_1V (t : Nat) (A : Nat → Int) (cp : Option Nat) (h : V8) (K : Nat → Int) : Bool := (((0 + t) * Tryz.prog.types[5].bytes).ble 140737488355328 && (0 + t).ble 9223372036854775807 && (decide (0 + t ≤ 0 + t) && ((((0 + t + 1).mul 0).add (0 + t)).ble 140737488355327 && (0 + t).ble 9223372036854775806) && true) && true)
theorem sb_1 (t : Nat) (A : Nat → Int) (cp : Option Nat) (h : V8) (K : Nat → Int) (hv : sb_1V t A cp h K = true) : Tr Tryz.prog 0 (sbN 1) (stW 0 0 (tmk (sbA t A cp) 0 73) (sbG0 h K)) (.normal) (stW 0 0 (tmk (sbA t A cp ++ [(7, .slice 6 [] 0 1 (0 + t + 1) none)]) 0 73) (sbG0 h K ++ [none, none, some (.ints .u8 1 (sbO 128)), some (.ints .u8 (0 + t + 1) (catF (0 + t) (catF 0 (fun _ => 0) A) (sbO0 128)))])) :=
  Tr.evW (n := ⟨1000000, []⟩) (N := 7) (keep := za2 [0, 4, 5, 6, 7]) (nm := za2 []) (vc := sb_1V t A cp h K) zh1 mix (by kernel_rfl) hv rfl rfl (rfl)
noncomputable def sb_2V (t : Nat) (A : Nat → Int) (cp : Option Nat) (h : V8) (K : Nat → Int) (n : Nat) (F : Nat → Int) : Bool := (decide (n ≤ n) && ((((n + 1).mul 0).add n).ble 140737488355327 && n.ble 9223372036854775806) && true && ((!(↑n : Int).tmod 128 == 112) == true && true && true))
theorem sb_2 (t : Nat) (A : Nat → Int) (cp : Option Nat) (h : V8) (K : Nat → Int) (n : Nat) (F : Nat → Int) (hv : sb_2V t A cp h K n F = true) : Tr Tryz.prog 0 (sbB0) (stW 0 0 (tmk (sbT t A cp n) 0 73) (sbG h K n F)) (.normal) (stW 0 0 (tmk (sbT5 t A cp (n + 1)) 0 73) (sbG0 h K ++ [none, some (.ints .u8 1 (sbO 0)), some (.ints .u8 (n + 1) (catF n F (sbO0 0)))])) :=
  Tr.evW (n := ⟨1000000, [(20, true)]⟩) (N := 6) (keep := za2 [0, 4, 5, 6, 7]) (nm := za2 []) (vc := sb_2V t A cp h K n F) zh1 mix (by kernel_rfl) hv rfl rfl (rfl)
noncomputable def sb_2xV (t : Nat) (A : Nat → Int) (cp : Option Nat) (h : V8) (K : Nat → Int) (n : Nat) (F : Nat → Int) : Bool := ((!(↑n : Int).tmod 128 == 112) == false && true && true)
theorem sb_2x (t : Nat) (A : Nat → Int) (cp : Option Nat) (h : V8) (K : Nat → Int) (n : Nat) (F : Nat → Int) (hv : sb_2xV t A cp h K n F = true) : Tr Tryz.prog 0 (sbB0) (stW 0 0 (tmk (sbT t A cp n) 0 73) (sbG h K n F)) (.exit 0) (stW 0 0 (tmk (sbT t A cp n) 0 73) (sbG h K n F)) :=
  Tr.evW (n := ⟨1000000, [(20, false)]⟩) (N := 4) (keep := za2 [0, 4, 5, 6, 7]) (nm := za2 []) (vc := sb_2xV t A cp h K n F) zh1 mix (by kernel_rfl) hv rfl rfl (rfl)
noncomputable def sb_4V (t : Nat) (A : Nat → Int) (cp : Option Nat) (h : V8) (K : Nat → Int) (n : Nat) (F : Nat → Int) : Bool := (decide (n ≤ n) && ((((n + 8).mul 0).add n).ble 140737488355320 && n.ble 9223372036854775799) && true && true)
theorem sb_4 (t : Nat) (A : Nat → Int) (cp : Option Nat) (h : V8) (K : Nat → Int) (n : Nat) (F : Nat → Int) (hv : sb_4V t A cp h K n F = true) : Tr Tryz.prog 0 (sbN 3) (stW 0 0 (tmk (sbT t A cp n) 0 73) (sbG h K n F)) (.normal) (stW 0 0 (tmk (sbT5 t A cp (n + 8)) 0 73) (sbG0 h K ++ [none, some (.ints .u8 8 z8), some (.ints .u8 (n + 8) (catF n F fun j => z8 (0 + j)))])) :=
  Tr.evW (n := ⟨1000000, []⟩) (N := 6) (keep := za2 [0, 4, 5, 6, 7]) (nm := za2 []) (vc := sb_4V t A cp h K n F) zh1 mix (by kernel_rfl) hv rfl rfl (rfl)
theorem sb_5 (t : Nat) (A : Nat → Int) (cp : Option Nat) (h : V8) (K : Nat → Int) (n : Nat) (F : Nat → Int) : Tr Tryz.prog 0 (sbN 4) (stW 0 0 (tmk (sbT t A cp n) 0 73) (sbG h K n F)) (.normal) (stW 0 0 (tmk (sbU n (IntKind.u64.wrap (IntKind.u64.wrap (t : Int) * 8))) 0 73) (sbG h K n F)) :=
  Tr.evW (n := ⟨1000000, []⟩) (N := 4) (keep := za2 [4, 5, 6, 7, 8]) (nm := za2 []) (vc := true) zh1 mix (by kernel_rfl) rfl rfl rfl (rfl)
theorem sb_6 (h : V8) (K : Nat → Int) (n : Nat) (F : Nat → Int) (b : Int) : Tr Tryz.prog 0 (cL (sbN 5)) (stW 0 0 (tmk (sbU n b) 0 73) (sbG h K n F)) (.normal) (stW 0 0 (tmk (sbUi n b 7) 0 73) (sbG h K n F)) :=
  Tr.evW (n := ⟨1000000, []⟩) (N := 4) (keep := za2 [4, 5, 6, 7, 8, 9]) (nm := za2 [9]) (vc := true) zh1 mix (by kernel_rfl) rfl rfl rfl (rfl)
noncomputable def sb_7V (h : V8) (K : Nat → Int) (n : Nat) (F : Nat → Int) (b : Int) (i : Int) : Bool := (decide (-9223372036854775808 ≤ i - 1 ∧ i - 1 ≤ 9223372036854775807) && true && (decide (-9223372036854775808 ≤ 8 * i ∧ 8 * i ≤ 9223372036854775807) && (decide (0 ≤ IntKind.u64.wrap (8 * i)) && (decide (n ≤ n) && ((((n + 1).mul 0).add n).ble 140737488355327 && n.ble 9223372036854775806) && true)) && (decide (i ≥ 0) == true && true && true)))
theorem sb_7 (h : V8) (K : Nat → Int) (n : Nat) (F : Nat → Int) (b : Int) (i : Int) (hv : sb_7V h K n F b i = true) : Tr Tryz.prog 0 (sbB2) (stW 0 0 (tmk (sbUi n b i) 0 73) (sbG h K n F)) (.normal) (stW 0 0 (tmk (sbU5 (n + 1) b (i - 1)) 0 73) (sbG0 h K ++ [none, some (.ints .u8 1 (sbO (IntKind.u8.wrap (shrI .u64 b (IntKind.u64.wrap (8 * i)))))), some (.ints .u8 (n + 1) (catF n F (sbO0 (IntKind.u8.wrap (shrI .u64 b (IntKind.u64.wrap (8 * i)))))))])) :=
  Tr.evW (n := ⟨1000000, [(32, true)]⟩) (N := 6) (keep := za2 [4, 5, 6, 7, 8, 9]) (nm := za2 [9]) (vc := sb_7V h K n F b i) zh1 mix (by kernel_rfl) hv rfl rfl (rfl)
noncomputable def sb_7xV (h : V8) (K : Nat → Int) (n : Nat) (F : Nat → Int) (b : Int) (i : Int) : Bool := (decide (i ≥ 0) == false && true && true)
theorem sb_7x (h : V8) (K : Nat → Int) (n : Nat) (F : Nat → Int) (b : Int) (i : Int) (hv : sb_7xV h K n F b i = true) : Tr Tryz.prog 0 (sbB2) (stW 0 0 (tmk (sbUi n b i) 0 73) (sbG h K n F)) (.exit 2) (stW 0 0 (tmk (sbX (.slice 3 [] 0 1 n none)) 0 73) (sbG h K n F)) :=
  Tr.evW (n := ⟨1000000, [(32, false)]⟩) (N := 4) (keep := za2 [4, 5, 6, 7]) (nm := za2 []) (vc := sb_7xV h K n F b i) zh1 mix (by kernel_rfl) hv rfl rfl (rfl)
noncomputable def sb_10V (h : V8) (K : Nat → Int) (n : Nat) (F : Nat → Int) : Bool := (decide (0 ≤ (↑n : Int) ∧ (↑n : Int) ≤ (↑n : Int)) && decide ((0 : Int) ≤ 128 ∧ 128 ≤ (↑n : Int)) && true && (decide ((0 : Int) ≤ 128 ∧ 128 ≤ (↑n : Int)) && true && (holds (Int.toNat 128 - Int.toNat 0 = 128 ∧ 80 = 80 ∧ digs 256 128 fun j => F (Int.toNat 0 + j)) && true && true && true) && (decide ((↑n : Int) > 0) == true && true && true)))
theorem sb_10 (h : V8) (K : Nat → Int) (n : Nat) (F : Nat → Int) (hv : sb_10V h K n F = true) : Tr Tryz.prog 0 (sbB4) (stW 0 0 (tmk (sbX (.fsi .u8 n F none)) 0 73) (sbG0 h K)) (.normal) (stW 0 0 (tmk (sbX (.fsi .u8 (n - 128) (fun j => F (128 + j)) none)) 0 73) (sbG0 (shBH K h fun j => F (0 + j)) K)) :=
  Tr.evW (n := ⟨1000000, [(46, true)]⟩) (N := 3) (keep := za2 [4, 5, 6, 7]) (nm := za2 []) (vc := sb_10V h K n F) zh1 mix (by kernel_rfl) hv rfl rfl (rfl)
noncomputable def sb_10xV (h : V8) (K : Nat → Int) (n : Nat) (F : Nat → Int) : Bool := (decide ((↑n : Int) > 0) == false && true && true)
theorem sb_10x (h : V8) (K : Nat → Int) (n : Nat) (F : Nat → Int) (hv : sb_10xV h K n F = true) : Tr Tryz.prog 0 (sbB4) (stW 0 0 (tmk (sbX (.fsi .u8 n F none)) 0 73) (sbG0 h K)) (.exit 4) (stW 0 0 (tmk (sbY) 0 73) (sbG0 h K)) :=
  Tr.evW (n := ⟨1000000, [(46, false)]⟩) (N := 3) (keep := za2 [4, 6]) (nm := za2 []) (vc := sb_10xV h K n F) zh1 mix (by kernel_rfl) hv rfl rfl (rfl)
theorem sb_13 (h : V8) (K : Nat → Int) : Tr Tryz.prog 0 (postC 7 sbC) (stW 0 0 (tmk (sbY) 0 73) (sbG0 h K)) (.ret) (stW 0 0 (tmk ([(6, .ptr 2 [])]) 0 73) ([some (v8T h), some (.ints .u64 80 K), some (.ints .u8 64 (shOut h))])) :=
  Tr.evW (n := ⟨1000000, []⟩) (N := 3) (keep := za2 [6]) (nm := za2 []) (vc := true) zh1 mix (by kernel_rfl) rfl rfl rfl (rfl)
theorem sbC_eq : postC 1 sbC = .seq (sbN 1) (.seq (sbN 2) (.seq (sbN 3) (.seq (sbN 4) (.seq (sbN 5) (.seq (sbN 6) (postC 7 sbC)))))) := by kernel_rfl
theorem sbN2_eq : sbN 2 = .block 0 (.loop sbB0) := by kernel_rfl
theorem sbN5_eq : sbN 5 = .seq (cL (sbN 5)) (.block 2 (.loop sbB2)) := by kernel_rfl
theorem sbN6_eq : sbN 6 = .block 4 (.loop sbB4) := by kernel_rfl
theorem sb_res (h : V8) (K o : Nat → Int) : zb3 Tryz.prog (stW 0 0 (tmk [(6, .ptr 2 [])] 0 73) [some (v8T h), some (.ints .u64 80 K), some (.ints .u8 64 o)]) Tryz.f84.results.toList = some (true, [.ints .u8 64 o], 4) := by kernel_rfl
end Go.Proofs.YtbcbmkgfjegbhaaGreat
namespace Go.AE
open Go Go.RowKit Go.ChangeShapes Go.WideShapes
noncomputable section
theorem Post.below0 {ρ ρ' : Rho} {w w' : World} {r : Res} {v' : Value} (h : Post ρ ρ' [] w r v' w') : Below w.heap.size w w' :=
  ⟨h.os, h.tape, h.output, h.size, fun k hk => h.frame k hk fun j p hj => absurd hj (by simp)⟩
def rhoIn (w : World) : Rho := ⟨fun _ => none, allRo w⟩
def Answers (P : Program) (f : FuncId) (args : List T) : Prop := ∃ m, SoundV P f m ∧ ∃ r, m args = some r ∧ r.vc = true ∧ r.v = .bool true
theorem Answers.of_m {P : Program} {f : FuncId} {args : List T} (h : ∃ M, SoundM P f M ∧ ∃ r, M args [] = some r ∧ r.vc = true ∧ r.v = .bool true) : Answers P f args := by
  obtain ⟨M, hM, r, h1, h2, h3⟩ := h
  refine ⟨vEv M, SoundV.of_model hM, ?_⟩
  unfold vEv
  rw [h1]
  exact ⟨_, rfl, h2, h3⟩
theorem mv_law {M : Model} {args : List T} {vc : Bool} (h1 : (mv M args).map (·.2) = some (.bool true)) (h2 : (mv M args).map (·.1) = some vc) (h3 : vc = true) : ∃ r, M args [] = some r ∧ r.vc = true ∧ r.v = .bool true := by
  cases hm : mv M args with
  | none => rw [hm] at h1; cases h1
  | some r =>
    obtain ⟨k, t⟩ := r
    rw [hm] at h1 h2
    cases h1
    cases h2
    obtain ⟨r, h4, h5, h6⟩ := za8 hm
    exact ⟨r, h4, h5.trans h3, h6⟩
theorem Answers.tells {P : Program} {f : FuncId} {args : List T} (h : Answers P f args) {fn : Func} (hf : P.funcs[f]? = some fn) (hname : (fn.name == "runtime.NumGoroutine") = false) (hbody : fn.body.isNone = false)
    {w : World} {xs : List Value} (hx : VLs (rhoIn w) args xs) : Tells P f xs w := by
  obtain ⟨m, hm, r, h1, h2, h3⟩ := h
  have hd := hm.lands args r h1 h2 (rhoIn w) w xs (fun _ => rfl) (allRo_ok w _) hx
  simp only [callFunc, Sem.run_bind, run_program, Result.andThen_ok, hf, hname, hbody] at hd
  refine Calls.mono hd ?_
  rintro e w' ⟨v, rfl, ρ', hp, _⟩
  have hv := hp.val
  rw [h3] at hv
  have hv' : v = .bool true := hv
  exact ⟨by rw [hv'], hp.below0⟩
section data
variable {H : Type} {enc : TypeId × Value → H} {P : Program}
theorem open_fsi {W : World} {base base' : Nat} {sp : Nat → Bool} {held : Bool} {r : Reach} {t e : TypeId} {q : IntKind} (ht : P.underlying t = some (.slice e)) (he : P.underlying e = some (.int q)) (hc : P.cellsOf e = 1)
    {v : Value} {d : DataW H} {ps : List MemPlace} (hval : Value.okWide P W r base' t v) (hd : DataW.Trod enc P W base sp held t v d ps) :
    ∃ (n : Nat) (f : Nat → Int), (R (rhoIn W) (.fsi q n f none)).v v ∧ n ≤ 9223372036854775807 ∧ ∀ i, (Lit.int q (f i)).wf = true := by
  obtain ⟨a0, len0, cap0, rfl⟩ := okWide_slice ht hval
  obtain ⟨fuel, hf⟩ := hd
  have h0 : (Lit.int q 0).wf = true := by cases q <;> decide
  rcases open_ints ht he hc hf with ⟨h1, _⟩ | ⟨a, len, cap, zs, h1, _, h2, h3, h4, _, h5, h6⟩
  · simp only [Value.cells] at h1
    have h1' : Value.slice a0 len0 cap0 = .slice none 0 0 := by simpa using h1
    rw [h1']
    exact ⟨0, fun _ => 0, ⟨none, 0, rfl, Nat.le_refl _, (fun _ h => by cases h), (fun h => absurd h (by omega))⟩, by omega, fun _ => h0⟩
  · simp only [Value.cells] at h1
    have h1' : Value.slice a0 len0 cap0 = .slice (some a) len cap := by simpa using h1
    rw [h1']
    have hlz : len ≤ zs.length := by rw [h4]; split <;> omega
    refine ⟨len, fun i => zs.getD i 0, ⟨some a, cap, rfl, h2, (fun _ h => by cases h), (fun h => ?_)⟩, ?_, fun i => ?_⟩
    · obtain ⟨b, off, rfl, h7⟩ := ints_at h5 (by omega)
      have h8 := h7 0 (by omega)
      unfold World.cell? at h8
      split at h8
      · rename_i cs ty fr hw
        have hall : allRo W b = some cs := by
          unfold allRo
          have hw' : W.heap[b]? = some (.cells cs ty fr) := hw
          rw [hw']
        have key : ∀ j, j < zs.length → cs[off + j]? = some (.int q (zs.getD j 0)) := fun j hj => by
          have h9 := h7 j hj
          unfold World.cell? at h9
          have hw' : W.heap[b]? = some (.cells cs ty fr) := hw
          simpa [hw'] using h9
        refine ⟨b, off, cs, rfl, hall, ?_, fun i hi => ?_⟩
        · have := key (len - 1) (by omega)
          have h10 := (Array.getElem?_eq_some_iff.1 this).1
          omega
        · have := key i (by omega)
          obtain ⟨h10, h11⟩ := Array.getElem?_eq_some_iff.1 this
          rw [Nat.mul_one]
          unfold cut
          rw [List.drop_eq_getElem_cons (by simpa using h10)]
          simp only [List.take_succ_cons, List.take_zero, Array.getElem_toList]
          rw [h11]
      · cases h8
    · unfold maxLen at h3
      omega
    · show (Lit.int q (zs.getD i 0)).wf = true
      by_cases hi : i < zs.length
      · have e : zs.getD i 0 = zs[i] := by simp [List.getD, hi]
        rw [e]
        exact h6 _ (List.getElem_mem hi)
      · have e : zs.getD i 0 = 0 := by simp [List.getD, List.getElem?_eq_none (by omega : zs.length ≤ i)]
        rw [e]
        exact h0
end data
theorem rho_in (w : World) {t : T} {x : Value} (h : (R rho0 t).v x) : (R (rhoIn w) t).v x := R_v_mono (ρ := rho0) ⟨(fun _ _ h => by cases h), (fun _ _ h => by cases h)⟩ h
end
end Go.AE
namespace Go.AE
open Go
noncomputable section
variable {P : Program}
def zs1 (L : List Nat) (keep : Nat) : Nat → List T → List T
  | _, [] => []
  | i, t :: r => (bif keep.testBit i && idsL L t then ren (ixOf L) t else .any) :: zs1 L keep (i + 1) r
def keepE (n0 W j : Nat) : Bool := Nat.blt j n0 && !W.testBit j
def pickH (n0 W : Nat) (L : List Nat) (G : Heap) : Nat → List Nat → Heap
  | _, [] => []
  | j, k :: r => (bif keepE n0 W j then hget G j else renO (ixOf L) (hget G k)) :: pickH n0 W L G (j + 1) r
def pickOK (n0 W : Nat) (L : List Nat) (G : Heap) : Nat → List Nat → Bool
  | _, [] => true
  | j, k :: r => (match hget G k with
      | some t => bif keepE n0 W j then idsB n0 t else idsL L t
      | none => true) && ((!Nat.blt j n0 || Nat.beq k j) && pickOK n0 W L G (j + 1) r)
theorem pickTm_len (L : List Nat) (keep : Nat) : ∀ (i : Nat) (l : List T), (zs1 L keep i l).length = l.length
  | _, [] => rfl
  | i, _ :: r => by simp [zs1, pickTm_len L keep (i + 1) r]
theorem pickTm_get (L : List Nat) (keep : Nat) : ∀ (i : Nat) (l : List T) (t : Nat), tget (zs1 L keep i l) t = .any ∨ (tget (zs1 L keep i l) t = ren (ixOf L) (tget l t) ∧ idsL L (tget l t) = true)
  | _, [], _ => .inl rfl
  | i, x :: r, 0 => by
    simp only [zs1, tget]
    cases h : (keep.testBit i && idsL L x)
    · exact .inl rfl
    · simp only [Bool.and_eq_true] at h; exact .inr ⟨rfl, h.2⟩
  | i, _ :: r, t + 1 => pickTm_get L keep (i + 1) r t
theorem pickH_len {n0 W : Nat} {L : List Nat} {G : Heap} : ∀ {i : Nat} {M : List Nat}, (pickH n0 W L G i M).length = M.length
  | _, [] => rfl
  | i, _ :: r => by simp [pickH, pickH_len (i := i + 1) (M := r)]
theorem pickH_get {n0 W : Nat} {L : List Nat} {G : Heap} : ∀ {i : Nat} {M : List Nat} {j : Nat}, j < M.length →
    hget (pickH n0 W L G i M) j = bif keepE n0 W (i + j) then hget G (i + j) else renO (ixOf L) (hget G (nthL M j))
  | i, k :: r, 0, _ => rfl
  | i, k :: r, j + 1, h => by
    simp only [pickH, hget, nthL]
    rw [pickH_get (i := i + 1) (M := r) (j := j) (by simpa using h), show i + 1 + j = i + (j + 1) by omega]
theorem pickOK_get {n0 W : Nat} {L : List Nat} {G : Heap} : ∀ {i : Nat} {M : List Nat} {j : Nat}, pickOK n0 W L G i M = true → j < M.length →
    (i + j < n0 → nthL M j = i + j) ∧ ∀ t, hget G (nthL M j) = some t → (bif keepE n0 W (i + j) then idsB n0 t else idsL L t) = true
  | i, k :: r, 0, h, _ => by
    simp only [pickOK, Bool.and_eq_true, Bool.or_eq_true, Bool.not_eq_true'] at h
    refine ⟨fun hi => ?_, fun t ht => ?_⟩
    · rcases h.2.1 with h1 | h1
      · have : Nat.blt i n0 = true := by simpa using hi
        rw [this] at h1; cases h1
      · exact Nat.eq_of_beq_eq_true h1
    · have h1 := h.1
      simp only [nthL] at ht
      rw [ht] at h1
      exact h1
  | i, k :: r, j + 1, h, hj => by
    simp only [pickOK, Bool.and_eq_true] at h
    have := pickOK_get (i := i + 1) (M := r) (j := j) h.2.2 (by simpa using hj)
    rw [show i + 1 + j = i + (j + 1) by omega] at this
    exact this
def Rho.pick (ρ : Rho) (L : List Nat) : Rho := ⟨fun j => bif Nat.blt j L.length then ρ (nthL L j) else none, ρ.ro⟩
theorem Rho.pick_in {ρ : Rho} {L : List Nat} {j : Nat} (h : j < L.length) : ρ.pick L j = ρ (nthL L j) := by
  simp only [Rho.pick]
  rw [show Nat.blt j L.length = true from by simpa using h]
  rfl
theorem Rho.pick_out {ρ : Rho} {L : List Nat} {j : Nat} (h : L.length ≤ j) : ρ.pick L j = none := by
  simp only [Rho.pick]
  cases hb : Nat.blt j L.length with
  | false => rfl
  | true =>
    have : j < L.length := by simpa using hb
    omega
theorem Rl.pick {K : Nat → Prop} {ρ0 : Rho} {G0 : Heap} {w0 : World} {dS : List Deferred} {m : Nat} {s : St} {a : Act} {w : World} (h : Rl K ρ0 G0 w0 dS m s a w) {n0 : Nat} (hG : Told n0 G0) (L : List Nat) (keep : Nat)
    (hn : n0 ≤ L.length) (hd : dupFree L = true) (hok : pickOK n0 s.w L s.G 0 L = true) (hfr : ∀ k, G0.length ≤ k → ρ0 k = none) :
    Rl K ρ0 G0 w0 dS m ⟨zs1 L keep 0 s.tm, pickH n0 s.w L s.G 0 L, true, s.t, s.w⟩ a w := by
  obtain ⟨⟨ρ, hp, htm, hsim⟩, hsz, hdfr, hst, hlen⟩ := h
  have hG1 := hG.1
  have hσ : ∀ id p, inL L id = true → ρ id = some p → (ρ.pick L) (ixOf L id) = some p := fun id p hi he => by
    obtain ⟨h1, h2⟩ := inL_nth hi
    rw [Rho.pick_in h1, h2]
    exact he
  have told : ∀ j, j < n0 → nthL L j = j := fun j hj => by
    have := (pickOK_get (i := 0) hok (j := j) (by omega)).1 (by omega)
    rw [Nat.zero_add] at this
    exact this
  have low : ∀ j, j < n0 → ρ.pick L j = ρ j := fun j hj => by rw [Rho.pick_in (by omega), told j hj]
  have high : ∀ j, n0 ≤ j → j < L.length → n0 ≤ nthL L j := fun j h1 h2 => by
    rcases Nat.lt_or_ge (nthL L j) n0 with h3 | h3
    · have h4 := told _ h3
      have h5 := ix_nth hd h2
      have h6 := ix_nth hd (j := nthL L j) (by omega)
      rw [h4, h5] at h6
      omega
    · exact h3
  have hcut : (ρ.cut n0).Ext (ρ.pick L) := ⟨(fun k p hk => by
    simp only [Rho.cut] at hk
    split at hk
    · rename_i hlt
      rw [low k hlt]; exact hk
    · cases hk), fun _ _ h => h⟩
  have len : (pickH n0 s.w L s.G 0 L).length = L.length := pickH_len
  have ent : ∀ j t', hget (pickH n0 s.w L s.G 0 L) j = some t' → j < L.length ∧ ∃ t, hget s.G (nthL L j) = some t ∧ t.size = t'.size ∧ ∀ cs, (R ρ t).c cs → (R (ρ.pick L) t').c cs := fun j t' hg => by
    have hj : j < L.length := by rw [← len]; exact za7 hg
    refine ⟨hj, ?_⟩
    rw [pickH_get hj, Nat.zero_add] at hg
    have hk := (pickOK_get (i := 0) hok hj).2
    rw [Nat.zero_add] at hk
    cases e : keepE n0 s.w j with
    | true =>
      rw [e] at hg
      have e' := e
      unfold keepE at e'
      simp only [Bool.and_eq_true] at e'
      have hlt : j < n0 := by simpa using e'.1
      refine ⟨t', by rw [told j hlt]; exact hg, rfl, fun cs hc => ?_⟩
      have h1 := hk t' (by rw [told j hlt]; exact hg)
      rw [e] at h1
      exact zr7 hcut ((idsB_R h1 ρ).1 _ hc)
    | false =>
      rw [e] at hg
      simp only [cond_false] at hg
      cases e2 : hget s.G (nthL L j) with
      | none => rw [e2] at hg; cases hg
      | some t =>
        rw [e2] at hg
        cases hg
        have h1 := hk t e2
        rw [e] at h1
        exact ⟨t, rfl, (zh9 _ _).symm, fun cs hc => (R_renL hσ (fun _ _ h => h) h1).1 _ hc⟩
  have wide : ∀ j, (n0 ≤ j ∨ s.w.testBit j = true) → j < L.length → n0 ≤ nthL L j ∨ s.w.testBit (nthL L j) = true := fun j h1 h2 => by
    rcases Nat.lt_or_ge j n0 with h3 | h3
    · right; rw [told j h3]; exact h1.resolve_left (by omega)
    · exact .inl (high j h3 h2)
  have wideK : ∀ j, (K j ∨ G0.length ≤ j) → j < L.length → K (nthL L j) ∨ G0.length ≤ nthL L j := fun j h1 h2 => by
    rcases Nat.lt_or_ge j n0 with h3 | h3
    · rw [told j h3]; exact h1
    · right; rw [hG1]; exact high j h3 h2
  have inj : ∀ j j', j < L.length → j' < L.length → nthL L j = nthL L j' → j = j' := fun j j' h1 h2 h3 => by
    have h4 := ix_nth hd h1
    rw [h3, ix_nth hd h2] at h4
    exact h4.symm
  have blk : ∀ j t' p, hget (pickH n0 s.w L s.G 0 L) j = some t' → (∀ t, hget s.G (nthL L j) = some t → Blk ρ t p w) → Blk (ρ.pick L) t' p w := fun j t' p hg hb => by
    obtain ⟨hj, t, h1, h2, h3⟩ := ent j t' hg
    obtain ⟨cs, ty, fr, b1, b2, b3, b4, b5⟩ := hb t h1
    exact ⟨cs, ty, fr, b1, b2, by rw [← h2]; exact b3, by rw [← h2]; exact h3 _ b4, b5⟩
  refine ⟨⟨ρ.pick L, ?_, fun t => ?_, ?_⟩, hsz, hdfr, ?_, (pickTm_len _ _ _ _).trans hlen⟩
  · exact {
      ext := ⟨(fun k p hk => by
        rcases Nat.lt_or_ge k n0 with h1 | h1
        · rw [low k h1]; exact hp.ext k p hk
        · rw [hfr k (by omega)] at hk; cases hk), hp.ext.ro⟩
      dom := fun k hk => by
        rcases hk with hk | hk
        · rw [low k (by omega)]; exact hp.dom k (.inl hk)
        · have hk' : (pickH n0 s.w L s.G 0 L).length ≤ k := hk
          rw [len] at hk'
          rw [Rho.pick_out hk', hfr k (by omega)]
      val := trivial
      sim := fun k t p hk hg hq => by
        have hj := (ent k t hg).1
        rw [Rho.pick_in hj] at hq
        rw [hG1] at hk
        exact blk k t p hg fun t0 h0 => hp.sim _ t0 p (by rw [hG1]; exact wide k hk hj) h0 hq
      vac := fun k t hk hg hq => by
        obtain ⟨hj, t0, h1, h2, _⟩ := ent k t hg
        rw [Rho.pick_in hj] at hq
        rw [hG1] at hk
        rw [← h2]
        exact hp.vac _ t0 (by rw [hG1]; exact wide k hk hj) h1 hq
      new := fun k t p hk hg hq => by
        obtain ⟨hj, t0, h1, h2, _⟩ := ent k t hg
        rw [Rho.pick_in hj] at hq
        rcases hp.new _ t0 p (by rw [hG1]; exact high k (by omega) hj) h1 hq with h4 | ⟨j, q, a1, a2, a3, a4, a5⟩
        · exact .inl h4
        · refine .inr ⟨j, q, a1, a2, ?_, a4, a5⟩
          show hget (pickH n0 s.w L s.G 0 L) j = none
          cases e : hget (pickH n0 s.w L s.G 0 L) j with
          | none => rfl
          | some t2 =>
            obtain ⟨_, t3, h5, _⟩ := ent j t2 e
            rw [told j (by omega)] at h5
            have a3' : hget s.G j = Option.none := a3
            rw [a3'] at h5
            cases h5
      inj := fun k k' t t' p p' hk hk' hg hg' hq hq' he => by
        obtain ⟨hj, t0, h1, _⟩ := ent k t hg
        obtain ⟨hj', t1, h2, _⟩ := ent k' t' hg'
        rw [Rho.pick_in hj] at hq
        rw [Rho.pick_in hj'] at hq'
        exact inj k k' hj hj' (hp.inj _ _ t0 t1 p p' (by rw [hG1]; exact high k (by omega) hj) (by rw [hG1]; exact high k' (by omega) hj') h1 h2 hq hq' he)
      frame := hp.frame
      size := hp.size
      os := hp.os
      tape := hp.tape
      output := hp.output
      ro := hp.ro
      dis := fun k t p hk hg hq => by
        obtain ⟨hj, t0, h1, _⟩ := ent k t hg
        rw [Rho.pick_in hj] at hq
        rw [hG1] at hk
        exact hp.dis _ t0 p (by rw [hG1]; exact wide k hk hj) h1 hq }
  · rcases pickTm_get L keep 0 s.tm t with h1 | ⟨h1, h2⟩
    · show (R _ (tget (zs1 L keep 0 s.tm) t)).v _
      rw [h1]; trivial
    · show (R _ (tget (zs1 L keep 0 s.tm) t)).v _
      rw [h1]
      exact (R_renL hσ (fun _ _ h => h) h2).2.1 _ (htm t)
  · refine ⟨fun k t p hk hg hq => ?_, fun k t hk hg hq => ?_, fun k k' t t' p p' hk hk' hg hg' hq hq' he => ?_, hsim.ro, fun k t p hk hg hq => ?_⟩
    · have hj := (ent k t hg).1
      rw [Rho.pick_in hj] at hq
      exact blk k t p hg fun t0 h0 => hsim.blk _ t0 p (wideK k hk hj) h0 hq
    · obtain ⟨hj, t0, h1, h2, _⟩ := ent k t hg
      rw [Rho.pick_in hj] at hq
      rw [← h2]
      exact hsim.vac _ t0 (wideK k hk hj) h1 hq
    · obtain ⟨hj, t0, h1, _⟩ := ent k t hg
      obtain ⟨hj', t1, h2, _⟩ := ent k' t' hg'
      rw [Rho.pick_in hj] at hq
      rw [Rho.pick_in hj'] at hq'
      exact inj k k' hj hj' (hsim.inj _ _ t0 t1 p p' (wideK k hk hj) (wideK k' hk' hj') h1 h2 hq hq' he)
    · obtain ⟨hj, t0, h1, _⟩ := ent k t hg
      rw [Rho.pick_in hj] at hq
      exact hsim.dis _ t0 p (wideK k hk hj) h1 hq
  · refine ⟨?_, hst.wt, fun k hk hb => ?_⟩
    · show G0.length ≤ (pickH n0 s.w L s.G 0 L).length
      rw [len]; omega
    · show hget (pickH n0 s.w L s.G 0 L) k = hget G0 k
      have hb' : s.w.testBit k = false := hb
      have e : keepE n0 s.w k = true := by
        unfold keepE
        rw [hb', show Nat.blt k n0 = true from by simpa using (show k < n0 by omega)]
        rfl
      rw [pickH_get (by omega), Nat.zero_add, e, cond_true]
      exact hst.old k hk hb
theorem Tr.pick {n0 : Nat} {c : Code} {s : St} {e : Ex} {W : Nat} {tm tm' : List T} {G G' : Heap} (L : List Nat) (keep : Nat) (h : Tr P n0 c s e (stW n0 W tm G)) (ht : zs1 L keep 0 tm = tm') (hG' : pickH n0 W L G 0 L = G')
    (hn : Nat.ble n0 L.length = true) (_hs : True) (hd : dupFree L = true) (hok : pickOK n0 W L G 0 L = true) : Tr P n0 c s e (stW n0 W tm' G') := by
  subst ht hG'
  have hn := Nat.le_of_ble_eq_true hn
  refine ⟨?_, h.t, ?_, fun K ρ0 G0 w0 dS m hG g1 g2 a w hR => ?_⟩
  · show _ → n0 ≤ (pickH n0 W L G 0 L).length
    rw [pickH_len]; exact fun _ => hn
  · show (zs1 L keep 0 tm).length = _
    rw [pickTm_len]; exact h.tm
  · refine wp_mono (h.run K ρ0 G0 w0 dS m hG g1 g2 a w hR) ?_
    rintro e1 a1 w1 ⟨rfl, hR1⟩
    exact ⟨rfl, Rl.pick (s := stW n0 W tm G) hR1 hG L keep hn hd hok g2⟩
theorem hget_snoc {G : Heap} {x : Option T} {k : Nat} {t : T} (h : hget (G ++ [x]) k = some t) : (k < G.length ∧ hget G k = some t) ∨ (k = G.length ∧ x = some t) := by
  rcases Nat.lt_or_ge k G.length with h1 | h1
  · rw [za6 h1] at h; exact .inl ⟨h1, h⟩
  · obtain ⟨j, rfl⟩ : ∃ j, k = G.length + j := ⟨k - G.length, by omega⟩
    rw [zg2] at h
    cases j with
    | zero => exact .inr ⟨rfl, h⟩
    | succ j => cases h
theorem Rl.vac {K : Nat → Prop} {ρ0 : Rho} {G0 : Heap} {w0 : World} {dS : List Deferred} {m : Nat} {s : St} {a : Act} {w : World} (h : Rl K ρ0 G0 w0 dS m s a w) (hfr : ∀ k, G0.length ≤ k → ρ0 k = none) (t : T) (ht : t.size = 0) :
    Rl K ρ0 G0 w0 dS m ⟨s.tm, s.G ++ [some t], true, s.t, s.w⟩ a w := by
  obtain ⟨⟨ρ, hp, htm, hsim⟩, hsz, hdfr, hst, hlen⟩ := h
  have hl : G0.length ≤ s.G.length := hst.len
  have hno : ρ s.G.length = none := by
    rw [hp.dom s.G.length (.inr (Nat.le_refl _))]
    exact hfr _ hl
  have old : ∀ {k t' p}, hget (s.G ++ [some t]) k = some t' → ρ k = some p → hget s.G k = some t' := fun {k t' p} hg hq => by
    rcases hget_snoc hg with ⟨_, h⟩ | ⟨h, _⟩
    · exact h
    · rw [h, hno] at hq; cases hq
  have vac : ∀ {k t'}, hget (s.G ++ [some t]) k = some t' → hget s.G k = some t' ∨ t'.size = 0 := fun {k t'} hg => by
    rcases hget_snoc hg with ⟨_, h⟩ | ⟨_, h⟩
    · exact .inl h
    · cases h; exact .inr ht
  refine ⟨⟨ρ, ?_, htm, ?_⟩, hsz, hdfr, ?_, hlen⟩
  · exact {
      ext := hp.ext
      dom := fun k hk => hp.dom k (by
        rcases hk with hk | hk
        · exact .inl hk
        · right
          have hk' : (s.G ++ [some t]).length ≤ k := hk
          show s.G.length ≤ k
          simp at hk'
          omega)
      val := trivial
      sim := fun k t' p hk hg hq => hp.sim k t' p hk (old hg hq) hq
      vac := fun k t' hk hg hq => by
        rcases vac hg with h | h
        · exact hp.vac k t' hk h hq
        · exact h
      new := fun k t' p hk hg hq => by
        rcases hp.new k t' p hk (old hg hq) hq with h4 | ⟨j, q, a1, a2, a3, a4, a5⟩
        · exact .inl h4
        · refine .inr ⟨j, q, a1, a2, ?_, a4, a5⟩
          show hget (s.G ++ [some t]) j = none
          rw [za6 (by omega)]
          exact a3
      inj := fun k k' t' t2 p p' hk hk' hg hg' hq hq' he => hp.inj k k' t' t2 p p' hk hk' (old hg hq) (old hg' hq') hq hq' he
      frame := hp.frame
      size := hp.size
      os := hp.os
      tape := hp.tape
      output := hp.output
      ro := hp.ro
      dis := fun k t' p hk hg hq => hp.dis k t' p hk (old hg hq) hq }
  · exact ⟨fun k t' p hk hg hq => hsim.blk k t' p hk (old hg hq) hq, fun k t' hk hg hq => by
      rcases vac hg with h | h
      · exact hsim.vac k t' hk h hq
      · exact h, fun k k' t' t2 p p' hk hk' hg hg' hq hq' he => hsim.inj k k' t' t2 p p' hk hk' (old hg hq) (old hg' hq') hq hq' he, hsim.ro, fun k t' p hk hg hq => hsim.dis k t' p hk (old hg hq) hq⟩
  · refine ⟨?_, hst.wt, fun k hk hb => ?_⟩
    · show G0.length ≤ (s.G ++ [some t]).length
      simp; omega
    · show hget (s.G ++ [some t]) k = hget G0 k
      rw [za6 (by omega)]
      exact hst.old k hk hb
theorem Tr.vac {n0 : Nat} {c : Code} {s : St} {e : Ex} {W : Nat} {tm : List T} {G : Heap} (h : Tr P n0 c s e (stW n0 W tm G)) (t : T) (ht : t.size = 0) : Tr P n0 c s e (stW n0 W tm (G ++ [some t])) := by
  refine ⟨?_, h.t, h.tm, fun K ρ0 G0 w0 dS m hG g1 g2 a w hR => ?_⟩
  · intro h0
    show n0 ≤ (G ++ [some t]).length
    have h2 : n0 ≤ G.length := h.len h0
    simp; omega
  · refine wp_mono (h.run K ρ0 G0 w0 dS m hG g1 g2 a w hR) ?_
    rintro e1 a1 w1 ⟨rfl, hR1⟩
    exact ⟨rfl, Rl.vac (s := stW n0 W tm G) hR1 g2 t ht⟩
end
end Go.AE
namespace Go.AE
open Go
noncomputable section
variable {P : Program} {env : Env}
end
end Go.AE
namespace Go.AE
open Go
noncomputable section
variable {P : Program}
def lendR (F : Nat → Bool) (G : Heap) (d : Nat) : T → Bool × T
  | .rows n m f => (allN (fun j => (lend F G d (f j)).1) n, .rows n m fun j => (lend F G d (f j)).2.1)
  | t => ((lend F G d t).1, (lend F G d t).2.1)
theorem lendR_size {F : Nat → Bool} {G : Heap} (d : Nat) (t : T) : (lendR F G d t).2.size = t.size := by
  cases t <;> first | rfl | exact lend_size d _
theorem lendR_sound {F : Nat → Bool} {G : Heap} {d : Nat} {ρ ρ1 : Rho} (h : ∀ t, (lend F G d t).1 = true → Lent ρ ρ1 t (lend F G d t).2.1) :
    ∀ t, (lendR F G d t).1 = true → ∀ cs, (R ρ t).c cs → (R ρ1 (lendR F G d t).2).c cs := by
  intro t ht cs hc
  cases t with
  | rows n m f => exact ⟨hc.1, fun i hi => (h (f i) (zg9 ht i hi)).1 _ (hc.2 i hi)⟩
  | _ => exact (h _ ht).1 cs hc
def frGr (n0 W mask : Nat) (G : Heap) (d : Nat) : Nat → Heap → Heap
  | _, [] => []
  | i, x :: r => (bif frF n0 mask i then none else bif Nat.blt i n0 && !W.testBit i then x else match x with
    | some t => some (lendR (frF n0 mask) G d t).2
    | none => none) :: frGr n0 W mask G d (i + 1) r
def frOKr (n0 W mask : Nat) (G : Heap) (d : Nat) : Nat → Heap → Bool
  | _, [] => true
  | i, x :: r => (frF n0 mask i || ((Nat.blt i n0 && !W.testBit i) || match x with
    | some t => (lendR (frF n0 mask) G d t).1
    | none => true)) && frOKr n0 W mask G d (i + 1) r
theorem frGr_len {n0 W mask : Nat} {G : Heap} {d : Nat} : ∀ {i : Nat} {H : Heap}, (frGr n0 W mask G d i H).length = H.length
  | _, [] => rfl
  | i, _ :: r => by simp [frGr, frGr_len (H := r)]
theorem frGr_get {n0 W mask : Nat} {G : Heap} {d : Nat} : ∀ {i : Nat} {H : Heap} {k : Nat} {t' : T}, frOKr n0 W mask G d i H = true → hget (frGr n0 W mask G d i H) k = some t' →
    frF n0 mask (i + k) = false ∧ ∃ t, hget H k = some t ∧ ((t' = t ∧ i + k < n0 ∧ W.testBit (i + k) = false) ∨ ((lendR (frF n0 mask) G d t).1 = true ∧ t' = (lendR (frF n0 mask) G d t).2))
  | i, x :: r, 0, t', ho, hg => by
    simp only [frOKr, Bool.and_eq_true] at ho
    simp only [frGr, hget] at hg
    cases hF : frF n0 mask i with
    | true => rw [hF] at hg; cases hg
    | false =>
      rw [hF] at hg ho
      simp only [cond_false, Bool.false_or] at hg ho
      refine ⟨rfl, ?_⟩
      cases hb : (Nat.blt i n0 && !W.testBit i) with
      | true =>
        rw [hb] at hg
        simp only [Bool.and_eq_true, Bool.not_eq_true'] at hb
        exact ⟨t', hg, .inl ⟨rfl, by simpa using hb.1, hb.2⟩⟩
      | false =>
        rw [hb] at hg ho
        cases x with
        | none => cases hg
        | some t =>
          cases hg
          exact ⟨t, rfl, .inr ⟨by simpa using ho.1, rfl⟩⟩
  | i, x :: r, k + 1, t', ho, hg => by
    simp only [frOKr, Bool.and_eq_true] at ho
    simp only [frGr, hget] at hg
    have := frGr_get (i := i + 1) (k := k) ho.2 hg
    rw [show i + 1 + k = i + (k + 1) by omega] at this
    exact this
  | _, [], _, _, _, hg => by cases hg
theorem frGr_low {n0 W mask : Nat} {G : Heap} {d : Nat} : ∀ {i : Nat} {H : Heap} {k : Nat}, i + k < n0 → W.testBit (i + k) = false → hget (frGr n0 W mask G d i H) k = hget H k
  | i, x :: r, 0, h, hW => by
    have hF : frF n0 mask i = false := by
      unfold frF
      cases hb : Nat.ble n0 i with
      | false => rfl
      | true => have := Nat.le_of_ble_eq_true hb; omega
    have hb : (Nat.blt i n0 && !W.testBit i) = true := by
      simp only [Bool.and_eq_true, Bool.not_eq_true']
      exact ⟨by simpa using h, hW⟩
    simp only [frGr, hget, hF, hb, cond_false, cond_true]
  | i, x :: r, k + 1, h, hW => by
    simp only [frGr, hget]
    exact frGr_low (i := i + 1) (by omega) (by rw [show i + 1 + k = i + (k + 1) by omega]; exact hW)
  | _, [], _, _, _ => rfl
open Classical in
theorem Rl.freezeR {K : Nat → Prop} {ρ0 : Rho} {G0 : Heap} {w0 : World} {dS : List Deferred} {m : Nat} {s : St} {a : Act} {w : World} {n0 : Nat} (h : Rl K ρ0 G0 w0 dS m s a w) (hG : Told n0 G0) (mask d : Nat)
    (hok : frOKr n0 s.w mask s.G d 0 s.G = true) (hokT : frTOK n0 mask s.G d s.tm = true) (hall : ∀ j, j < n0 → ∃ t, hget s.G j = some t) (hK : ∀ k, k < G0.length → s.t.testBit k = true → K k) (hT : ∀ k, k < n0 → s.t.testBit k = true) :
    Rl K ρ0 G0 w0 dS m ⟨frT n0 mask s.G d s.tm, frGr n0 s.w mask s.G d 0 s.G, true, s.t, s.w⟩ a w := by
  obtain ⟨⟨ρ, hp, htm, hsim⟩, hsz, hdfr, hst, hlen⟩ := h
  let F := frF n0 mask
  have hF0 : ∀ k, F k = true → n0 ≤ k := fun k hk => by
    have hk' : (Nat.ble n0 k && mask.testBit k) = true := hk
    simp only [Bool.and_eq_true] at hk'
    exact Nat.le_of_ble_eq_true hk'.1
  -- the blocks of these names
  let isF : Nat → Prop := fun b => ∃ k t p, F k = true ∧ hget s.G k = some t ∧ ρ k = some p ∧ p.1 = b
  let ρ' : Rho := ⟨ρ.ids, fun b => if isF b then allRo w b else ρ.ro b⟩
  have all : ∀ k, K k ∨ G0.length ≤ k → K k ∨ G0.length ≤ k := fun _ h => h
  have inK : ∀ k, K k ∨ G0.length ≤ k := fun k => by
    rcases Nat.lt_or_ge k G0.length with h | h
    · exact .inl (hK k h (hT k (hG.1 ▸ h)))
    · exact .inr h
  have old : ∀ b, isF b → ρ.ro b = none := fun b ⟨k, t, p, h1, h2, h3, h4⟩ => by
    rw [← h4]
    exact hsim.dis k t p (inK k) h2 h3
  have hro : ∀ b cs, ρ.ro b = some cs → ρ'.ro b = some cs := fun b cs hb => by
    show (if _ then _ else _) = _
    rw [if_neg (fun hf => by rw [old b hf] at hb; cases hb)]
    exact hb
  have hext : ρ.Ext ρ' := ⟨fun _ _ h => h, hro⟩
  have roOK : RoOK ρ' w := fun b cs hb => by
    have hb' : (if isF b then allRo w b else ρ.ro b) = some cs := hb
    by_cases hf : isF b
    · rw [if_pos hf] at hb'
      exact allRo_ok w (fun _ => none) b cs hb'
    · rw [if_neg hf] at hb'
      exact hsim.ro b cs hb'
  have hnew : ∀ b cs, ρ'.ro b = some cs → ρ.ro b = some cs ∨ (w0.heap.size ≤ b ∧ isF b) := fun b cs hb => by
    have hb' : (if isF b then allRo w b else ρ.ro b) = some cs := hb
    by_cases hf : isF b
    · refine .inr ⟨?_, hf⟩
      obtain ⟨k, t, p, h1, h2, h3, h4⟩ := hf
      rcases hp.new k t p (by rw [hG.1]; exact hF0 k h1) h2 h3 with h5 | ⟨j, q, a1, a2, a3, a4, a5⟩
      · omega
      · obtain ⟨t2, h6⟩ := hall j (hG.1 ▸ a1)
        have a3' : hget s.G j = none := a3
        rw [a3'] at h6
        cases h6
    · rw [if_neg hf] at hb'
      exact .inl hb'
  have hsimK : Sim (bitK (2 ^ s.G.length - 1)) ρ s.G w := hsim.weak fun k _ _ => inK k
  have lnd : ∀ t, (lend F s.G d t).1 = true → Lent ρ ρ' t (lend F s.G d t).2.1 := by
    intro t ht
    -- only names of F are looked at, and all of them have blocks
    have hl : ∀ id p t cs ty fr, F id = true → hget s.G id = some t → ρ id = some p → w.heap[p.1]? = some (.cells cs ty fr) → ρ'.ro p.1 = some cs := fun id p t cs ty fr hf hg hq hw => by
      have : isF p.1 := ⟨id, t, p, hf, hg, hq, rfl⟩
      show (if _ then _ else _) = _
      rw [if_pos this]
      simp [allRo, hw]
    exact lend_soundF (ρ := ρ) (ρ1 := ρ') rfl hro hsim inK (fun id p t cs ty fr h _ => hl id p t cs ty fr h) d t ht
  have apart : ∀ k t p, F k = false → hget s.G k = some t → ρ k = some p → ρ'.ro p.1 = none := fun k t p hf hg hq => by
    have : ¬ isF p.1 := fun ⟨k2, t2, p2, h1, h2, h3, h4⟩ => by
      have := hsim.inj k2 k t2 t p2 p (inK k2) (inK k) h2 hg h3 hq h4
      subst this
      rw [h1] at hf
      cases hf
    show (if _ then _ else _) = _
    rw [if_neg this]
    exact hsim.dis k t p (inK k) hg hq
  have ent : ∀ k t', hget (frGr n0 s.w mask s.G d 0 s.G) k = some t' → F k = false ∧ ∃ t, hget s.G k = some t ∧ t.size = t'.size ∧ (∀ cs, (R ρ t).c cs → (R ρ' t').c cs) := fun k t' hg => by
    obtain ⟨h1, t, h2, h3⟩ := frGr_get hok hg
    rw [Nat.zero_add] at h1
    refine ⟨h1, t, h2, ?_⟩
    rcases h3 with ⟨rfl, _, _⟩ | ⟨h4, rfl⟩
    · exact ⟨rfl, fun cs hc => zr7 hext hc⟩
    · exact ⟨(lendR_size d t).symm, lendR_sound lnd t h4⟩
  refine ⟨⟨ρ', ?_, fun t => ?_, ?_⟩, hsz, hdfr, ?_, frT_len.trans hlen⟩
  · exact {
      ext := hp.ext.trans hext
      dom := fun k hk => hp.dom k (by
        rcases hk with hk | hk
        · exact .inl hk
        · refine .inr ?_
          have hk' : (frGr n0 s.w mask s.G d 0 s.G).length ≤ k := hk
          rw [frGr_len] at hk'
          exact hk')
      val := trivial
      sim := fun k t' p hk hg hq => by
        obtain ⟨h1, t, h2, h3, h4⟩ := ent k t' hg
        obtain ⟨cs, ty, fr, b1, b2, b3, b4, b5⟩ := hsim.blk k t p (inK k) h2 hq
        exact ⟨cs, ty, fr, b1, b2, by rw [← h3]; exact b3, by rw [← h3]; exact h4 _ b4, b5⟩
      vac := fun k t' hk hg hq => by
        obtain ⟨h1, t, h2, h3, h4⟩ := ent k t' hg
        rw [← h3]
        exact hsim.vac k t (inK k) h2 hq
      new := fun k t' p hk hg hq => by
        obtain ⟨h1, t, h2, h3, h4⟩ := ent k t' hg
        rcases hp.new k t p hk h2 hq with h5 | ⟨j, q, a1, a2, a3, a4, a5⟩
        · exact .inl h5
        · obtain ⟨t2, h6⟩ := hall j (hG.1 ▸ a1)
          have a3' : hget s.G j = none := a3
          rw [a3'] at h6
          cases h6
      inj := fun k k' t t' p p' hk hk' hg hg' hq hq' he => by
        obtain ⟨_, t0, h2, _⟩ := ent k t hg
        obtain ⟨_, t1, h2', _⟩ := ent k' t' hg'
        exact hp.inj k k' t0 t1 p p' hk hk' h2 h2' hq hq' he
      frame := hp.frame
      size := hp.size
      os := hp.os
      tape := hp.tape
      output := hp.output
      ro := fun b cs hb => by
        rcases hnew b cs hb with h1 | ⟨h1, _⟩
        · exact hp.ro b cs h1
        · exact .inr ⟨h1, roOK b cs hb⟩
      dis := fun k t' p hk hg hq => by
        obtain ⟨h1, t, h2, _⟩ := ent k t' hg
        exact apart k t p h1 h2 hq }
  · rcases frT_get (n0 := n0) (mask := mask) (G := s.G) (d := d) (l := s.tm) (t := t) hokT with h1 | ⟨h1, h2⟩
    · show (R ρ' (tget (frT n0 mask s.G d s.tm) t)).v _
      rw [h1]; trivial
    · show (R ρ' (tget (frT n0 mask s.G d s.tm) t)).v _
      rw [h2]
      exact (lnd _ h1).2.1 _ (htm t)
  · refine ⟨fun k t' p _ hg hq => ?_, fun k t' _ hg hq => ?_, fun k k' t t' p p' _ _ hg hg' hq hq' he => ?_, roOK, fun k t' p _ hg hq => ?_⟩
    · obtain ⟨h1, t, h2, h3, h4⟩ := ent k t' hg
      obtain ⟨cs, ty, fr, b1, b2, b3, b4, b5⟩ := hsim.blk k t p (inK k) h2 hq
      exact ⟨cs, ty, fr, b1, b2, by rw [← h3]; exact b3, by rw [← h3]; exact h4 _ b4, b5⟩
    · obtain ⟨h1, t, h2, h3, h4⟩ := ent k t' hg
      rw [← h3]
      exact hsim.vac k t (inK k) h2 hq
    · obtain ⟨_, t0, h2, _⟩ := ent k t hg
      obtain ⟨_, t1, h2', _⟩ := ent k' t' hg'
      exact hsim.inj k k' t0 t1 p p' (inK k) (inK k') h2 h2' hq hq' he
    · obtain ⟨h1, t, h2, _⟩ := ent k t' hg
      exact apart k t p h1 h2 hq
  · refine ⟨?_, hst.wt, fun k hk hb => ?_⟩
    · show G0.length ≤ (frGr n0 s.w mask s.G d 0 s.G).length
      rw [frGr_len]
      exact hst.len
    · show hget (frGr n0 s.w mask s.G d 0 s.G) k = hget G0 k
      rw [frGr_low (by rw [Nat.zero_add, ← hG.1]; exact hk) (by rw [Nat.zero_add]; exact hb)]
      exact hst.old k hk hb
theorem Tr.frz {n0 W : Nat} {c : Code} {s : St} {e : Ex} {tm tm' : List T} {G G' : Heap} (mask d : Nat) (h : Tr P n0 c s e (stW n0 W tm G)) (ht : frT n0 mask G d tm = tm') (hG' : frGr n0 W mask G d 0 G = G')
    (hok : frOKr n0 W mask G d 0 G = true) (hokT : frTOK n0 mask G d tm = true) (hall : ∀ j, j < n0 → ∃ t, hget G j = some t) : Tr P n0 c s e (stW n0 W tm' G') := by
  subst ht hG'
  refine ⟨?_, h.t, ?_, fun K ρ0 G0 w0 dS m hG g1 g2 a w hR => ?_⟩
  · show _ → n0 ≤ (frGr n0 W mask G d 0 G).length
    rw [frGr_len]; exact h.len
  · show (frT n0 mask G d tm).length = _
    rw [frT_len]; exact h.tm
  · refine wp_mono (h.run K ρ0 G0 w0 dS m hG g1 g2 a w hR) ?_
    rintro e1 a1 w1 ⟨rfl, hR1⟩
    exact ⟨rfl, Rl.freezeR (s := stW n0 W tm G) hR1 hG mask d hok hokT hall (fun k hk hb => g1 k hk hb) fun k hk => zk0 hk⟩
def LeL : List (Nat × T) → List (Nat × T) → Prop
  | [], [] => True
  | (i, a) :: l, (j, b) :: m => i = j ∧ (∀ ρ x, (R ρ a).v x → (R ρ b).v x) ∧ LeL l m
  | _, _ => False
def LeG : Heap → Heap → Prop
  | [], [] => True
  | some a :: l, some b :: m => (a.size = b.size ∧ ∀ ρ cs, (R ρ a).c cs → (R ρ b).c cs) ∧ LeG l m
  | none :: l, none :: m => LeG l m
  | _, _ => False
theorem LeL.refl : ∀ l, LeL l l
  | [] => trivial
  | (_, _) :: l => ⟨rfl, fun _ _ h => h, LeL.refl l⟩
theorem LeG.refl : ∀ l, LeG l l
  | [] => trivial
  | some _ :: l => ⟨⟨rfl, fun _ _ h => h⟩, LeG.refl l⟩
  | none :: l => LeG.refl l
theorem pickT_le : ∀ {l m : List (Nat × T)}, LeL l m → ∀ i ρ x, (R ρ (pickT i l)).v x → (R ρ (pickT i m)).v x
  | [], [], _, _, _, _, h => h
  | (j, a) :: l, (j', b) :: m, ⟨e, h1, h2⟩, i, ρ, x, h => by
    cases e
    simp only [pickT] at h ⊢
    cases hb : Nat.beq i j with
    | true => rw [hb] at h; exact h1 ρ x h
    | false => rw [hb] at h; exact pickT_le h2 i ρ x h
  | [], _ :: _, h, _, _, _, _ => h.elim
  | _ :: _, [], h, _, _, _, _ => h.elim
theorem tmk_le {l m : List (Nat × T)} (h : LeL l m) : ∀ (n i t : Nat) (ρ : Rho) (x : Value), (R ρ (tget (tmk l i n) t)).v x → (R ρ (tget (tmk m i n) t)).v x
  | 0, _, _, _, _, hx => hx
  | n + 1, i, 0, ρ, x, hx => pickT_le h i ρ x hx
  | n + 1, i, t + 1, ρ, x, hx => tmk_le h n (i + 1) t ρ x hx
theorem tmk_len (l : List (Nat × T)) : ∀ n i, (tmk l i n).length = n
  | 0, _ => rfl
  | n + 1, i => by simp [tmk, tmk_len l n]
theorem LeG.len : ∀ {G G' : Heap}, LeG G G' → G'.length = G.length
  | [], [], _ => rfl
  | some _ :: l, some _ :: m, h => by simp [LeG.len h.2]
  | none :: l, none :: m, h => by simp [LeG.len (G := l) (G' := m) h]
  | [], _ :: _, h => h.elim
  | _ :: _, [], h => by simp [LeG] at h
  | some _ :: _, none :: _, h => h.elim
  | none :: _, some _ :: _, h => h.elim
theorem LeG.get : ∀ {G G' : Heap}, LeG G G' → ∀ k t', hget G' k = some t' → ∃ t, hget G k = some t ∧ t.size = t'.size ∧ ∀ ρ cs, (R ρ t).c cs → (R ρ t').c cs
  | [], [], _, _, _, hg => by cases hg
  | some a :: l, some b :: m, h, 0, t', hg => by cases hg; exact ⟨a, rfl, h.1.1, h.1.2⟩
  | some a :: l, some b :: m, h, k + 1, t', hg => LeG.get (G := l) (G' := m) h.2 k t' hg
  | none :: l, none :: m, h, 0, t', hg => by cases hg
  | none :: l, none :: m, h, k + 1, t', hg => LeG.get (G := l) (G' := m) h k t' hg
  | [], _ :: _, h, _, _, _ => h.elim
  | _ :: _, [], h, _, _, _ => by simp [LeG] at h
  | some _ :: _, none :: _, h, _, _, _ => h.elim
  | none :: _, some _ :: _, h, _, _, _ => h.elim
theorem LeG.none : ∀ {G G' : Heap}, LeG G G' → ∀ k, hget G' k = Option.none → hget G k = Option.none
  | [], [], _, _, _ => rfl
  | some a :: l, some b :: m, h, 0, hg => by cases hg
  | some a :: l, some b :: m, h, k + 1, hg => LeG.none (G := l) (G' := m) h.2 k hg
  | Option.none :: l, Option.none :: m, h, 0, _ => rfl
  | Option.none :: l, Option.none :: m, h, k + 1, hg => LeG.none (G := l) (G' := m) h k hg
  | [], _ :: _, h, _, _ => h.elim
  | _ :: _, [], h, _, _ => by simp [LeG] at h
  | some _ :: _, Option.none :: _, h, _, _ => h.elim
  | Option.none :: _, some _ :: _, h, _, _ => h.elim
theorem St.leL {n0 W n : Nat} {L L' : List (Nat × T)} {G G' : Heap} (h : LeL L L') (hG : LeG G G') (hlow : ∀ k, k < n0 → W.testBit k = false → hget G' k = hget G k) : St.le n0 (stW n0 W (tmk L 0 n) G) (stW n0 W (tmk L' 0 n) G') :=
  ⟨tmk_le h n 0, by simp only [stW, tmk_len], hG.len, hG.get, hG.none, hlow, rfl, rfl⟩
end
end Go.AE
namespace Go.Proofs.YtbcbmkgfjegbhaaGreat
open Go.AE Fardel
set_option maxRecDepth 100000
theorem LeG.last {a b : T} (h : a.size = b.size ∧ ∀ ρ cs, (R ρ a).c cs → (R ρ b).c cs) : ∀ G, LeG (G ++ [some a]) (G ++ [some b])
  | [] => ⟨h, trivial⟩
  | some _ :: G => ⟨⟨rfl, fun _ _ h => h⟩, LeG.last h G⟩
  | none :: G => LeG.last h G
theorem sb_wk {c : Code} {s : St} {e : Ex} {L : List (Nat × T)} {G : Heap} {k : IntKind} {n m : Nat} {F F' : Nat → Int} (h : Tr Tryz.prog 0 c s e (stW 0 0 (tmk L 0 m) (G ++ [some (.ints k n F)]))) (hF : ∀ j, j < n → F j = F' j) :
    Tr Tryz.prog 0 c s e (stW 0 0 (tmk L 0 m) (G ++ [some (.ints k n F')])) := by
  have hl : LeG (G ++ [some (.ints k n F)]) (G ++ [some (.ints k n F')]) := LeG.last (a := .ints k n F) (b := .ints k n F') ⟨rfl, R_ints_congr hF⟩ G
  exact h.weak (St.leL (LeL.refl _) hl fun _ h => absurd h (Nat.not_lt_zero _))
theorem smF_lt {n : Nat} {g : Nat → Int} {N : Int} {j : Nat} (hj : j < n) : ∀ k, smF n g N k j = g j
  | 0 => rfl
  | k + 1 => by
    unfold smF
    rw [zc9 (by omega)]
    exact smF_lt hj k
theorem smF_by {n : Nat} {g : Nat → Int} {N : Int} {i : Nat} : ∀ k, i < k → smF n g N k (n + i) = smBy N i
  | k + 1, h => by
    unfold smF
    rcases Nat.lt_or_ge i k with h1 | h1
    · rw [zc9 (by omega)]
      exact smF_by k h1
    · obtain rfl : i = k := by omega
      rw [zd0 (Nat.le_refl _)]
      show smL N i (0 + (n + i - (n + i))) = _
      rw [show 0 + (n + i - (n + i)) = 0 by omega]; rfl
def sbB (t : Nat) (A : Nat → Int) : Nat → Int := catF t A (padT (t % 128) (t : Int))
theorem sbB_lt {t j : Nat} {A : Nat → Int} (h : j < t) : sbB t A j = A j := zc9 h
theorem sbB_p {t : Nat} {A : Nat → Int} : sbB t A t = 128 := by
  unfold sbB
  rw [zd0 (Nat.le_refl _), Nat.sub_self]
  unfold padT
  rw [smF_lt (by omega)]; rfl
theorem smG0_0 {j : Nat} (h : 1 ≤ j) : smG0 j = 0 := zd0 h
theorem sbB_z {t j : Nat} {A : Nat → Int} (h1 : t < j) (h2 : j < t + (1 + (smZ (t % 128) + 8).toNat)) : sbB t A j = 0 := by
  unfold sbB
  rw [zd0 (by omega)]
  unfold padT
  rw [smF_lt (by omega)]
  exact smG0_0 (by omega)
theorem sbB_b {t i : Nat} {A : Nat → Int} (h : i < 8) : sbB t A (t + (1 + (smZ (t % 128) + 8).toNat) + i) = smBy t i := by
  unfold sbB
  rw [zd0 (by omega), show t + (1 + (smZ (t % 128) + 8).toNat) + i - t = (1 + (smZ (t % 128) + 8).toNat) + i by omega]
  exact smF_by 8 h
theorem smBy_u8 (N i : Int) : 0 ≤ smBy N i ∧ smBy N i < 256 := by
  unfold smBy
  rw [IntKind.wrap_u8]
  omega
theorem sbB_dig {t : Nat} {A : Nat → Int} (h : digs 256 t A) {j : Nat} (hj : j < t + padN (t % 128)) : 0 ≤ sbB t A j ∧ sbB t A j < 256 := by
  unfold padN at hj
  rcases Nat.lt_or_ge j t with h1 | h1
  · rw [sbB_lt h1]; exact h j h1
  · rcases Nat.eq_or_lt_of_le h1 with rfl | h1
    · rw [sbB_p]; omega
    · rcases Nat.lt_or_ge j (t + (1 + (smZ (t % 128) + 8).toNat)) with h2 | h2
      · rw [sbB_z h1 h2]; omega
      · rw [show j = t + (1 + (smZ (t % 128) + 8).toNat) + (j - (t + (1 + (smZ (t % 128) + 8).toNat))) by omega, sbB_b (by omega)]
        exact smBy_u8 _ _
theorem tmod_nat (n : Nat) : (n : Int).tmod 128 = ((n % 128 : Nat) : Int) := by
  rw [Int.tmod_eq_emod_of_nonneg (by omega)]; omega
theorem sz_okL {x : Nat} {b c : Nat} (h : x ≤ b) (h2 : x ≤ c) (y : Nat) : ((y.mul 0).add x).ble b = true ∧ x.ble c = true := by
  have e : (y.mul 0).add x = x := by show y * 0 + x = x; omega
  rw [e]
  exact ⟨Nat.ble_eq_true_of_le h, Nat.ble_eq_true_of_le h2⟩
def sbK : Nat := za2 [0, 4, 5, 6, 7]
theorem sb_head {t : Nat} {A : Nat → Int} {cp : Option Nat} (h : V8) (hl : t ≤ 1099511627776) :
    Tr Tryz.prog 0 (sbN 1) (stW 0 0 (tmk (sbA t A cp) 0 73) (sbG0 h shK)) .normal (stW 0 0 (tmk (sbT t A cp (t + 1)) 0 73) (sbG h shK (t + 1) (sbB t A))) := by
  have h1 := sb_1 t A cp h shK (by
    unfold sb_1V
    rw [b5]
    obtain ⟨s1, s2⟩ := sz_okL (x := 0 + t) (b := 140737488355327) (c := 9223372036854775806) (by omega) (by omega) (0 + t + 1)
    rw [s1, s2, decide_eq_true (Nat.le_refl (0 + t)), Nat.ble_eq_true_of_le (by omega), Nat.ble_eq_true_of_le (by omega)]; rfl)
  rw [show 0 + t = t from Nat.zero_add t] at h1
  have h2 := sb_wk (G := sbG0 h shK ++ [none, none, some (.ints .u8 1 (sbO 128))]) (F' := sbB t A) h1 (fun j hj => by
    rcases Nat.lt_or_ge j t with h1 | h1
    · rw [zc9 h1, zd0 (Nat.zero_le _), sbB_lt h1, Nat.sub_zero]
    · obtain rfl : j = t := by omega
      rw [zd0 (Nat.le_refl _), sbB_p, Nat.sub_self]; rfl)
  exact Tr.pick [0, 1, 2, 6] sbK h2 (tm' := tmk (sbT t A cp (t + 1)) 0 73) (G' := sbG h shK (t + 1) (sbB t A)) (by kernel_rfl) (by kernel_rfl) (by kernel_rfl) trivial (by kernel_rfl) (by kernel_rfl)
theorem sb_zeros {t : Nat} {A : Nat → Int} {cp : Option Nat} (h : V8) (hl : t ≤ 1099511627776) {Z : Nat} (hZ : Z = (smZ (t % 128)).toNat) :
    Tr Tryz.prog 0 (sbN 2) (stW 0 0 (tmk (sbT t A cp (t + 1)) 0 73) (sbG h shK (t + 1) (sbB t A))) .normal (stW 0 0 (tmk (sbT t A cp (t + 1 + Z)) 0 73) (sbG h shK (t + 1 + Z) (sbB t A))) := by
  have hz := smZ_ok (m := t % 128) (by omega)
  have hz2 : smZ (t % 128) = (239 - ((t % 128 : Nat) : Int)) % 128 := rfl
  rw [sbN2_eq]
  refine Tr.iter (n := Z) (S := fun q => stW 0 0 (tmk (sbT t A cp (t + 1 + q)) 0 73) (sbG h shK (t + 1 + q) (sbB t A))) (fun q hq => ?_) (sb_2x t A cp h shK (t + 1 + Z) (sbB t A) (by
    unfold sb_2xV
    rw [tmod_nat, show (t + 1 + Z) % 128 = 112 by omega]; rfl))
  have h1 := sb_2 t A cp h shK (t + 1 + q) (sbB t A) (by
    unfold sb_2V
    obtain ⟨s1, s2⟩ := sz_okL (x := t + 1 + q) (b := 140737488355327) (c := 9223372036854775806) (by omega) (by omega) (t + 1 + q + 1)
    have s3 : ((((t + 1 + q) % 128 : Nat) : Int) == 112) = false := beq_eq_false_iff_ne.mpr (by omega)
    rw [tmod_nat, s1, s2, s3, decide_eq_true (Nat.le_refl (t + 1 + q))]; rfl)
  have h2 := sb_wk (G := sbG0 h shK ++ [none, some (.ints .u8 1 (sbO 0))]) (F' := sbB t A) h1 (fun j hj => by
    rcases Nat.lt_or_ge j (t + 1 + q) with h1 | h1
    · rw [zc9 h1]
    · obtain rfl : j = t + 1 + q := by omega
      rw [zd0 (Nat.le_refl _), sbB_z (by omega) (by omega), Nat.sub_self]; rfl)
  exact Tr.pick [0, 1, 2, 5] sbK h2 (tm' := tmk (sbT t A cp (t + 1 + q + 1)) 0 73) (G' := sbG h shK (t + 1 + q + 1) (sbB t A)) (by kernel_rfl) (by kernel_rfl) (by kernel_rfl) trivial (by kernel_rfl) (by kernel_rfl)
theorem sb_eight {t : Nat} {A : Nat → Int} {cp : Option Nat} (h : V8) (hl : t ≤ 1099511627776) {Z : Nat} (hZ : Z = (smZ (t % 128)).toNat) :
    Tr Tryz.prog 0 (sbN 3) (stW 0 0 (tmk (sbT t A cp (t + 1 + Z)) 0 73) (sbG h shK (t + 1 + Z) (sbB t A))) .normal (stW 0 0 (tmk (sbT t A cp (t + 1 + Z + 8)) 0 73) (sbG h shK (t + 1 + Z + 8) (sbB t A))) := by
  have hz := smZ_ok (m := t % 128) (by omega)
  generalize hn : t + 1 + Z = n
  have h1 := sb_4 t A cp h shK n (sbB t A) (by
    unfold sb_4V
    obtain ⟨s1, s2⟩ := sz_okL (x := n) (b := 140737488355320) (c := 9223372036854775799) (by omega) (by omega) (n + 8)
    rw [s1, s2, decide_eq_true (Nat.le_refl n)]; rfl)
  have h2 := sb_wk (G := sbG0 h shK ++ [none, some (.ints .u8 8 z8)]) (F' := sbB t A) h1 (fun j hj => by
    rcases Nat.lt_or_ge j n with h1 | h1
    · rw [zc9 h1]
    · rw [zd0 h1, sbB_z (by omega) (by omega), z8_eq])
  exact Tr.pick [0, 1, 2, 5] sbK h2 (tm' := tmk (sbT t A cp (n + 8)) 0 73) (G' := sbG h shK (n + 8) (sbB t A)) (by kernel_rfl) (by kernel_rfl) (by kernel_rfl) trivial (by kernel_rfl) (by kernel_rfl)
theorem sb_bytes {t : Nat} {A : Nat → Int} (h : V8) (hl : t ≤ 1099511627776) {n : Nat} (hn : n = t + (1 + (smZ (t % 128) + 8).toNat)) (b : Int) (hb : b = IntKind.u64.wrap (IntKind.u64.wrap (t : Int) * 8)) :
    Tr Tryz.prog 0 (sbN 5) (stW 0 0 (tmk (sbU n b) 0 73) (sbG h shK n (sbB t A))) .normal (stW 0 0 (tmk (sbX (.slice 3 [] 0 1 (n + 8) none)) 0 73) (sbG h shK (n + 8) (sbB t A))) := by
  have hz := smZ_ok (m := t % 128) (by omega)
  rw [sbN5_eq]
  refine Tr.seq (sb_6 h shK n (sbB t A) b) ?_
  refine Tr.iter (n := 8) (S := fun q => stW 0 0 (tmk (sbUi (n + q) b (7 - (q : Int))) 0 73) (sbG h shK (n + q) (sbB t A))) (fun q hq => ?_) (sb_7x h shK (n + 8) (sbB t A) b (7 - (8 : Nat)) (by unfold sb_7xV; rfl))
  have h1 := sb_7 h shK (n + q) (sbB t A) b (7 - (q : Int)) (by
    unfold sb_7V
    obtain ⟨s1, s2⟩ := sz_okL (x := n + q) (b := 140737488355327) (c := 9223372036854775806) (by omega) (by omega) (n + q + 1)
    rw [s1, s2, decide_eq_true (Nat.le_refl (n + q)), decide_eq_true (show 0 ≤ IntKind.u64.wrap (8 * (7 - (q : Int))) by rw [IntKind.wrap_u64]; omega), decide_eq_true (show (7 : Int) - q ≥ 0 by omega), decide_eq_true (show -9223372036854775808 ≤ 8 * (7 - (q : Int)) ∧ 8 * (7 - (q : Int)) ≤ 9223372036854775807 by omega), decide_eq_true (show -9223372036854775808 ≤ (7 - (q : Int)) - 1 ∧ (7 - (q : Int)) - 1 ≤ 9223372036854775807 by omega)]; rfl)
  have e : IntKind.u8.wrap (shrI .u64 b (IntKind.u64.wrap (8 * (7 - (q : Int))))) = smBy t q := by
    unfold smBy
    rw [hb, show IntKind.u64.wrap (8 * (7 - (q : Int))) = 56 - 8 * (q : Int) by rw [IntKind.wrap_u64]; omega, show IntKind.u64.wrap (t : Int) = t by rw [IntKind.wrap_u64]; omega]
  rw [e, show (7 - (q : Int)) - 1 = 7 - ((q + 1 : Nat) : Int) by omega] at h1
  have h2 := sb_wk (G := sbG0 h shK ++ [none, some (.ints .u8 1 (sbO (smBy t q)))]) (F' := sbB t A) h1 (fun j hj => by
    rcases Nat.lt_or_ge j (n + q) with h1 | h1
    · rw [zc9 h1]
    · obtain rfl : j = n + q := by omega
      rw [zd0 (Nat.le_refl _), hn, sbB_b hq, Nat.sub_self]; rfl)
  exact Tr.pick [0, 1, 2, 5] (za2 [4, 5, 6, 7, 8, 9]) h2 (tm' := tmk (sbUi (n + (q + 1)) b (7 - ((q + 1 : Nat) : Int))) 0 73) (G' := sbG h shK (n + (q + 1)) (sbB t A)) (by kernel_rfl) (by kernel_rfl) (by kernel_rfl) trivial (by kernel_rfl) (by kernel_rfl)
theorem sb_blocks {B : Nat → Int} (h : V8) {q : Nat} (hB : digs 256 (128 * q) B) :
    Tr Tryz.prog 0 (sbN 6) (stW 0 0 (tmk (sbX (.fsi .u8 (128 * q) B none)) 0 73) (sbG0 h shK)) .normal (stW 0 0 (tmk sbY 0 73) (sbG0 (shBs h B q) shK)) := by
  rw [sbN6_eq]
  have h0 : Tr Tryz.prog 0 (.block 4 (.loop sbB4)) (stW 0 0 (tmk (sbX (.fsi .u8 (128 * q - 128 * 0) (wrP B 0) none)) 0 73) (sbG0 (shBs h B 0) shK)) .normal (stW 0 0 (tmk sbY 0 73) (sbG0 (shBs h B q) shK)) := by
    refine Tr.iter (n := q) (S := fun i => stW 0 0 (tmk (sbX (.fsi .u8 (128 * q - 128 * i) (wrP B i) none)) 0 73) (sbG0 (shBs h B i) shK)) (fun i hi => ?_) (sb_10x _ shK _ _ (by
      unfold sb_10xV
      rw [decide_eq_false (by omega)]; rfl))
    have h1 := sb_10 (shBs h B i) shK (128 * q - 128 * i) (wrP B i) (by
      unfold sb_10V
      rw [holds_of (show Int.toNat 128 - Int.toNat 0 = 128 ∧ 80 = 80 ∧ digs 256 128 fun j => wrP B i (Int.toNat 0 + j) from ⟨rfl, rfl, fun j hj => by
        show 0 ≤ B (128 * i + (0 + j)) ∧ B (128 * i + (0 + j)) < 256
        exact hB _ (by omega)⟩),
        decide_eq_true (show (0 : Int) ≤ ((128 * q - 128 * i : Nat) : Int) ∧ ((128 * q - 128 * i : Nat) : Int) ≤ ((128 * q - 128 * i : Nat) : Int) by omega),
        decide_eq_true (show (0 : Int) ≤ 128 ∧ 128 ≤ ((128 * q - 128 * i : Nat) : Int) by omega), decide_eq_true (show ((128 * q - 128 * i : Nat) : Int) > 0 by omega)]; rfl)
    have e1 : 128 * q - 128 * i - 128 = 128 * q - 128 * (i + 1) := by omega
    have e2 : (fun j => wrP B i (128 + j)) = wrP B (i + 1) := by
      funext j
      unfold wrP
      congr 1
      omega
    have e3 : shBH shK (shBs h B i) (fun j => wrP B i (0 + j)) = shBs h B (i + 1) := by
      show _ = shBH shK (shBs h B i) (fun j => B (128 * i + j))
      congr 1
      funext j
      unfold wrP
      rw [Nat.zero_add]
    rw [e1, e2, e3] at h1
    exact h1
  have e0 : wrP B 0 = B := by
    funext j
    unfold wrP
    congr 1
    omega
  rw [e0, Nat.mul_zero, Nat.sub_zero] at h0
  exact h0
theorem sb_run {t : Nat} {A : Nat → Int} {cp : Option Nat} (hl : t ≤ 1099511627776) (hA : digs 256 t A) :
    Tr Tryz.prog 0 sbC (stW 0 0 (tmk [(0, .fsi .u8 t A cp), (1, v8T shH0), (2, .ints .u64 80 shK)] 0 73) []) .ret (stW 0 0 (tmk [(6, .ptr 2 [])] 0 73) [some (v8T (shBs shH0 (sbB t A) ((t + padN (t % 128)) / 128))), some (.ints .u64 80 shK), some (.ints .u8 64 (shaF t A))]) := by
  refine Tr.preW zh1 mix 0 1 (za2 [0, 4, 5, 6]) (za2 []) (sb_0 t A cp shH0 shK) rfl rfl ?_
  have hz := smZ_ok (m := t % 128) (by omega)
  have hz2 : smZ (t % 128) = (239 - ((t % 128 : Nat) : Int)) % 128 := rfl
  have hN : padN (t % 128) = 1 + (smZ (t % 128) + 8).toNat + 8 := rfl
  obtain ⟨q, hq⟩ : ∃ q, t + padN (t % 128) = 128 * q := ⟨(t + padN (t % 128)) / 128, by omega⟩
  have hs : shaF t A = shOut (shBs shH0 (sbB t A) q) := by
    show shOut (shBs shH0 (sbB t A) ((t + padN (t % 128)) / 128)) = _
    rw [hq, Nat.mul_div_cancel_left _ (by decide)]
  rw [hs, hq, Nat.mul_div_cancel_left _ (by decide), sbC_eq]
  refine Tr.seq (sb_head shH0 hl) (Tr.seq (sb_zeros shH0 hl rfl) (Tr.seq (sb_eight shH0 hl rfl) ?_))
  have hn : t + 1 + (smZ (t % 128)).toNat + 8 = t + (1 + (smZ (t % 128) + 8).toNat) := by omega
  rw [hn]
  refine Tr.seq (sb_5 t A cp shH0 shK _ (sbB t A)) (Tr.seq ?_ (Tr.seq (sb_blocks (q := q) shH0 fun j hj => sbB_dig hA (by omega)) (sb_13 _ shK)))
  have h1 := sb_bytes (A := A) shH0 hl (n := t + (1 + (smZ (t % 128) + 8).toNat)) rfl _ rfl
  have e : t + (1 + (smZ (t % 128) + 8).toNat) + 8 = 128 * q := by omega
  rw [e] at h1
  have h2 := Tr.frz 8 0 h1 (tm' := tmk (sbX (.fsi .u8 (128 * q) (fun j => sbB t A (0 + j)) none)) 0 73) (G' := sbG0 shH0 shK ++ [none]) (by kernel_rfl) (by kernel_rfl) (by kernel_rfl) (by
    have e : frTOK 0 8 (sbG shH0 shK (128 * q) (sbB t A)) 0 (tmk (sbX (.slice 3 [] 0 1 (128 * q) none)) 0 73) = (((true && decide (0 + 128 * q ≤ 128 * q)) && (true && true)) && true) := by kernel_rfl
    rw [e, decide_eq_true (by omega)]; rfl) (fun j hj => absurd hj (Nat.not_lt_zero _))
  have e0 : (fun j => sbB t A (0 + j)) = sbB t A := by
    funext j
    rw [Nat.zero_add]
  rw [e0] at h2
  exact Tr.pick [0, 1, 2] (za2 [4, 5, 6, 7]) h2 (tm' := tmk (sbX (.fsi .u8 (128 * q) (sbB t A) none)) 0 73) (G' := sbG0 shH0 shK) (by kernel_rfl) (by kernel_rfl) (by kernel_rfl) trivial (by kernel_rfl) (by kernel_rfl)
theorem rK_mv : mv (evFn Tryz.prog env0 1000000 Tryz.f85) [] = some (true, .ints .u64 80 (litF shKL 0 fun _ => 0)) := by kernel_rfl
theorem rK_ok : SoundM Tryz.prog 85 (za1 constM) := by
  refine SoundM.refine (SoundM.of_ev (za0 _) mix (n := 1000000) (fn := Tryz.f85) (by kernel_rfl) (by kernel_rfl) (by kernel_rfl)) ?_
  intro args vc v hm hvc ρ xs hargs
  unfold constM at hm
  split at hm
  · cases hm
    obtain ⟨r, h1, h2, h3⟩ := za8 rK_mv
    refine ⟨[], hargs, r, h1, h2, fun ρ' x hx => ?_⟩
    rw [h3] at hx
    rw [shK_eq]
    exact zk2 shK0_lit _ _ hx
  · cases hm
noncomputable def sumByV0 : zc0
  | [.fsi .u8 t A _, hT, .ints .u64 m K] => some ⟨holds (t ≤ 1099511627776 ∧ hT = v8T shH0 ∧ m = 80 ∧ K = shK ∧ digs 256 t A), .ints .u8 64 (shaH t A), [some (v8T (shBs shH0 (sbB t A) ((t + padN (t % 128)) / 128))), some (.ints .u64 80 shK), some (.ints .u8 64 (shaF t A))], true⟩
  | _ => none
theorem SumBy0_ok : SoundV Tryz.prog 84 sumByV0 := by
  refine SoundV.of_tr (fn := Tryz.f84) (c := sbC) (by kernel_rfl) (by kernel_rfl) (by kernel_rfl) ?_
  intro args r hm hvc
  unfold sumByV0 at hm
  split at hm
  · rename_i t A cp hT m K
    cases hm
    obtain ⟨h1, rfl, rfl, rfl, h2⟩ := of_holds hvc
    exact ⟨.ret, _, _, _, .inl rfl, sb_run h1 h2, sb_res _ _ _, by rw [shaH_eq]; rfl, rfl, fun _ => rfl⟩
  · cases hm
noncomputable def sumByV : zc0 := frz 0 sumByV0
theorem SumBy_ok : SoundV Tryz.prog 84 sumByV := SumBy0_ok.frz 0
noncomputable def envRs : Env := (env0.set 85 (za1 constM)).set 84 (lift 0 sumByV)
theorem envRs_ok : EnvOK Tryz.prog envRs := ((za0 _).set rK_ok).set (SumBy_ok.lift 0)
noncomputable def rsC : Code := bodyC Tryz.f44
noncomputable def rsW (t : Nat) (A : Nat → Int) : Bool := holds (t ≤ 1099511627776 ∧ v8T shH0 = v8T shH0 ∧ 80 = 80 ∧ shK = shK ∧ digs 256 t A) && true && true && true && true
theorem rs_tr {t : Nat} {A : Nat → Int} {cp : Option Nat} (h1 : t ≤ 1099511627776) (h2 : digs 256 t A) : Tr Tryz.prog 0 rsC (stW 0 0 (tmk [(0, .fsi .u8 t A cp)] 0 7) []) .ret (stW 0 0 (tmk [(2, .ptr 0 [])] 0 7) [some (.ints .u8 64 (shaH t A))]) :=
  Tr.evW (n := ⟨1000000, []⟩) (N := 1) (keep := za2 [2]) (nm := 0) (vc := rsW t A) envRs_ok mix (by kernel_rfl) (by unfold rsW; rw [holds_of ⟨h1, rfl, rfl, rfl, h2⟩]; rfl) rfl rfl rfl
theorem rs_res (o : Nat → Int) : zb3 Tryz.prog (stW 0 0 (tmk [(2, .ptr 0 [])] 0 7) [some (.ints .u8 64 o)]) Tryz.f44.results.toList = some (true, [.ints .u8 64 o], 1) := by kernel_rfl
noncomputable def rSumV0 : zc0
  | [.fsi .u8 t A _] => some ⟨holds (t ≤ 1099511627776 ∧ digs 256 t A), .ints .u8 64 (shaH t A), [some (.ints .u8 64 (shaH t A))], true⟩
  | _ => none
theorem RSum0_ok : SoundV Tryz.prog 44 rSumV0 := by
  refine SoundV.of_tr (fn := Tryz.f44) (c := rsC) (by kernel_rfl) (by kernel_rfl) (by kernel_rfl) ?_
  intro args r hm hvc
  unfold rSumV0 at hm
  split at hm
  · rename_i t A cp
    cases hm
    obtain ⟨h1, h2⟩ := of_holds hvc
    exact ⟨.ret, _, _, _, .inl rfl, rs_tr h1 h2, rs_res _, rfl, rfl, fun _ => rfl⟩
  · cases hm
noncomputable def rSumV : zc0 := frz 0 rSumV0
theorem RSum_ok : SoundV Tryz.prog 44 rSumV := RSum0_ok.frz 0
noncomputable def envSc : Env := env0.set 44 (lift 0 rSumV)
theorem envSc_ok : EnvOK Tryz.prog envSc := (za0 _).set (RSum_ok.lift 0)
noncomputable def cqF (g : Nat → Int) (o : Nat) : Nat → (Nat → Int)
  | 0 => fun _ => 0
  | i + 1 => fun j => bif Nat.beq j i then g (o + i) else cqF g o i j
theorem cqF_lt {g : Nat → Int} {o j : Nat} : ∀ {k : Nat}, j < k → cqF g o k j = g (o + j)
  | k + 1, h => by
    unfold cqF
    by_cases e : j = k
    · subst e; rw [Nat.beq_refl]; rfl
    · rw [beq_ne e]; exact cqF_lt (k := k) (by omega)
noncomputable def scD (f : Nat → Int) : Nat → Int := shaH 32 (fun j => f (0 + j))
noncomputable def scX (D : Nat → Int) : Nat → Int := fun j => bif Nat.beq j 0 then bits .andNot .u8 (cqF D 0 32 0) 7 else cqF D 0 32 j
noncomputable def scY (D : Nat → Int) : Nat → Int := fun j => bif Nat.beq j 31 then bits .or .u8 (bits .andNot .u8 (scX D 31) 128) 64 else scX D j
noncomputable def scC : Code := bodyC Tryz.f18
noncomputable def scG (f : Nat → Int) (D : Nat → Int) : Heap := [some (.ints .u8 32 f), some (.ints .u8 32 (scY D)), some (.ints .u8 64 D), some (.ints .u8 32 (scY D)), none, some (.ints .u8 32 (catF 0 (fun _ => 0) (fun j => D (32 + j))))]
noncomputable def scW (f : Nat → Int) : Bool := holds (32 ≤ 1099511627776 ∧ digs 256 32 (fun j => f (0 + j))) && true && true && true && true
def scT : List T := tmk [(2, .ptr 1 []), (3, .slice 5 [] 0 1 32 none)] 0 32
theorem sc_tr {f : Nat → Int} (h : digs 256 32 f) : Tr Tryz.prog 0 scC (stW 0 0 (tmk [(0, .ints .u8 32 f)] 0 32) []) .ret (stW 0 0 scT (scG f (scD f))) :=
  Tr.evW (n := ⟨1000000, []⟩) (N := 6) (keep := za2 [2, 3]) (nm := 0) (vc := scW f) envSc_ok mix (by kernel_rfl) (by
    unfold scW
    rw [holds_of (show 32 ≤ 1099511627776 ∧ digs 256 32 (fun j => f (0 + j)) from ⟨by decide, fun j hj => by
      show 0 ≤ f (0 + j) ∧ f (0 + j) < _
      rw [Nat.zero_add]; exact h j hj⟩)]; rfl) rfl rfl rfl
noncomputable def scP (a b : T) : T := .tup (.cons a (.cons b .nil))
theorem sc_res (f D : Nat → Int) : zb3 Tryz.prog (stW 0 0 scT (scG f D)) Tryz.f18.results.toList = some (true, [.ints .u8 32 (scY D), .slice 5 [] 0 1 32 none], 2) := by kernel_rfl
theorem or_an {x : Int} (h : 0 ≤ x ∧ x < 256) : bits .andNot .u8 x 128 = bits .and .u8 x 127 := by
  rw [and127 h.1 h.2, u8_andNot _ _ h.1 h.2 (by decide) (by decide)]
  have e : x.toNat &&& (255 - (128 : Int).toNat) = x.toNat % 128 := Nat.and_two_pow_sub_one_eq_mod x.toNat 7
  rw [e]; omega
theorem scD_eq (f : Nat → Int) : scD f = shaH 32 f := by
  unfold scD
  congr 1
  funext j
  rw [Nat.zero_add]
theorem scY_eq (f : Nat → Int) {j : Nat} (hj : j < 32) : scY (scD f) j = secS f j := by
  rw [secS_eq, secD_eq, scD_eq]
  unfold scY secS0
  by_cases e : j = 31
  · subst e
    rw [Nat.beq_refl, cond_true, cond_true]
    unfold scX
    rw [beq_ne (by decide : (31 : Nat) ≠ 0), cond_false, cqF_lt (by decide), or_an (shaH_bd _ _ _)]
  · rw [beq_ne e, cond_false, cond_false]
    unfold scX
    by_cases e0 : j = 0
    · subst e0
      rw [Nat.beq_refl, cond_true, cond_true, cqF_lt (by decide)]
    · rw [beq_ne e0, cond_false, cond_false, cqF_lt hj]
noncomputable def rSecV0 : zc0
  | [.ints .u8 32 f] => some ⟨za4 32 f, scP (.ints .u8 32 (scY (scD f))) (.slice 5 [] 0 1 32 none), scG f (scD f), true⟩
  | _ => none
theorem RSec0_ok : SoundV Tryz.prog 18 rSecV0 := by
  refine SoundV.of_tr (fn := Tryz.f18) (c := scC) (by kernel_rfl) (by kernel_rfl) (by kernel_rfl) ?_
  intro args r hm hvc
  unfold rSecV0 at hm
  split at hm
  · rename_i f
    cases hm
    exact ⟨.ret, _, _, _, .inl rfl, sc_tr (za9 hvc), sc_res _ _, rfl, rfl, fun _ => rfl⟩
  · cases hm
noncomputable def rSecV : zc0
  | [.ints .u8 32 f] => some ⟨za4 32 f, scP (.ints .u8 32 (secS f)) (.fsi .u8 32 (secX f) none), [], true⟩
  | _ => none
theorem rsec_v (f : Nat → Int) : frz 3 rSecV0 [.ints .u8 32 f] = some ⟨za4 32 f && true, scP (.ints .u8 32 (scY (scD f))) (.fsi .u8 32 (fun j => catF 0 (fun _ => 0) (fun j => scD f (32 + j)) (0 + j)) none), [], true⟩ := by kernel_rfl
theorem RSec_ok : SoundV Tryz.prog 18 rSecV := by
  refine SoundV.refine fun args r hr hvc ρ xs hρ hargs => ?_
  unfold rSecV at hr
  split at hr
  · rename_i f
    cases hr
    refine ⟨frz 3 rSecV0, RSec0_ok.frz 3, _, hargs, _, rsec_v f, by rw [show za4 32 f = true from hvc]; rfl, rfl, fun _ => rfl, fun ρ' x hx => ?_⟩
    obtain ⟨vs, e, y, z, e2, hy, u, w, e3, hu, hw⟩ := hx
    refine ⟨vs, e, y, z, e2, zk2 (fun j hj => scY_eq f hj) _ _ hy, u, w, e3, ?_, hw⟩
    refine R_fsi_congr (fun j hj => ?_) ρ' u hu
    rw [zm3, secX_eq, secD_eq, scD_eq, Nat.zero_add]
  · cases hr
noncomputable def envDi : Env := (env0.set 44 (lift 0 rSumV)).set 46 (za1 ReduceP)
theorem envDi_ok : EnvOK Tryz.prog envDi := ((za0 _).set (RSum_ok.lift 0)).set Reduce2_ok
noncomputable def diC : Code := bodyC Tryz.f20
noncomputable def diS (N : Nat) (F : Nat → Int) : Nat → Int := shaH N (fun j => F (0 + j))
noncomputable def diA1 (n : Nat) : Bool := (((0 + n) * Tryz.prog.types[5].bytes).ble 140737488355328 && (0 + n).ble 9223372036854775807)
noncomputable def diA2 (n m : Nat) : Bool := decide (n ≤ n) && (((n + m) * Tryz.prog.types[5].bytes).ble 140737488355328 && (n + m).ble 9223372036854775807)
noncomputable def diH (N : Nat) (F : Nat → Int) : Bool := holds (N ≤ 1099511627776 ∧ digs 256 N (fun j => F (0 + j)))
noncomputable def diR (N : Nat) (F : Nat → Int) : Bool := ((((decide (0 + N ≤ N) && true) && true) && true) && ((diH N F && true) && true)) && (za4 64 (diS N F) && true)
def diF2 (n m : Nat) (f g : Nat → Int) : Nat → Int := catF (0 + n) (catF 0 (fun _ => 0) f) g
def diF3 (n m : Nat) (f g h : Nat → Int) : Nat → Int := catF (0 + n + m) (diF2 n m f g) h
noncomputable def diW2 (n m : Nat) (f g : Nat → Int) : Bool := (diA1 n && (diA2 (0 + n) m && diR (0 + n + m) (diF2 n m f g))) && true
noncomputable def diW3 (n m k : Nat) (f g h : Nat → Int) : Bool := (diA1 n && (diA2 (0 + n) m && (diA2 (0 + n + m) k && diR (0 + n + m + k) (diF3 n m f g h)))) && true
def diT : List T := tmk [(6, .ptr 0 [])] 0 16
noncomputable def diG2 (n m : Nat) (f g : Nat → Int) : Heap := [some (.ints .u8 32 (rdF (diS (0 + n + m) (diF2 n m f g)))), none, none, some (.ints .u8 (0 + n + m) (diF2 n m f g))]
noncomputable def diG3 (n m k : Nat) (f g h : Nat → Int) : Heap := [some (.ints .u8 32 (rdF (diS (0 + n + m + k) (diF3 n m f g h)))), none, none, none, some (.ints .u8 (0 + n + m + k) (diF3 n m f g h))]
theorem di_ev2 (n m : Nat) (f g : Nat → Int) (c1 c2 : Option Nat) : (za3 Tryz.prog envDi ⟨1000000, []⟩ diC (stW 0 0 (tmk [(0, .fsi .u8 n f c1), (1, .fsi .u8 m g c2), (2, .nilslice)] 0 16) [])).map (cutW 0 0 4 (za2 [6]) 0) = some (.ret, diW2 n m f g, diT, diG2 n m f g, true) := by kernel_rfl
theorem di_ev3 (n m k : Nat) (f g h : Nat → Int) (c1 c2 c3 : Option Nat) : (za3 Tryz.prog envDi ⟨1000000, []⟩ diC (stW 0 0 (tmk [(0, .fsi .u8 n f c1), (1, .fsi .u8 m g c2), (2, .fsi .u8 k h c3)] 0 16) [])).map (cutW 0 0 5 (za2 [6]) 0) = some (.ret, diW3 n m k f g h, diT, diG3 n m k f g h, true) := by kernel_rfl
theorem diF2_eq (n m : Nat) (f g : Nat → Int) : diF2 n m f g = catF n f g := by
  unfold diF2
  rw [Nat.zero_add, zm3]
theorem diF3_eq (n m : Nat) (f g h : Nat → Int) : diF3 n m f g h = catF (n + m) (catF n f g) h := by
  unfold diF3
  rw [Nat.zero_add, diF2_eq]
theorem diS_eq (N : Nat) (F : Nat → Int) : diS N F = shaH N F := by
  unfold diS
  congr 1
  funext j
  rw [Nat.zero_add]
theorem digs_cat {n m : Nat} {f g : Nat → Int} (h1 : digs 256 n f) (h2 : digs 256 m g) : digs 256 (n + m) (catF n f g) := fun j hj => by
  rcases Nat.lt_or_ge j n with h | h
  · rw [zc9 h]; exact h1 j h
  · rw [zd0 h]; exact h2 _ (by omega)
theorem diA1_ok {n : Nat} (h : n ≤ 1099511627776) : diA1 n = true := by
  unfold diA1
  rw [b5, Nat.ble_eq_true_of_le (by omega), Nat.ble_eq_true_of_le (by omega)]; rfl
theorem diA2_ok {n m : Nat} (h : n + m ≤ 1099511627776) : diA2 n m = true := by
  unfold diA2
  rw [b5, Nat.ble_eq_true_of_le (by omega), Nat.ble_eq_true_of_le (by omega), decide_eq_true (Nat.le_refl n)]; rfl
theorem diR_ok {N : Nat} {F : Nat → Int} (h : N ≤ 1099511627776) (hF : digs 256 N F) : diR N F = true := by
  unfold diR diH
  rw [diS_eq, shaH_bytes, decide_eq_true (show 0 + N ≤ N by omega), holds_of (show N ≤ 1099511627776 ∧ digs 256 N (fun j => F (0 + j)) from ⟨h, fun j hj => by
    show 0 ≤ F (0 + j) ∧ F (0 + j) < _
    rw [Nat.zero_add]; exact hF j hj⟩)]; rfl
noncomputable def diO2 (n m : Nat) (f g : Nat → Int) : Nat → Int := rdF (shaH (n + m) (catF n f g))
noncomputable def diO3 (n m k : Nat) (f g h : Nat → Int) : Nat → Int := rdF (shaH (n + m + k) (catF (n + m) (catF n f g) h))
theorem di_tr2 {n m : Nat} {f g : Nat → Int} {c1 c2 : Option Nat} (h : n + m ≤ 1099511627776) (h1 : digs 256 n f) (h2 : digs 256 m g) : Tr Tryz.prog 0 diC (stW 0 0 (tmk [(0, .fsi .u8 n f c1), (1, .fsi .u8 m g c2), (2, .nilslice)] 0 16) []) .ret (stW 0 0 diT (diG2 n m f g)) :=
  Tr.evW (n := ⟨1000000, []⟩) (N := 4) (keep := za2 [6]) (nm := 0) (vc := diW2 n m f g) envDi_ok mix (di_ev2 n m f g c1 c2) (by
    unfold diW2
    rw [diF2_eq, Nat.zero_add, diA1_ok (by omega), diA2_ok h, diR_ok h (digs_cat h1 h2)]; rfl) rfl rfl rfl
theorem di_tr3 {n m k : Nat} {f g h : Nat → Int} {c1 c2 c3 : Option Nat} (hl : n + m + k ≤ 1099511627776) (h1 : digs 256 n f) (h2 : digs 256 m g) (h3 : digs 256 k h) : Tr Tryz.prog 0 diC (stW 0 0 (tmk [(0, .fsi .u8 n f c1), (1, .fsi .u8 m g c2), (2, .fsi .u8 k h c3)] 0 16) []) .ret (stW 0 0 diT (diG3 n m k f g h)) :=
  Tr.evW (n := ⟨1000000, []⟩) (N := 5) (keep := za2 [6]) (nm := 0) (vc := diW3 n m k f g h) envDi_ok mix (di_ev3 n m k f g h c1 c2 c3) (by
    unfold diW3
    rw [diF3_eq, Nat.zero_add, diA1_ok (by omega), diA2_ok (by omega), diA2_ok hl, diR_ok hl (digs_cat (digs_cat h1 h2) h3)]; rfl) rfl rfl rfl
theorem di_res2 (n m : Nat) (f g : Nat → Int) : zb3 Tryz.prog (stW 0 0 diT (diG2 n m f g)) Tryz.f20.results.toList = some (true, [.ints .u8 32 (rdF (diS (0 + n + m) (diF2 n m f g)))], 1) := by kernel_rfl
theorem di_res3 (n m k : Nat) (f g h : Nat → Int) : zb3 Tryz.prog (stW 0 0 diT (diG3 n m k f g h)) Tryz.f20.results.toList = some (true, [.ints .u8 32 (rdF (diS (0 + n + m + k) (diF3 n m f g h)))], 1) := by kernel_rfl
noncomputable def rDigV0 : zc0
  | [.fsi .u8 n f _, .fsi .u8 m g _, .nilslice] => some ⟨holds (n + m ≤ 1099511627776 ∧ digs 256 n f ∧ digs 256 m g), .ints .u8 32 (diO2 n m f g), diG2 n m f g, true⟩
  | [.fsi .u8 n f _, .fsi .u8 m g _, .fsi .u8 k h _] => some ⟨holds (n + m + k ≤ 1099511627776 ∧ digs 256 n f ∧ digs 256 m g ∧ digs 256 k h), .ints .u8 32 (diO3 n m k f g h), diG3 n m k f g h, true⟩
  | _ => none
theorem RDig0_ok : SoundV Tryz.prog 20 rDigV0 := by
  refine SoundV.of_tr (fn := Tryz.f20) (c := diC) (by kernel_rfl) (by kernel_rfl) (by kernel_rfl) ?_
  intro args r hm hvc
  unfold rDigV0 at hm
  split at hm
  · rename_i n f c1 m g c2
    cases hm
    obtain ⟨h1, h2, h3⟩ := of_holds hvc
    exact ⟨.ret, _, _, _, .inl rfl, di_tr2 h1 h2 h3, di_res2 _ _ _ _, by rw [diS_eq, diF2_eq, Nat.zero_add]; rfl, rfl, fun _ => rfl⟩
  · rename_i n f c1 m g c2 k h c3
    cases hm
    obtain ⟨h1, h2, h3, h4⟩ := of_holds hvc
    exact ⟨.ret, _, _, _, .inl rfl, di_tr3 h1 h2 h3 h4, di_res3 _ _ _ _ _ _, by rw [diS_eq, diF3_eq, Nat.zero_add]; rfl, rfl, fun _ => rfl⟩
  · cases hm
noncomputable def rDigV : zc0 := frz 0 rDigV0
theorem RDig_ok : SoundV Tryz.prog 20 rDigV := RDig0_ok.frz 0
abbrev D16 (f : Nat → Int) : T := .ints .u64 16 f
def z16 : T := .ints .u64 16 fun _ => 0
def pD : Nat → Int := fun j => bif Nat.beq j 0 then 65517 else bif Nat.beq j 15 then 32767 else 65535
def isD16 (t : T) (f : Nat → Int) : Bool := match t with
  | .ints .u64 n g => Nat.beq n 16 && (List.range 16).all fun i => decide (g i = f i)
  | _ => false
theorem p_mv : (mv (evFn Tryz.prog env0 40 Tryz.f97) []).map (fun r => (r.1, isD16 r.2 pD)) = some (true, true) := by kernel_rfl
theorem isD16_R {t : T} {f : Nat → Int} (h : isD16 t f = true) {ρ ρ' : Rho} {x : Value} (hx : (R ρ t).v x) : (R ρ' (D16 f)).v x := by
  unfold isD16 at h
  split at h
  · simp only [Bool.and_eq_true] at h
    obtain ⟨h1, h2⟩ := h
    have := Nat.eq_of_beq_eq_true h1
    subst this
    rw [List.all_eq_true] at h2
    exact ze7 (fun i hi => by simpa using h2 i (by simpa using hi)) hx
  · cases h
def PM : zb1
  | [] => some (true, D16 pD)
  | _ => none
theorem PM_ok : SoundM Tryz.prog 97 (za1 PM) := by
  refine (SoundM.of_ev (za0 _) mix (n := 40) (fn := Tryz.f97) (by kernel_rfl) (by kernel_rfl) (by kernel_rfl)).refine ?_
  intro args vc v hm hvc ρ xs hargs
  unfold PM at hm
  split at hm
  · cases hm
    have h1 := p_mv
    cases hmv : mv (evFn Tryz.prog env0 40 Tryz.f97) [] with
    | none => rw [hmv] at h1; cases h1
    | some r =>
      obtain ⟨c, t⟩ := r
      rw [hmv] at h1
      simp only [Option.map_some, Option.some.injEq, Prod.mk.injEq] at h1
      obtain ⟨r, h3, h4, h5⟩ := za8 hmv
      exact ⟨[], hargs, r, h3, h4.trans h1.1, fun ρ' w hw => by rw [h5] at hw; exact isD16_R h1.2 hw⟩
  · cases hm
noncomputable def lessC : Code := bodyC Tryz.f96
noncomputable def lessL : Code := cB (cB (cR (cL (postC 3 lessC))))
theorem lessC_eq : postC 3 lessC = .seq (.seq (cL (cL (postC 3 lessC))) (.block 0 (.loop lessL))) (cR (postC 3 lessC)) := by kernel_rfl
def lsK : Nat := za2 [2, 3, 4, 5, 6, 7]
def lsT0 : List T := tmk [(2, .ptr 0 []), (3, .ptr 1 []), (4, .ptr 2 []), (5, .int .u64 0), (6, .ptr 3 [])] 0 32
def lsT (b : Int) (i : Nat) : List T := tmk [(2, .ptr 0 []), (3, .ptr 1 []), (4, .ptr 2 []), (5, .int .u64 b), (6, .ptr 3 []), (7, .int .i64 (i : Nat))] 0 32
def lsG (f g o : Nat → Int) : Heap := [some (D16 f), some (D16 g), some z16, some (D16 o)]
def lsN (f g : Nat → Int) (b : Int) (i : Nat) : Int := IntKind.u64.wrap (IntKind.u64.wrap (IntKind.u64.wrap (f i + 65536) - g i) - b)
def lsB (f g : Nat → Int) (b : Int) (i : Nat) : Int := IntKind.u64.wrap (1 - IntKind.u64.wrap ((lsN f g b i).tdiv 65536))
def lsO (f g : Nat → Int) (b : Int) (o : Nat → Int) (i : Nat) : Nat → Int := upd o i ((lsN f g b i).tmod 65536)
theorem ls_pre (f g : Nat → Int) : (za3 Tryz.prog env0 10 (preC 3 lessC) (stOf ([D16 f, D16 g] ++ zb4 30) [])).map (cutP lsK) = some (.normal, true, lsT0, lsG f g fun _ => 0, true) := by kernel_rfl
theorem ls_ini (f g o : Nat → Int) : (za3 Tryz.prog env0 10 (preC 1 (cL (postC 3 lessC))) (stOf lsT0 (lsG f g o))).map (cutP lsK) = some (.normal, true, lsT 0 0, lsG f g o, true) := by kernel_rfl
theorem ls_step (f g o : Nat → Int) (b : Int) : ∀ i, i < 16 → Tr Tryz.prog 0 lessL (stOf (lsT b i) (lsG f g o)) .normal (stOf (lsT (lsB f g b i) (i + 1)) (lsG f g (lsO f g b o i)))
  | 0, _ => Tr.ev (n := 10) (N := 4) (keep := lsK) (vc := true) (za0 _) mix (by kernel_rfl) rfl rfl rfl
  | 1, _ => Tr.ev (n := 10) (N := 4) (keep := lsK) (vc := true) (za0 _) mix (by kernel_rfl) rfl rfl rfl
  | 2, _ => Tr.ev (n := 10) (N := 4) (keep := lsK) (vc := true) (za0 _) mix (by kernel_rfl) rfl rfl rfl
  | 3, _ => Tr.ev (n := 10) (N := 4) (keep := lsK) (vc := true) (za0 _) mix (by kernel_rfl) rfl rfl rfl
  | 4, _ => Tr.ev (n := 10) (N := 4) (keep := lsK) (vc := true) (za0 _) mix (by kernel_rfl) rfl rfl rfl
  | 5, _ => Tr.ev (n := 10) (N := 4) (keep := lsK) (vc := true) (za0 _) mix (by kernel_rfl) rfl rfl rfl
  | 6, _ => Tr.ev (n := 10) (N := 4) (keep := lsK) (vc := true) (za0 _) mix (by kernel_rfl) rfl rfl rfl
  | 7, _ => Tr.ev (n := 10) (N := 4) (keep := lsK) (vc := true) (za0 _) mix (by kernel_rfl) rfl rfl rfl
  | 8, _ => Tr.ev (n := 10) (N := 4) (keep := lsK) (vc := true) (za0 _) mix (by kernel_rfl) rfl rfl rfl
  | 9, _ => Tr.ev (n := 10) (N := 4) (keep := lsK) (vc := true) (za0 _) mix (by kernel_rfl) rfl rfl rfl
  | 10, _ => Tr.ev (n := 10) (N := 4) (keep := lsK) (vc := true) (za0 _) mix (by kernel_rfl) rfl rfl rfl
  | 11, _ => Tr.ev (n := 10) (N := 4) (keep := lsK) (vc := true) (za0 _) mix (by kernel_rfl) rfl rfl rfl
  | 12, _ => Tr.ev (n := 10) (N := 4) (keep := lsK) (vc := true) (za0 _) mix (by kernel_rfl) rfl rfl rfl
  | 13, _ => Tr.ev (n := 10) (N := 4) (keep := lsK) (vc := true) (za0 _) mix (by kernel_rfl) rfl rfl rfl
  | 14, _ => Tr.ev (n := 10) (N := 4) (keep := lsK) (vc := true) (za0 _) mix (by kernel_rfl) rfl rfl rfl
  | 15, _ => Tr.ev (n := 10) (N := 4) (keep := lsK) (vc := true) (za0 _) mix (by kernel_rfl) rfl rfl rfl
  | k + 16, h => absurd h (by omega)
theorem ls_end (f g o : Nat → Int) (b : Int) : Tr Tryz.prog 0 lessL (stOf (lsT b 16) (lsG f g o)) (.exit 0) (stOf (lsT b 16) (lsG f g o)) :=
  Tr.ev (n := 10) (N := 4) (keep := lsK) (vc := true) (za0 _) mix (by kernel_rfl) rfl rfl rfl
def lsG' (f g o : Nat → Int) : Heap := [some (D16 f), some (D16 g), some (D16 o), some (D16 o)]
theorem ls_post (f g o : Nat → Int) (b : Int) : Tr Tryz.prog 0 (cR (postC 3 lessC)) (stOf (lsT b 16) (lsG f g o)) .ret (stOf (lsT b 16) (lsG' f g o)) :=
  Tr.ev (n := 10) (N := 4) (keep := lsK) (vc := true) (za0 _) mix (by kernel_rfl) rfl rfl rfl
def lsS (f g : Nat → Int) : Nat → Int × (Nat → Int)
  | 0 => (0, fun _ => 0)
  | i + 1 => (lsB f g (lsS f g i).1 i, lsO f g (lsS f g i).1 (lsS f g i).2 i)
theorem ls_tr (f g : Nat → Int) : Tr Tryz.prog 0 lessC (stOf ([D16 f, D16 g] ++ zb4 30) []) .ret (stOf (lsT (lsS f g 16).1 16) (lsG' f g (lsS f g 16).2)) := by
  refine Tr.pre (za0 _) mix 3 lsK (ls_pre f g) rfl ?_
  rw [lessC_eq]
  refine Tr.seq (s1 := stOf (lsT (lsS f g 16).1 16) (lsG f g (lsS f g 16).2)) ?_ (ls_post f g _ _)
  refine Tr.pre (za0 _) mix 1 lsK (ls_ini f g _) rfl ?_
  exact Tr.iter (S := fun i => stOf (lsT (lsS f g i).1 i) (lsG f g (lsS f g i).2)) (n := 16) (fun i hi => ls_step f g _ _ i hi) (ls_end f g _ _)
theorem ls_one {a c b : Int} (ha : 0 ≤ a ∧ a < 65536) (hc : 0 ≤ c ∧ c < 65536) (hb : b = 0 ∨ b = 1) :
    IntKind.u64.wrap (IntKind.u64.wrap (IntKind.u64.wrap (a + 65536) - c) - b) = a + 65536 - c - b := by
  simp only [IntKind.wrap_u64]
  omega
theorem ls_round {f g : Nat → Int} {b : Int} {i : Nat} (hf : 0 ≤ f i ∧ f i < 65536) (hg : 0 ≤ g i ∧ g i < 65536) (hb : b = 0 ∨ b = 1) :
    ∃ r b' : Nat, (b' = 0 ∨ b' = 1) ∧ (lsN f g b i).tmod 65536 = (r : Int) ∧ r < 65536 ∧ lsB f g b i = (b' : Int) ∧ r + (g i).toNat + b.toNat = (f i).toNat + 65536 * b' := by
  have hn : lsN f g b i = f i + 65536 - g i - b := ls_one hf hg hb
  unfold lsB
  rw [hn]
  have h0 : 0 ≤ f i + 65536 - g i - b := by omega
  have e1 : (f i + 65536 - g i - b).tmod 65536 = (f i + 65536 - g i - b) % 65536 := Int.tmod_eq_emod_of_nonneg h0
  have e2 : (f i + 65536 - g i - b).tdiv 65536 = (f i + 65536 - g i - b) / 65536 := Int.tdiv_eq_ediv_of_nonneg h0
  rw [e1, e2]
  refine ⟨((f i + 65536 - g i - b) % 65536).toNat, (1 - (f i + 65536 - g i - b) / 65536).toNat, by omega, by omega, by omega, ?_, by omega⟩
  simp only [IntKind.wrap_u64]
  omega
theorem ls_inv {f g : Nat → Int} (hf : digs 65536 16 f) (hg : digs 65536 16 g) : ∀ i, i ≤ 16 →
    ((lsS f g i).1 = 0 ∨ (lsS f g i).1 = 1) ∧ digs 65536 i (lsS f g i).2 ∧ natB 65536 (lsS f g i).2 i + natB 65536 g i = natB 65536 f i + (lsS f g i).1.toNat * 65536 ^ i
  | 0, _ => ⟨.inl rfl, fun j hj => by omega, rfl⟩
  | i + 1, h => by
    obtain ⟨h1, h2, h3⟩ := ls_inv hf hg i (by omega)
    obtain ⟨r, b', k1, k2, k3, k4, k5⟩ := ls_round (hf i (by omega)) (hg i (by omega)) h1
    have eo : (lsS f g (i + 1)).2 = upd (lsS f g i).2 i (r : Int) := by show upd _ i _ = _; rw [k2]
    have eb : (lsS f g (i + 1)).1 = (b' : Int) := k4
    rw [eo, eb]
    refine ⟨by omega, fun j hj => ?_, ?_⟩
    · by_cases hji : j = i
      · subst hji; rw [zb9]; omega
      · rw [zd3 hji]; exact h2 j (by omega)
    · unfold natB
      rw [zj9 i (Nat.le_refl _), zb9, Nat.pow_succ]
      generalize natB 65536 (lsS f g i).2 i = A at *
      generalize natB 65536 g i = G at *
      generalize natB 65536 f i = F at *
      generalize (lsS f g i).1.toNat = b at *
      generalize (65536 : Nat) ^ i = W at *
      have e : W * (r + (g i).toNat + b) = W * ((f i).toNat + 65536 * b') := by rw [k5]
      simp only [Nat.mul_add] at e
      have e3 : b * W = W * b := Nat.mul_comm _ _
      have e4 : ((b' : Int)).toNat * (W * 65536) = W * (65536 * b') := by
        rw [Int.toNat_natCast, Nat.mul_comm, Nat.mul_assoc]
      rw [e4, Int.toNat_natCast]
      omega
theorem less_val {f g : Nat → Int} (hf : digs 65536 16 f) (hg : digs 65536 16 g) (hle : vD g ≤ vD f) : ∀ i, i < 16 → (lsS f g 16).2 i = dgB 65536 (vD f - vD g) i := by
  obtain ⟨h1, h2, h3⟩ := ls_inv hf hg 16 (Nat.le_refl _)
  have hlt := zd2 16 h2
  have e : natB 65536 (lsS f g 16).2 16 = vD f - vD g := by
    unfold vD at hle ⊢
    rcases h1 with h | h <;> rw [h] at h3
    · simp at h3; omega
    · simp only [show (1 : Int).toNat = 1 from rfl, Nat.one_mul] at h3; omega
  intro i hi
  rw [dgB_of (by decide) h2 hi, e]
noncomputable def asD : T → Option (Bool × (Nat → Int))
  | .ints .u64 16 f => some (digB f, f)
  | .abs (.nn v) => some (true, dg v)
  | _ => none
theorem asD_v {t : T} {c : Bool} {f : Nat → Int} {ρ ρ' : Rho} {x : Value} (h : asD t = some (c, f)) (hc : c = true) (hx : (R ρ t).v x) : digs 65536 16 f ∧ (R ρ' (D16 f)).v x := by
  unfold asD at h
  split at h
  · cases h
    exact ⟨digB_spec.1 hc, (zc5 (t := .ints .u64 16 f) rfl ρ ρ').2.1 _ hx⟩
  · cases h
    exact ⟨dg_digs _, hx⟩
  · cases h
noncomputable def leD (f g : Nat → Int) : Bool := hid (fun (f g : Nat → Int) => decide (vD g ≤ vD f)) f g
theorem leD_iff {f g : Nat → Int} : leD f g = true ↔ vD g ≤ vD f := by unfold leD; rw [zb5]; simp
noncomputable def suD (f g : Nat → Int) : Nat → Int := hid (fun (f g : Nat → Int) => dgB 65536 (vD f - vD g)) f g
theorem suD_eq (f g : Nat → Int) : suD f g = dgB 65536 (vD f - vD g) := by unfold suD; rw [zb5]
noncomputable def lessM : zb1
  | [a, b] => match asD a, asD b with
    | some (c, f), some (c', g) => some (c && (c' && leD f g), D16 (suD f g))
    | _, _ => none
  | _ => none
theorem lessM0 (f g : Nat → Int) : SoundM Tryz.prog 96 (za1 fun args => open Classical in if args = [D16 f, D16 g] then some (true, D16 (lsS f g 16).2) else none) := by
  refine SoundM.of_tr0 (fn := Tryz.f96) (c := lessC) (by kernel_rfl) (by kernel_rfl) (by kernel_rfl) ?_
  intro args vc v hm hvc
  split at hm
  · rename_i e
    cases hm
    subst e
    exact ⟨rfl, rfl, .ret, _, [D16 (lsS f g 16).2], 4, .inl rfl, ls_tr f g, by kernel_rfl, rfl⟩
  · cases hm
theorem lessM_ok : SoundM Tryz.prog 96 (za1 lessM) := by
  refine SoundM.refineX ?_
  intro args vc v hm hvc ρ xs hargs
  unfold lessM at hm
  split at hm
  · rename_i a b
    split at hm
    · rename_i c f c' g h1 h2
      cases hm
      simp only [Bool.and_eq_true] at hvc
      obtain ⟨x, _, rfl, hx, y, _, rfl, hy, rfl⟩ := hargs
      obtain ⟨df, hx'⟩ := asD_v (ρ' := rho0) h1 hvc.1 hx
      obtain ⟨dg', hy'⟩ := asD_v (ρ' := rho0) h2 hvc.2.1 hy
      refine ⟨_, lessM0 f g, [D16 f, D16 g], ⟨_, _, rfl, hx', _, _, rfl, hy', rfl⟩, ⟨true, D16 (lsS f g 16).2, [], 0, 0⟩, ?_, rfl, fun ρ' w hw => ?_⟩
      · simp [za1]
      · refine ze7 (fun i hi => ?_) hw
        rw [suD_eq]
        exact less_val df dg' (leD_iff.1 hvc.2.2) i hi
    · cases hm
  · cases hm
noncomputable def LsC : Code := bodyC Tryz.f106
noncomputable def LsL : Code := cB (cB (cR (cL (postC 1 LsC))))
theorem LsC_eq : postC 1 LsC = .seq (.seq (cL (cL (postC 1 LsC))) (.block 0 (.loop LsL))) (cR (postC 1 LsC)) := by kernel_rfl
def LsK : Nat := za2 [2, 3, 4, 5]
def LsT0 : List T := tmk [(2, .ptr 0 []), (3, .ptr 1 []), (4, .bool false)] 0 24
def LsT (i : Int) : List T := tmk [(2, .ptr 0 []), (3, .ptr 1 []), (4, .bool false), (5, .int .i64 i)] 0 24
def LsT' (b : Bool) : List T := tmk [(4, .bool b)] 0 24
def LsG (f g : Nat → Int) : Heap := [some (D16 f), some (D16 g)]
theorem Ls_pre (f g : Nat → Int) : (za3 Tryz.prog env0 10 (preC 1 LsC) (stOf ([D16 f, D16 g] ++ zb4 22) [])).map (cutP LsK) = some (.normal, true, LsT0, LsG f g, true) := by kernel_rfl
theorem Ls_ini (f g : Nat → Int) : (za3 Tryz.prog env0 10 (preC 1 (cL (postC 1 LsC))) (stOf LsT0 (LsG f g))).map (cutP LsK) = some (.normal, true, LsT 15, LsG f g, true) := by kernel_rfl
theorem Ls_eq (f g : Nat → Int) : ∀ i, i < 16 → (f i == g i) = true → Tr Tryz.prog 0 LsL (stOf (LsT (i : Nat)) (LsG f g)) .normal (stOf (LsT ((i : Nat) - 1 : Int)) (LsG f g))
  | 0, _, h => Tr.ev (n := ⟨1000000, [(16, false)]⟩) (N := 2) (keep := LsK) (vc := (((!(f 0 == g 0)) == false) && true) && true) (za0 _) mix (by kernel_rfl) (by rw [h]; rfl) rfl rfl
  | 1, _, h => Tr.ev (n := ⟨1000000, [(16, false)]⟩) (N := 2) (keep := LsK) (vc := (((!(f 1 == g 1)) == false) && true) && true) (za0 _) mix (by kernel_rfl) (by rw [h]; rfl) rfl rfl
  | 2, _, h => Tr.ev (n := ⟨1000000, [(16, false)]⟩) (N := 2) (keep := LsK) (vc := (((!(f 2 == g 2)) == false) && true) && true) (za0 _) mix (by kernel_rfl) (by rw [h]; rfl) rfl rfl
  | 3, _, h => Tr.ev (n := ⟨1000000, [(16, false)]⟩) (N := 2) (keep := LsK) (vc := (((!(f 3 == g 3)) == false) && true) && true) (za0 _) mix (by kernel_rfl) (by rw [h]; rfl) rfl rfl
  | 4, _, h => Tr.ev (n := ⟨1000000, [(16, false)]⟩) (N := 2) (keep := LsK) (vc := (((!(f 4 == g 4)) == false) && true) && true) (za0 _) mix (by kernel_rfl) (by rw [h]; rfl) rfl rfl
  | 5, _, h => Tr.ev (n := ⟨1000000, [(16, false)]⟩) (N := 2) (keep := LsK) (vc := (((!(f 5 == g 5)) == false) && true) && true) (za0 _) mix (by kernel_rfl) (by rw [h]; rfl) rfl rfl
  | 6, _, h => Tr.ev (n := ⟨1000000, [(16, false)]⟩) (N := 2) (keep := LsK) (vc := (((!(f 6 == g 6)) == false) && true) && true) (za0 _) mix (by kernel_rfl) (by rw [h]; rfl) rfl rfl
  | 7, _, h => Tr.ev (n := ⟨1000000, [(16, false)]⟩) (N := 2) (keep := LsK) (vc := (((!(f 7 == g 7)) == false) && true) && true) (za0 _) mix (by kernel_rfl) (by rw [h]; rfl) rfl rfl
  | 8, _, h => Tr.ev (n := ⟨1000000, [(16, false)]⟩) (N := 2) (keep := LsK) (vc := (((!(f 8 == g 8)) == false) && true) && true) (za0 _) mix (by kernel_rfl) (by rw [h]; rfl) rfl rfl
  | 9, _, h => Tr.ev (n := ⟨1000000, [(16, false)]⟩) (N := 2) (keep := LsK) (vc := (((!(f 9 == g 9)) == false) && true) && true) (za0 _) mix (by kernel_rfl) (by rw [h]; rfl) rfl rfl
  | 10, _, h => Tr.ev (n := ⟨1000000, [(16, false)]⟩) (N := 2) (keep := LsK) (vc := (((!(f 10 == g 10)) == false) && true) && true) (za0 _) mix (by kernel_rfl) (by rw [h]; rfl) rfl rfl
  | 11, _, h => Tr.ev (n := ⟨1000000, [(16, false)]⟩) (N := 2) (keep := LsK) (vc := (((!(f 11 == g 11)) == false) && true) && true) (za0 _) mix (by kernel_rfl) (by rw [h]; rfl) rfl rfl
  | 12, _, h => Tr.ev (n := ⟨1000000, [(16, false)]⟩) (N := 2) (keep := LsK) (vc := (((!(f 12 == g 12)) == false) && true) && true) (za0 _) mix (by kernel_rfl) (by rw [h]; rfl) rfl rfl
  | 13, _, h => Tr.ev (n := ⟨1000000, [(16, false)]⟩) (N := 2) (keep := LsK) (vc := (((!(f 13 == g 13)) == false) && true) && true) (za0 _) mix (by kernel_rfl) (by rw [h]; rfl) rfl rfl
  | 14, _, h => Tr.ev (n := ⟨1000000, [(16, false)]⟩) (N := 2) (keep := LsK) (vc := (((!(f 14 == g 14)) == false) && true) && true) (za0 _) mix (by kernel_rfl) (by rw [h]; rfl) rfl rfl
  | 15, _, h => Tr.ev (n := ⟨1000000, [(16, false)]⟩) (N := 2) (keep := LsK) (vc := (((!(f 15 == g 15)) == false) && true) && true) (za0 _) mix (by kernel_rfl) (by rw [h]; rfl) rfl rfl
  | k + 16, h, _ => absurd h (by omega)
theorem Ls_ne (f g : Nat → Int) : ∀ i, i < 16 → (f i == g i) = false → Tr Tryz.prog 0 LsL (stOf (LsT (i : Nat)) (LsG f g)) .ret (stOf (LsT' (decide (f i < g i))) (LsG f g))
  | 0, _, h => Tr.ev (n := ⟨1000000, [(16, true)]⟩) (N := 2) (keep := za2 [4]) (vc := (((!(f 0 == g 0)) == true) && true) && true) (za0 _) mix (by kernel_rfl) (by rw [h]; rfl) rfl rfl
  | 1, _, h => Tr.ev (n := ⟨1000000, [(16, true)]⟩) (N := 2) (keep := za2 [4]) (vc := (((!(f 1 == g 1)) == true) && true) && true) (za0 _) mix (by kernel_rfl) (by rw [h]; rfl) rfl rfl
  | 2, _, h => Tr.ev (n := ⟨1000000, [(16, true)]⟩) (N := 2) (keep := za2 [4]) (vc := (((!(f 2 == g 2)) == true) && true) && true) (za0 _) mix (by kernel_rfl) (by rw [h]; rfl) rfl rfl
  | 3, _, h => Tr.ev (n := ⟨1000000, [(16, true)]⟩) (N := 2) (keep := za2 [4]) (vc := (((!(f 3 == g 3)) == true) && true) && true) (za0 _) mix (by kernel_rfl) (by rw [h]; rfl) rfl rfl
  | 4, _, h => Tr.ev (n := ⟨1000000, [(16, true)]⟩) (N := 2) (keep := za2 [4]) (vc := (((!(f 4 == g 4)) == true) && true) && true) (za0 _) mix (by kernel_rfl) (by rw [h]; rfl) rfl rfl
  | 5, _, h => Tr.ev (n := ⟨1000000, [(16, true)]⟩) (N := 2) (keep := za2 [4]) (vc := (((!(f 5 == g 5)) == true) && true) && true) (za0 _) mix (by kernel_rfl) (by rw [h]; rfl) rfl rfl
  | 6, _, h => Tr.ev (n := ⟨1000000, [(16, true)]⟩) (N := 2) (keep := za2 [4]) (vc := (((!(f 6 == g 6)) == true) && true) && true) (za0 _) mix (by kernel_rfl) (by rw [h]; rfl) rfl rfl
  | 7, _, h => Tr.ev (n := ⟨1000000, [(16, true)]⟩) (N := 2) (keep := za2 [4]) (vc := (((!(f 7 == g 7)) == true) && true) && true) (za0 _) mix (by kernel_rfl) (by rw [h]; rfl) rfl rfl
  | 8, _, h => Tr.ev (n := ⟨1000000, [(16, true)]⟩) (N := 2) (keep := za2 [4]) (vc := (((!(f 8 == g 8)) == true) && true) && true) (za0 _) mix (by kernel_rfl) (by rw [h]; rfl) rfl rfl
  | 9, _, h => Tr.ev (n := ⟨1000000, [(16, true)]⟩) (N := 2) (keep := za2 [4]) (vc := (((!(f 9 == g 9)) == true) && true) && true) (za0 _) mix (by kernel_rfl) (by rw [h]; rfl) rfl rfl
  | 10, _, h => Tr.ev (n := ⟨1000000, [(16, true)]⟩) (N := 2) (keep := za2 [4]) (vc := (((!(f 10 == g 10)) == true) && true) && true) (za0 _) mix (by kernel_rfl) (by rw [h]; rfl) rfl rfl
  | 11, _, h => Tr.ev (n := ⟨1000000, [(16, true)]⟩) (N := 2) (keep := za2 [4]) (vc := (((!(f 11 == g 11)) == true) && true) && true) (za0 _) mix (by kernel_rfl) (by rw [h]; rfl) rfl rfl
  | 12, _, h => Tr.ev (n := ⟨1000000, [(16, true)]⟩) (N := 2) (keep := za2 [4]) (vc := (((!(f 12 == g 12)) == true) && true) && true) (za0 _) mix (by kernel_rfl) (by rw [h]; rfl) rfl rfl
  | 13, _, h => Tr.ev (n := ⟨1000000, [(16, true)]⟩) (N := 2) (keep := za2 [4]) (vc := (((!(f 13 == g 13)) == true) && true) && true) (za0 _) mix (by kernel_rfl) (by rw [h]; rfl) rfl rfl
  | 14, _, h => Tr.ev (n := ⟨1000000, [(16, true)]⟩) (N := 2) (keep := za2 [4]) (vc := (((!(f 14 == g 14)) == true) && true) && true) (za0 _) mix (by kernel_rfl) (by rw [h]; rfl) rfl rfl
  | 15, _, h => Tr.ev (n := ⟨1000000, [(16, true)]⟩) (N := 2) (keep := za2 [4]) (vc := (((!(f 15 == g 15)) == true) && true) && true) (za0 _) mix (by kernel_rfl) (by rw [h]; rfl) rfl rfl
  | k + 16, h, _ => absurd h (by omega)
theorem Ls_end (f g : Nat → Int) : Tr Tryz.prog 0 LsL (stOf (LsT (-1)) (LsG f g)) (.exit 0) (stOf (LsT (-1)) (LsG f g)) :=
  Tr.ev (n := 10) (N := 2) (keep := LsK) (vc := true) (za0 _) mix (by kernel_rfl) rfl rfl rfl
theorem Ls_post (f g : Nat → Int) : Tr Tryz.prog 0 (cR (postC 1 LsC)) (stOf (LsT (-1)) (LsG f g)) .ret (stOf (LsT' false) (LsG f g)) :=
  Tr.ev (n := 10) (N := 2) (keep := za2 [4]) (vc := true) (za0 _) mix (by kernel_rfl) rfl rfl rfl
def ltN (f g : Nat → Int) : Nat → Bool
  | 0 => false
  | i + 1 => bif f i == g i then ltN f g i else decide (f i < g i)
def allE (f g : Nat → Int) : Nat → Bool
  | 0 => true
  | i + 1 => (f i == g i) && allE f g i
theorem Ls_loop (f g : Nat → Int) : ∀ i, i ≤ 16 → (allE f g i = true ∧ ltN f g i = false ∧ TrN Tryz.prog 0 LsL (i + 1) (stOf (LsT ((i : Nat) - 1 : Int)) (LsG f g)) (.exit 0) (stOf (LsT (-1)) (LsG f g))) ∨
    TrN Tryz.prog 0 LsL (i + 1) (stOf (LsT ((i : Nat) - 1 : Int)) (LsG f g)) .ret (stOf (LsT' (ltN f g i)) (LsG f g))
  | 0, _ => .inl ⟨rfl, rfl, TrN.done (Ls_end f g) (by intro h; cases h)⟩
  | i + 1, h => by
    have e : (((i + 1 : Nat) : Int) - 1) = (i : Nat) := by omega
    rw [e]
    cases hb : (f i == g i) with
    | false =>
      right
      have e2 : ltN f g (i + 1) = decide (f i < g i) := by unfold ltN; rw [hb]; rfl
      rw [e2]
      exact TrN.done (Ls_ne f g i (by omega) hb) (by intro h; cases h)
    | true =>
      have e2 : ltN f g (i + 1) = ltN f g i := by show (bif f i == g i then _ else _) = _; rw [hb]; rfl
      have e3 : allE f g (i + 1) = allE f g i := by show ((f i == g i) && _) = _; rw [hb]; rfl
      rw [e2, e3]
      rcases Ls_loop f g i (by omega) with ⟨h1, h2, h3⟩ | h3
      · exact .inl ⟨h1, h2, TrN.next (Ls_eq f g i (by omega) hb) h3⟩
      · exact .inr (TrN.next (Ls_eq f g i (by omega) hb) h3)
theorem Ls_tr (f g : Nat → Int) : Tr Tryz.prog 0 LsC (stOf ([D16 f, D16 g] ++ zb4 22) []) .ret (stOf (LsT' (ltN f g 16)) (LsG f g)) := by
  refine Tr.pre (za0 _) mix 1 LsK (Ls_pre f g) rfl ?_
  rw [LsC_eq]
  rcases Ls_loop f g 16 (Nat.le_refl _) with ⟨_, h2, h3⟩ | h3
  · rw [h2]
    refine Tr.seq (s1 := stOf (LsT (-1)) (LsG f g)) ?_ (Ls_post f g)
    exact Tr.pre (za0 _) mix 1 LsK (Ls_ini f g) rfl (Tr.blockX (Tr.loop h3))
  · refine Tr.seqX ?_ (by intro h; cases h)
    exact Tr.pre (za0 _) mix 1 LsK (Ls_ini f g) rfl (Tr.block (Tr.loop h3) (by intro i h; cases h))
theorem ltN_val {f g : Nat → Int} : ∀ i, digs 65536 i f → digs 65536 i g → ltN f g i = decide (natB 65536 f i < natB 65536 g i)
  | 0, _, _ => by simp [ltN, natB]
  | i + 1, hf, hg => by
    have ih := ltN_val i (fun j hj => hf j (by omega)) (fun j hj => hg j (by omega))
    have lf := zd2 (B := 65536) i (fun j hj => hf j (by omega))
    have lg := zd2 (B := 65536) i (fun j hj => hg j (by omega))
    have hi := hf i (by omega)
    have hi' := hg i (by omega)
    unfold ltN natB
    rw [ih]
    cases hb : (f i == g i) with
    | true =>
      have : f i = g i := by simpa using hb
      rw [this, cond_true, Bool.eq_iff_iff, decide_eq_true_eq, decide_eq_true_eq]
      omega
    | false =>
      have : f i ≠ g i := by simpa using hb
      rw [cond_false, Bool.eq_iff_iff, decide_eq_true_eq, decide_eq_true_eq]
      generalize natB 65536 f i = A at *
      generalize natB 65536 g i = C at *
      generalize (65536 : Nat) ^ i = W at *
      obtain ⟨a, ha⟩ := Int.eq_ofNat_of_zero_le hi.1
      obtain ⟨b, hb⟩ := Int.eq_ofNat_of_zero_le hi'.1
      rw [ha, hb, Int.toNat_natCast, Int.toNat_natCast]
      constructor
      · intro h
        have h1 : W * (a + 1) ≤ W * b := Nat.mul_le_mul_left _ (by omega)
        rw [Nat.mul_add] at h1
        omega
      · intro h
        rcases Nat.lt_or_ge a b with h1 | h1
        · omega
        · exfalso
          have h3 : a ≠ b := fun e => this (by rw [ha, hb, e])
          have h2 : W * (b + 1) ≤ W * a := Nat.mul_le_mul_left _ (by omega)
          rw [Nat.mul_add] at h2
          omega
noncomputable def ltD (f g : Nat → Int) : Bool := hid (fun (f g : Nat → Int) => decide (vD f < vD g)) f g
theorem ltD_eq (f g : Nat → Int) : ltD f g = decide (vD f < vD g) := by unfold ltD; rw [zb5]
noncomputable def LessM : zb1
  | [a, b] => match asD a, asD b with
    | some (c, f), some (c', g) => some (c && c', .bool (ltD f g))
    | _, _ => none
  | _ => none
theorem LessM0 (f g : Nat → Int) : SoundM Tryz.prog 106 (za1 fun args => open Classical in if args = [D16 f, D16 g] then some (true, .bool (ltN f g 16)) else none) := by
  refine SoundM.of_tr0 (fn := Tryz.f106) (c := LsC) (by kernel_rfl) (by kernel_rfl) (by kernel_rfl) ?_
  intro args vc v hm hvc
  split at hm
  · rename_i e
    cases hm
    subst e
    exact ⟨rfl, rfl, .ret, _, [.bool (ltN f g 16)], 0, .inl rfl, Ls_tr f g, by kernel_rfl, rfl⟩
  · cases hm
theorem LessM_ok : SoundM Tryz.prog 106 (za1 LessM) := by
  refine SoundM.refineX ?_
  intro args vc v hm hvc ρ xs hargs
  unfold LessM at hm
  split at hm
  · rename_i a b
    split at hm
    · rename_i c f c' g h1 h2
      cases hm
      simp only [Bool.and_eq_true] at hvc
      obtain ⟨x, _, rfl, hx, y, _, rfl, hy, rfl⟩ := hargs
      obtain ⟨df, hx'⟩ := asD_v (ρ' := rho0) h1 hvc.1 hx
      obtain ⟨dg', hy'⟩ := asD_v (ρ' := rho0) h2 hvc.2 hy
      refine ⟨_, LessM0 f g, [D16 f, D16 g], ⟨_, _, rfl, hx', _, _, rfl, hy', rfl⟩, ⟨true, .bool (ltN f g 16), [], 0, 0⟩, ?_, rfl, fun ρ' w hw => ?_⟩
      · simp [za1]
      · rw [ltN_val 16 df dg'] at hw
        rw [ltD_eq]
        exact hw
    · cases hm
  · cases hm
noncomputable def envR0 : Env := ((env0.set 97 (za1 PM)).set 96 (za1 lessM)).set 106 (za1 LessM)
theorem envR0_ok : EnvOK Tryz.prog envR0 := (((za0 _).set PM_ok).set lessM_ok).set LessM_ok
noncomputable def fdC : Code := bodyC Tryz.f95
noncomputable def fdX1 : Code := postC 1 fdC
noncomputable def fdL1 : Code := cL fdX1
noncomputable def fdRest : Code := cR fdX1
noncomputable def fdRB : Code := cB (cB (cR fdL1))
noncomputable def fdI : Code := cB (cL (cR fdRB))
noncomputable def fdJ : Code := cR fdI
noncomputable def fdB1 : Code := cB (cB (cR (cL fdJ)))
noncomputable def fdB2 : Code := cB (cB (cR (cR fdJ)))
noncomputable def fdY : Code := postC 2 fdRest
noncomputable def fdB3 : Code := cB (cB (cR (cL fdY)))
noncomputable def fdZ : Code := cR fdY
noncomputable def fdB4 : Code := cB (cB (cL (cR fdZ)))
theorem fdX1_eq : postC 1 fdC = .seq (.seq (cL fdL1) (.block 0 (.loop fdRB))) fdRest := by kernel_rfl
theorem fdRB_eq : fdRB = .seq (cL fdRB) (.seq (.block 1 fdI) (cR (cR fdRB))) := by kernel_rfl
theorem fdI_eq : postC 1 fdI = .seq (.seq (cL (cL fdJ)) (.block 2 (.loop fdB1))) (.seq (cL (cR fdJ)) (.block 4 (.loop fdB2))) := by kernel_rfl
theorem fdY_eq : postC 2 fdRest = .seq (.seq (cL (cL fdY)) (.block 6 (.loop fdB3))) fdZ := by kernel_rfl
theorem fdZ_eq : postC 1 fdZ = .seq (.block 8 (.loop fdB4)) (cR (cR fdZ)) := by kernel_rfl
abbrev D32 (f : Nat → Int) : T := .ints .u64 32 f
def fdK : Nat := za2 [1, 2, 3, 4, 5]
def fdK2 : Nat := za2 [1, 2, 3, 7]
def fdK3 : Nat := za2 [1, 2, 8, 9, 10]
def fdK4 : Nat := za2 [1, 2, 9, 12]
def fdT0 : List T := tmk [(1, .ptr 0 []), (2, .ptr 1 [])] 0 75
def fdA (r : Int) : List T := tmk [(1, .ptr 0 []), (2, .ptr 1 []), (3, .int .i64 r)] 0 75
def fdA' (r : Int) : List T := tmk [(1, .ptr 0 []), (2, .ptr 1 []), (3, .int .i64 r), (4, .int .u64 0)] 0 75
def fdB (r c : Int) (i : Nat) : List T := tmk [(1, .ptr 0 []), (2, .ptr 1 []), (3, .int .i64 r), (4, .int .u64 c), (5, .int .i64 (i : Nat))] 0 75
def fdE (r : Int) (i : Nat) : List T := tmk [(1, .ptr 0 []), (2, .ptr 1 []), (3, .int .i64 r), (7, .int .i64 (i : Nat))] 0 75
def fdF : List T := tmk [(1, .ptr 0 []), (2, .ptr 1 []), (8, .int .u64 0), (9, .ptr 2 [])] 0 75
def fdH (c : Int) (i : Nat) : List T := tmk [(1, .ptr 0 []), (2, .ptr 1 []), (8, .int .u64 c), (9, .ptr 2 []), (10, .int .i64 (i : Nat))] 0 75
def fdW : List T := tmk [(1, .ptr 0 []), (2, .ptr 1 []), (9, .ptr 2 []), (12, .ptr 3 [])] 0 75
def fdG (f : Nat → Int) : Heap := [some (D32 f), some z16]
def fdG3 (f o : Nat → Int) : Heap := [some (D32 f), some z16, some (D16 o)]
def fdG4 (f o : Nat → Int) : Heap := [some (D32 f), some z16, some (D16 o), some (D16 pD)]
def fdG5 (f o : Nat → Int) : Heap := [some (D32 f), some (D16 o), some (D16 o), some (D16 pD)]
def cyN (f : Nat → Int) (c : Int) (i : Nat) : Int := IntKind.u64.wrap (f i + c)
def cyC (f : Nat → Int) (c : Int) (i : Nat) : Int := IntKind.u64.wrap ((cyN f c i).tdiv 65536)
def cyD (f : Nat → Int) (c : Int) (i : Nat) : Int := (cyN f c i).tmod 65536
def fo2 (f : Nat → Int) (i : Nat) : Nat → Int := upd (upd f i (IntKind.u64.wrap (f i + IntKind.u64.wrap (38 * f (i + 16))))) (i + 16) 0
theorem fd_pre (f : Nat → Int) : (za3 Tryz.prog envR0 10 (preC 1 fdC) (stOf ([D32 f] ++ zb4 74) [])).map (cutP fdK) = some (.normal, true, fdT0, fdG f, true) := by kernel_rfl
theorem fd_ini (f : Nat → Int) : (za3 Tryz.prog envR0 10 (preC 1 fdL1) (stOf fdT0 (fdG f))).map (cutP fdK) = some (.normal, true, fdA 0, fdG f, true) := by kernel_rfl
theorem fd_test (f : Nat → Int) : ∀ r, r < 4 → Tr Tryz.prog 0 (cL fdRB) (stOf (fdA (r : Nat)) (fdG f)) .normal (stOf (fdA (r : Nat)) (fdG f))
  | 0, _ => Tr.ev (n := 40) (N := 2) (keep := fdK) (vc := true) (za0 _) mix (by kernel_rfl) rfl rfl rfl
  | 1, _ => Tr.ev (n := 40) (N := 2) (keep := fdK) (vc := true) (za0 _) mix (by kernel_rfl) rfl rfl rfl
  | 2, _ => Tr.ev (n := 40) (N := 2) (keep := fdK) (vc := true) (za0 _) mix (by kernel_rfl) rfl rfl rfl
  | 3, _ => Tr.ev (n := 40) (N := 2) (keep := fdK) (vc := true) (za0 _) mix (by kernel_rfl) rfl rfl rfl
  | k + 4, h => absurd h (by omega)
theorem fd_last (f : Nat → Int) : Tr Tryz.prog 0 fdRB (stOf (fdA 4) (fdG f)) (.exit 0) (stOf (fdA 4) (fdG f)) :=
  Tr.ev (n := 40) (N := 2) (keep := fdK) (vc := true) (za0 _) mix (by kernel_rfl) rfl rfl rfl
theorem fd_next (f : Nat → Int) : ∀ r, r < 4 → Tr Tryz.prog 0 (cR (cR fdRB)) (stOf (fdE (r : Nat) 16) (fdG f)) .normal (stOf (fdA ((r + 1 : Nat) : Int)) (fdG f))
  | 0, _ => Tr.ev (n := 40) (N := 2) (keep := fdK) (vc := true) (za0 _) mix (by kernel_rfl) rfl rfl rfl
  | 1, _ => Tr.ev (n := 40) (N := 2) (keep := fdK) (vc := true) (za0 _) mix (by kernel_rfl) rfl rfl rfl
  | 2, _ => Tr.ev (n := 40) (N := 2) (keep := fdK) (vc := true) (za0 _) mix (by kernel_rfl) rfl rfl rfl
  | 3, _ => Tr.ev (n := 40) (N := 2) (keep := fdK) (vc := true) (za0 _) mix (by kernel_rfl) rfl rfl rfl
  | k + 4, h => absurd h (by omega)
theorem fd_zero (f : Nat → Int) (r : Int) : (za3 Tryz.prog envR0 10 (preC 1 fdI) (stOf (fdA r) (fdG f))).map (cutP fdK) = some (.normal, true, fdA' r, fdG f, true) := by kernel_rfl
theorem fd_ini1 (f : Nat → Int) (r : Int) : (za3 Tryz.prog envR0 10 (preC 1 (cL fdJ)) (stOf (fdA' r) (fdG f))).map (cutP fdK) = some (.normal, true, fdB r 0 0, fdG f, true) := by kernel_rfl
theorem fd_step1 (f : Nat → Int) (r c : Int) : ∀ i, i < 32 → Tr Tryz.prog 0 fdB1 (stOf (fdB r c i) (fdG f)) .normal (stOf (fdB r (cyC f c i) (i + 1)) (fdG (upd f i (cyD f c i))))
  | 0, _ => Tr.ev (n := 40) (N := 2) (keep := fdK) (vc := true) (za0 _) mix (by kernel_rfl) rfl rfl rfl
  | 1, _ => Tr.ev (n := 40) (N := 2) (keep := fdK) (vc := true) (za0 _) mix (by kernel_rfl) rfl rfl rfl
  | 2, _ => Tr.ev (n := 40) (N := 2) (keep := fdK) (vc := true) (za0 _) mix (by kernel_rfl) rfl rfl rfl
  | 3, _ => Tr.ev (n := 40) (N := 2) (keep := fdK) (vc := true) (za0 _) mix (by kernel_rfl) rfl rfl rfl
  | 4, _ => Tr.ev (n := 40) (N := 2) (keep := fdK) (vc := true) (za0 _) mix (by kernel_rfl) rfl rfl rfl
  | 5, _ => Tr.ev (n := 40) (N := 2) (keep := fdK) (vc := true) (za0 _) mix (by kernel_rfl) rfl rfl rfl
  | 6, _ => Tr.ev (n := 40) (N := 2) (keep := fdK) (vc := true) (za0 _) mix (by kernel_rfl) rfl rfl rfl
  | 7, _ => Tr.ev (n := 40) (N := 2) (keep := fdK) (vc := true) (za0 _) mix (by kernel_rfl) rfl rfl rfl
  | 8, _ => Tr.ev (n := 40) (N := 2) (keep := fdK) (vc := true) (za0 _) mix (by kernel_rfl) rfl rfl rfl
  | 9, _ => Tr.ev (n := 40) (N := 2) (keep := fdK) (vc := true) (za0 _) mix (by kernel_rfl) rfl rfl rfl
  | 10, _ => Tr.ev (n := 40) (N := 2) (keep := fdK) (vc := true) (za0 _) mix (by kernel_rfl) rfl rfl rfl
  | 11, _ => Tr.ev (n := 40) (N := 2) (keep := fdK) (vc := true) (za0 _) mix (by kernel_rfl) rfl rfl rfl
  | 12, _ => Tr.ev (n := 40) (N := 2) (keep := fdK) (vc := true) (za0 _) mix (by kernel_rfl) rfl rfl rfl
  | 13, _ => Tr.ev (n := 40) (N := 2) (keep := fdK) (vc := true) (za0 _) mix (by kernel_rfl) rfl rfl rfl
  | 14, _ => Tr.ev (n := 40) (N := 2) (keep := fdK) (vc := true) (za0 _) mix (by kernel_rfl) rfl rfl rfl
  | 15, _ => Tr.ev (n := 40) (N := 2) (keep := fdK) (vc := true) (za0 _) mix (by kernel_rfl) rfl rfl rfl
  | 16, _ => Tr.ev (n := 40) (N := 2) (keep := fdK) (vc := true) (za0 _) mix (by kernel_rfl) rfl rfl rfl
  | 17, _ => Tr.ev (n := 40) (N := 2) (keep := fdK) (vc := true) (za0 _) mix (by kernel_rfl) rfl rfl rfl
  | 18, _ => Tr.ev (n := 40) (N := 2) (keep := fdK) (vc := true) (za0 _) mix (by kernel_rfl) rfl rfl rfl
  | 19, _ => Tr.ev (n := 40) (N := 2) (keep := fdK) (vc := true) (za0 _) mix (by kernel_rfl) rfl rfl rfl
  | 20, _ => Tr.ev (n := 40) (N := 2) (keep := fdK) (vc := true) (za0 _) mix (by kernel_rfl) rfl rfl rfl
  | 21, _ => Tr.ev (n := 40) (N := 2) (keep := fdK) (vc := true) (za0 _) mix (by kernel_rfl) rfl rfl rfl
  | 22, _ => Tr.ev (n := 40) (N := 2) (keep := fdK) (vc := true) (za0 _) mix (by kernel_rfl) rfl rfl rfl
  | 23, _ => Tr.ev (n := 40) (N := 2) (keep := fdK) (vc := true) (za0 _) mix (by kernel_rfl) rfl rfl rfl
  | 24, _ => Tr.ev (n := 40) (N := 2) (keep := fdK) (vc := true) (za0 _) mix (by kernel_rfl) rfl rfl rfl
  | 25, _ => Tr.ev (n := 40) (N := 2) (keep := fdK) (vc := true) (za0 _) mix (by kernel_rfl) rfl rfl rfl
  | 26, _ => Tr.ev (n := 40) (N := 2) (keep := fdK) (vc := true) (za0 _) mix (by kernel_rfl) rfl rfl rfl
  | 27, _ => Tr.ev (n := 40) (N := 2) (keep := fdK) (vc := true) (za0 _) mix (by kernel_rfl) rfl rfl rfl
  | 28, _ => Tr.ev (n := 40) (N := 2) (keep := fdK) (vc := true) (za0 _) mix (by kernel_rfl) rfl rfl rfl
  | 29, _ => Tr.ev (n := 40) (N := 2) (keep := fdK) (vc := true) (za0 _) mix (by kernel_rfl) rfl rfl rfl
  | 30, _ => Tr.ev (n := 40) (N := 2) (keep := fdK) (vc := true) (za0 _) mix (by kernel_rfl) rfl rfl rfl
  | 31, _ => Tr.ev (n := 40) (N := 2) (keep := fdK) (vc := true) (za0 _) mix (by kernel_rfl) rfl rfl rfl
  | k + 32, h => absurd h (by omega)
theorem fd_end1 (f : Nat → Int) (r c : Int) : Tr Tryz.prog 0 fdB1 (stOf (fdB r c 32) (fdG f)) (.exit 2) (stOf (fdB r c 32) (fdG f)) :=
  Tr.ev (n := 40) (N := 2) (keep := fdK) (vc := true) (za0 _) mix (by kernel_rfl) rfl rfl rfl
theorem fd_ini2 (f : Nat → Int) (r c : Int) : (za3 Tryz.prog envR0 10 (preC 1 (cR fdJ)) (stOf (fdB r c 32) (fdG f))).map (cutP fdK2) = some (.normal, true, fdE r 0, fdG f, true) := by kernel_rfl
theorem fd_step2 (f : Nat → Int) (r : Int) : ∀ i, i < 16 → Tr Tryz.prog 0 fdB2 (stOf (fdE r i) (fdG f)) .normal (stOf (fdE r (i + 1)) (fdG (fo2 f i)))
  | 0, _ => Tr.ev (n := 40) (N := 2) (keep := fdK2) (vc := true) (za0 _) mix (by kernel_rfl) rfl rfl rfl
  | 1, _ => Tr.ev (n := 40) (N := 2) (keep := fdK2) (vc := true) (za0 _) mix (by kernel_rfl) rfl rfl rfl
  | 2, _ => Tr.ev (n := 40) (N := 2) (keep := fdK2) (vc := true) (za0 _) mix (by kernel_rfl) rfl rfl rfl
  | 3, _ => Tr.ev (n := 40) (N := 2) (keep := fdK2) (vc := true) (za0 _) mix (by kernel_rfl) rfl rfl rfl
  | 4, _ => Tr.ev (n := 40) (N := 2) (keep := fdK2) (vc := true) (za0 _) mix (by kernel_rfl) rfl rfl rfl
  | 5, _ => Tr.ev (n := 40) (N := 2) (keep := fdK2) (vc := true) (za0 _) mix (by kernel_rfl) rfl rfl rfl
  | 6, _ => Tr.ev (n := 40) (N := 2) (keep := fdK2) (vc := true) (za0 _) mix (by kernel_rfl) rfl rfl rfl
  | 7, _ => Tr.ev (n := 40) (N := 2) (keep := fdK2) (vc := true) (za0 _) mix (by kernel_rfl) rfl rfl rfl
  | 8, _ => Tr.ev (n := 40) (N := 2) (keep := fdK2) (vc := true) (za0 _) mix (by kernel_rfl) rfl rfl rfl
  | 9, _ => Tr.ev (n := 40) (N := 2) (keep := fdK2) (vc := true) (za0 _) mix (by kernel_rfl) rfl rfl rfl
  | 10, _ => Tr.ev (n := 40) (N := 2) (keep := fdK2) (vc := true) (za0 _) mix (by kernel_rfl) rfl rfl rfl
  | 11, _ => Tr.ev (n := 40) (N := 2) (keep := fdK2) (vc := true) (za0 _) mix (by kernel_rfl) rfl rfl rfl
  | 12, _ => Tr.ev (n := 40) (N := 2) (keep := fdK2) (vc := true) (za0 _) mix (by kernel_rfl) rfl rfl rfl
  | 13, _ => Tr.ev (n := 40) (N := 2) (keep := fdK2) (vc := true) (za0 _) mix (by kernel_rfl) rfl rfl rfl
  | 14, _ => Tr.ev (n := 40) (N := 2) (keep := fdK2) (vc := true) (za0 _) mix (by kernel_rfl) rfl rfl rfl
  | 15, _ => Tr.ev (n := 40) (N := 2) (keep := fdK2) (vc := true) (za0 _) mix (by kernel_rfl) rfl rfl rfl
  | k + 16, h => absurd h (by omega)
theorem fd_end2 (f : Nat → Int) (r : Int) : Tr Tryz.prog 0 fdB2 (stOf (fdE r 16) (fdG f)) (.exit 4) (stOf (fdE r 16) (fdG f)) :=
  Tr.ev (n := 40) (N := 2) (keep := fdK2) (vc := true) (za0 _) mix (by kernel_rfl) rfl rfl rfl
theorem fd_pre3 (f : Nat → Int) : (za3 Tryz.prog envR0 10 (preC 2 fdRest) (stOf (fdA 4) (fdG f))).map (cutP fdK3) = some (.normal, true, fdF, fdG3 f fun _ => 0, true) := by kernel_rfl
theorem fd_ini3 (f o : Nat → Int) : (za3 Tryz.prog envR0 10 (preC 1 (cL fdY)) (stOf fdF (fdG3 f o))).map (cutP fdK3) = some (.normal, true, fdH 0 0, fdG3 f o, true) := by kernel_rfl
theorem fd_step3 (f o : Nat → Int) (c : Int) : ∀ i, i < 16 → Tr Tryz.prog 0 fdB3 (stOf (fdH c i) (fdG3 f o)) .normal (stOf (fdH (cyC f c i) (i + 1)) (fdG3 f (upd o i (cyD f c i))))
  | 0, _ => Tr.ev (n := 40) (N := 3) (keep := fdK3) (vc := true) (za0 _) mix (by kernel_rfl) rfl rfl rfl
  | 1, _ => Tr.ev (n := 40) (N := 3) (keep := fdK3) (vc := true) (za0 _) mix (by kernel_rfl) rfl rfl rfl
  | 2, _ => Tr.ev (n := 40) (N := 3) (keep := fdK3) (vc := true) (za0 _) mix (by kernel_rfl) rfl rfl rfl
  | 3, _ => Tr.ev (n := 40) (N := 3) (keep := fdK3) (vc := true) (za0 _) mix (by kernel_rfl) rfl rfl rfl
  | 4, _ => Tr.ev (n := 40) (N := 3) (keep := fdK3) (vc := true) (za0 _) mix (by kernel_rfl) rfl rfl rfl
  | 5, _ => Tr.ev (n := 40) (N := 3) (keep := fdK3) (vc := true) (za0 _) mix (by kernel_rfl) rfl rfl rfl
  | 6, _ => Tr.ev (n := 40) (N := 3) (keep := fdK3) (vc := true) (za0 _) mix (by kernel_rfl) rfl rfl rfl
  | 7, _ => Tr.ev (n := 40) (N := 3) (keep := fdK3) (vc := true) (za0 _) mix (by kernel_rfl) rfl rfl rfl
  | 8, _ => Tr.ev (n := 40) (N := 3) (keep := fdK3) (vc := true) (za0 _) mix (by kernel_rfl) rfl rfl rfl
  | 9, _ => Tr.ev (n := 40) (N := 3) (keep := fdK3) (vc := true) (za0 _) mix (by kernel_rfl) rfl rfl rfl
  | 10, _ => Tr.ev (n := 40) (N := 3) (keep := fdK3) (vc := true) (za0 _) mix (by kernel_rfl) rfl rfl rfl
  | 11, _ => Tr.ev (n := 40) (N := 3) (keep := fdK3) (vc := true) (za0 _) mix (by kernel_rfl) rfl rfl rfl
  | 12, _ => Tr.ev (n := 40) (N := 3) (keep := fdK3) (vc := true) (za0 _) mix (by kernel_rfl) rfl rfl rfl
  | 13, _ => Tr.ev (n := 40) (N := 3) (keep := fdK3) (vc := true) (za0 _) mix (by kernel_rfl) rfl rfl rfl
  | 14, _ => Tr.ev (n := 40) (N := 3) (keep := fdK3) (vc := true) (za0 _) mix (by kernel_rfl) rfl rfl rfl
  | 15, _ => Tr.ev (n := 40) (N := 3) (keep := fdK3) (vc := true) (za0 _) mix (by kernel_rfl) rfl rfl rfl
  | k + 16, h => absurd h (by omega)
theorem fd_end3 (f o : Nat → Int) (c : Int) : Tr Tryz.prog 0 fdB3 (stOf (fdH c 16) (fdG3 f o)) (.exit 6) (stOf (fdH c 16) (fdG3 f o)) :=
  Tr.ev (n := 40) (N := 3) (keep := fdK3) (vc := true) (za0 _) mix (by kernel_rfl) rfl rfl rfl
theorem fd_pre4 (f o : Nat → Int) (c : Int) : (za3 Tryz.prog envR0 10 (preC 1 fdZ) (stOf (fdH c 16) (fdG3 f o))).map (cutP fdK4) = some (.normal, true, fdW, fdG4 f o, true) := by kernel_rfl
theorem fd_more (f o : Nat → Int) (hd : digB o = true) (hl : ltD o pD = false) (hs : leD o pD = true) : Tr Tryz.prog 0 fdB4 (stOf fdW (fdG4 f o)) .normal (stOf fdW (fdG4 f (suD o pD))) :=
  Tr.ev (n := ⟨1000000, [(70, true)]⟩) (N := 4) (keep := fdK4) (vc := ((digB o && leD o pD) && true) && (((digB o && true) && (((!ltD o pD) == true) && true)) && true)) envR0_ok mix (by kernel_rfl) (by rw [hd, hl, hs]; rfl) rfl rfl
theorem fd_done (f o : Nat → Int) (hd : digB o = true) (hl : ltD o pD = true) : Tr Tryz.prog 0 fdB4 (stOf fdW (fdG4 f o)) (.exit 8) (stOf fdW (fdG4 f o)) :=
  Tr.ev (n := ⟨1000000, [(70, false)]⟩) (N := 4) (keep := fdK4) (vc := (((digB o && true) && (((!ltD o pD) == false) && true)) && true)) envR0_ok mix (by kernel_rfl) (by rw [hd, hl]; rfl) rfl rfl
theorem fd_post (f o : Nat → Int) : Tr Tryz.prog 0 (cR (cR fdZ)) (stOf fdW (fdG4 f o)) .ret (stOf fdW (fdG5 f o)) :=
  Tr.ev (n := 40) (N := 4) (keep := fdK4) (vc := true) (za0 _) mix (by kernel_rfl) rfl rfl rfl
end Go.Proofs.YtbcbmkgfjegbhaaGreat
