/- scalar.MulAdd: a product and a number modulo the order. No condition. -/
import Derived.Test.YtiolcdjnmnhcgaaN8
import Derived.Test.YtiolcdjnmnhcgaaFn
import Derived.Test.YtiolcdjnmnhcgaaJ7
namespace Go.Proofs.Ytiolcdjnmnhcgaa
open Go.AE Fardel
set_option maxRecDepth 100000

theorem natB_set {B : Nat} (f : Nat → Int) (j : Nat) (v : Int) : ∀ n, j < n → natB B (upd f j v) n + B ^ j * (f j).toNat = natB B f n + B ^ j * v.toNat
  | n + 1, h => by
    rw [natB, natB]
    rcases Nat.lt_or_ge j n with h2 | h2
    · have ih := natB_set (B := B) f j v n h2
      rw [upd_ne (by omega)]
      omega
    · have e : n = j := by omega
      subst e
      rw [natB_upd n (Nat.le_refl _)]
      have e2 : upd f n v n = v := by unfold upd; rw [Nat.beq_refl]; rfl
      rw [e2]
      omega

theorem step_num {x y o s p : Nat} (hx : x < 18446744073709551616) (hy : y < 18446744073709551616) (ho : o < 18446744073709551616) (hs : s < 18446744073709551616) (hp : p = x * y) :
    p / 18446744073709551616 + (p % 18446744073709551616 + o) / 18446744073709551616 + (s + (p % 18446744073709551616 + o) % 18446744073709551616) / 18446744073709551616 < 18446744073709551616 ∧
    (s + (p % 18446744073709551616 + o) % 18446744073709551616) % 18446744073709551616 + 18446744073709551616 * (p / 18446744073709551616 + (p % 18446744073709551616 + o) / 18446744073709551616 + (s + (p % 18446744073709551616 + o) % 18446744073709551616) / 18446744073709551616) = s + p + o := by
  have h : p ≤ 18446744073709551615 * 18446744073709551615 := by rw [hp]; exact Nat.mul_le_mul (by omega) (by omega)
  clear hp
  omega

theorem ma_digit {X Y S : Nat → Int} {i k x y s o : Nat} (hX : X i = (x : Int)) (hY : Y k = (y : Int)) (hS : S (i + k) = (s : Int)) (hx : x < 18446744073709551616) (hy : y < 18446744073709551616) (ho : o < 18446744073709551616) (hs : s < 18446744073709551616) :
    ∃ s' o' : Nat, s' < 18446744073709551616 ∧ o' < 18446744073709551616 ∧ maN X Y S i k o = (o' : Int) ∧ maS X Y S i k o = upd S (i + k) (s' : Int) ∧ s' + 18446744073709551616 * o' = s + x * y + o := by
  obtain ⟨p, hp⟩ : ∃ p, p = x * y := ⟨_, rfl⟩
  have hn := step_num hx hy ho hs hp
  have e1 : maLw X Y i k = p % 18446744073709551616 := by
    unfold maLw
    rw [hX, hY, ← Int.natCast_mul, ← hp, IntKind.wrap_u64]
    omega
  have e2 : (mulHi (X i) (Y k)).toNat % 18446744073709551616 = p / 18446744073709551616 := by
    rw [hX, hY, mulHi_nat x y hx hy, ← hp, Int.toNat_natCast]
    have h : p / 18446744073709551616 < 18446744073709551616 := by have := hn.1; clear e1 hn hp; omega
    exact Nat.mod_eq_of_lt h
  have e3 : maLo X Y i k o = (((p % 18446744073709551616 + o) % 18446744073709551616 : Nat) : Int) := by
    unfold maLo
    rw [e1]
    rfl
  refine ⟨(s + (p % 18446744073709551616 + o) % 18446744073709551616) % 18446744073709551616, p / 18446744073709551616 + (p % 18446744073709551616 + o) / 18446744073709551616 + (s + (p % 18446744073709551616 + o) % 18446744073709551616) / 18446744073709551616, Nat.mod_lt _ (by decide), hn.1, ?_, ?_, by rw [← hp]; exact hn.2⟩
  · unfold maN
    rw [e1, e2, e3, hS]
    unfold addHi
    simp only [Int.toNat_natCast]
    rw [IntKind.wrap_u64, IntKind.wrap_u64]
    have h := hn.1
    generalize (p % 18446744073709551616 + o) / 18446744073709551616 = u at *
    generalize (s + (p % 18446744073709551616 + o) % 18446744073709551616) / 18446744073709551616 = v at *
    generalize p / 18446744073709551616 = w at *
    clear e1 e2 e3 hn hp
    omega
  · unfold maS
    rw [e3, hS]
    rfl

def maR (X Y S : Nat → Int) (i : Nat) : Nat → Int × (Nat → Int)
  | 0 => (0, S)
  | k + 1 => (maN X Y (maR X Y S i k).2 i k (maR X Y S i k).1, maS X Y (maR X Y S i k).2 i k (maR X Y S i k).1)

def numOf (f : Nat → Int) (i : Nat) : Nat := (f i).toNat
theorem dig_nat {n : Nat} {f : Nat → Int} (h : digs 18446744073709551616 n f) {i : Nat} (hi : i < n) : f i = (numOf f i : Int) ∧ numOf f i < 18446744073709551616 := by
  have := h i hi
  unfold numOf
  omega

theorem maR_spec {X Y S : Nat → Int} (hX : digs 18446744073709551616 4 X) (hY : digs 18446744073709551616 4 Y) (hS : digs 18446744073709551616 9 S) {i : Nat} (hi : i < 4) : ∀ k, k ≤ 4 →
    ∃ (o : Nat), o < 18446744073709551616 ∧ (maR X Y S i k).1 = (o : Int) ∧ digs 18446744073709551616 9 (maR X Y S i k).2 ∧ (∀ j, i + 4 ≤ j → (maR X Y S i k).2 j = S j) ∧
      natB 18446744073709551616 (maR X Y S i k).2 9 + 18446744073709551616 ^ (i + k) * o = natB 18446744073709551616 S 9 + 18446744073709551616 ^ i * (numOf X i * natB 18446744073709551616 Y k)
  | 0, _ => ⟨0, by decide, rfl, hS, fun _ _ => rfl, by simp [maR, natB]⟩
  | k + 1, hk => by
    obtain ⟨o, ho, h1, h2, h3, h4⟩ := maR_spec hX hY hS hi k (by omega)
    obtain ⟨x1, x2⟩ := dig_nat hX hi
    obtain ⟨y1, y2⟩ := dig_nat hY (i := k) (by omega)
    obtain ⟨s1, s2⟩ := dig_nat h2 (i := i + k) (by omega)
    obtain ⟨s', o', g1, g2, g3, g4, g5⟩ := ma_digit x1 y1 s1 x2 y2 ho s2
    have e1 : (maR X Y S i (k + 1)).1 = (o' : Int) := by
      show maN X Y (maR X Y S i k).2 i k (maR X Y S i k).1 = _
      rw [h1]; exact g3
    have e2 : (maR X Y S i (k + 1)).2 = upd (maR X Y S i k).2 (i + k) (s' : Int) := by
      show maS X Y (maR X Y S i k).2 i k (maR X Y S i k).1 = _
      rw [h1]; exact g4
    rw [e1, e2]
    refine ⟨o', g2, rfl, ?_, ?_, ?_⟩
    · intro j hj
      unfold upd
      cases Nat.beq j (i + k) with
      | true => exact ⟨by rw [cond_true]; omega, by rw [cond_true]; omega⟩
      | false => exact h2 j hj
    · intro j hj
      rw [upd_ne (by omega)]
      exact h3 j hj
    · have hset := natB_set (B := 18446744073709551616) (maR X Y S i k).2 (i + k) (s' : Int) 9 (by omega)
      have hy : natB 18446744073709551616 Y (k + 1) = natB 18446744073709551616 Y k + 18446744073709551616 ^ k * numOf Y k := rfl
      rw [hy]
      have hss : ((maR X Y S i k).2 (i + k)).toNat = numOf (maR X Y S i k).2 (i + k) := rfl
      rw [hss, Int.toNat_natCast] at hset
      rw [Nat.mul_add, Nat.mul_add, show i + (k + 1) = i + k + 1 from rfl, Nat.pow_succ]
      rw [show (18446744073709551616 : Nat) ^ i * (numOf X i * (18446744073709551616 ^ k * numOf Y k)) = 18446744073709551616 ^ (i + k) * (numOf X i * numOf Y k) by rw [Nat.pow_add]; ac_rfl]
      have g6 := congrArg (fun z => 18446744073709551616 ^ (i + k) * z) g5
      simp only [Nat.mul_add] at g6
      rw [Nat.mul_assoc]
      generalize 18446744073709551616 ^ (i + k) * (18446744073709551616 * o') = t1 at *
      generalize 18446744073709551616 ^ (i + k) * s' = t2 at *
      generalize 18446744073709551616 ^ (i + k) * o = t3 at *
      generalize 18446744073709551616 ^ (i + k) * (numOf X i * numOf Y k) = t4 at *
      generalize 18446744073709551616 ^ (i + k) * numOf (maR X Y S i k).2 (i + k) = t5 at *
      generalize 18446744073709551616 ^ i * (numOf X i * natB 18446744073709551616 Y k) = t6 at *
      clear e1 e2 hss hy
      omega

def maQ (X Y S : Nat → Int) (i : Nat) : Nat → Int := upd (maR X Y S i 4).2 (i + 4) (addLo ((maR X Y S i 4).2 (i + 4)).toNat (maR X Y S i 4).1.toNat)
theorem maQ_spec {X Y S : Nat → Int} (hX : digs 18446744073709551616 4 X) (hY : digs 18446744073709551616 4 Y) (hS : digs 18446744073709551616 9 S) {i : Nat} (hi : i < 4) (h0 : ∀ j, i + 4 ≤ j → S j = 0) :
    digs 18446744073709551616 9 (maQ X Y S i) ∧ (∀ j, i + 1 + 4 ≤ j → maQ X Y S i j = 0) ∧
      natB 18446744073709551616 (maQ X Y S i) 9 = natB 18446744073709551616 S 9 + 18446744073709551616 ^ i * (numOf X i * natB 18446744073709551616 Y 4) := by
  obtain ⟨o, ho, h1, h2, h3, h4⟩ := maR_spec hX hY hS hi 4 (Nat.le_refl _)
  have hz : (maR X Y S i 4).2 (i + 4) = 0 := by rw [h3 _ (Nat.le_refl _), h0 _ (Nat.le_refl _)]
  have e : maQ X Y S i = upd (maR X Y S i 4).2 (i + 4) (o : Int) := by
    unfold maQ
    rw [hz, h1]
    unfold addLo
    rw [show (0 : Int).toNat = 0 from rfl, Int.toNat_natCast, Nat.zero_add, Nat.mod_eq_of_lt ho]
  rw [e]
  refine ⟨?_, ?_, ?_⟩
  · intro j hj
    unfold upd
    cases Nat.beq j (i + 4) with
    | true => exact ⟨by rw [cond_true]; omega, by rw [cond_true]; omega⟩
    | false => exact h2 j hj
  · intro j hj
    rw [upd_ne (by omega), h3 _ (by omega)]
    exact h0 j (by omega)
  · have hset := natB_set (B := 18446744073709551616) (maR X Y S i 4).2 (i + 4) (o : Int) 9 (by omega)
    rw [hz, show (0 : Int).toNat = 0 from rfl, Nat.mul_zero, Nat.add_zero, Int.toNat_natCast, h4] at hset
    exact hset

def maP (X Y S : Nat → Int) : Nat → Nat → Int
  | 0 => S
  | i + 1 => maQ X Y (maP X Y S i) i
theorem maP_spec {X Y S : Nat → Int} (hX : digs 18446744073709551616 4 X) (hY : digs 18446744073709551616 4 Y) (hS : digs 18446744073709551616 9 S) (h0 : ∀ j, 4 ≤ j → S j = 0) : ∀ i, i ≤ 4 →
    digs 18446744073709551616 9 (maP X Y S i) ∧ (∀ j, i + 4 ≤ j → maP X Y S i j = 0) ∧ natB 18446744073709551616 (maP X Y S i) 9 = natB 18446744073709551616 S 9 + natB 18446744073709551616 X i * natB 18446744073709551616 Y 4
  | 0, _ => ⟨hS, fun j hj => h0 j (by omega), by simp [maP, natB]⟩
  | i + 1, hi => by
    obtain ⟨g1, g2, g3⟩ := maP_spec hX hY hS h0 i (by omega)
    obtain ⟨k1, k2, k3⟩ := maQ_spec hX hY g1 (i := i) (by omega) g2
    refine ⟨k1, k2, ?_⟩
    show natB 18446744073709551616 (maQ X Y (maP X Y S i) i) 9 = _
    rw [k3, g3, show natB 18446744073709551616 X (i + 1) = natB 18446744073709551616 X i + 18446744073709551616 ^ i * numOf X i from rfl, Nat.add_mul, Nat.add_assoc, Nat.mul_assoc]

/-! ### The run -/
section
variable (a b c X Y Z S : Nat → Int)
theorem ma_loop4 (i : Nat) (hi : i < 4) (o : Int) (ho : 0 ≤ o) (ho2 : o < 18446744073709551616) (hz : S (i + 4) = 0) :
    Tr Try.prog 0 (.block 4 (.loop maO)) (stOf (maU i (i + 4) o) (maG a b c X Y Z S)) .normal (stOf (maA (i : Nat)) (maG a b c X Y Z (upd S (i + 4) (addLo (S (i + 4)).toNat o.toNat)))) := by
  by_cases h : o > 0
  · have e : addHi (S (i + 4)).toNat o.toNat = 0 := by
      rw [hz]
      unfold addHi
      have : ((0 : Int).toNat + o.toNat) / 18446744073709551616 = 0 := by omega
      rw [this]
      rfl
    have h1 := ma_over a b c X Y Z S o h i hi
    have h2 := ma_out a b c X Y Z (upd S (i + 4) (addLo (S (i + 4)).toNat o.toNat)) 0 (by omega) 1 (by decide) i hi
    rw [e] at h1
    exact Tr.iter (S := fun d => match d with
      | 0 => stOf (maU i (i + 4) o) (maG a b c X Y Z S)
      | _ + 1 => stOf (maU i (i + 5) 0) (maG a b c X Y Z (upd S (i + 4) (addLo (S (i + 4)).toNat o.toNat)))) (n := 1) (fun d hd => by
        obtain rfl : d = 0 := by omega
        exact h1) h2
  · have e : upd S (i + 4) (addLo (S (i + 4)).toNat o.toNat) = S := by
      have e0 : o = 0 := by omega
      funext j
      unfold upd
      cases hj : Nat.beq j (i + 4) with
      | true =>
        rw [cond_true, Nat.eq_of_beq_eq_true hj, hz, e0]
        rfl
      | false => rfl
    rw [e]
    exact Tr.iter (S := fun _ => stOf (maU i (i + 4) o) (maG a b c X Y Z S)) (n := 0) (fun d hd => absurd hd (by omega)) (ma_out a b c X Y Z S o h 0 (by decide) i hi)

theorem ma_round (i : Nat) (hi : i < 4) (ho : 0 ≤ (maR X Y S i 4).1) (ho2 : (maR X Y S i 4).1 < 18446744073709551616) (hz : (maR X Y S i 4).2 (i + 4) = 0) :
    Tr Try.prog 0 maB (stOf (maA (i : Nat)) (maG a b c X Y Z S)) .normal (stOf (maA ((i + 1 : Nat) : Int)) (maG a b c X Y Z (maQ X Y S i))) := by
  refine Tr.pre envN2_ok mix 2 maKA (ma_test a b c X Y Z S i hi) rfl ?_
  rw [maB_eq]
  refine Tr.seq (Tr.block (s1 := stOf (maA (i : Nat)) (maG a b c X Y Z (maQ X Y S i))) ?_ (by intro i h; cases h)) (ma_next a b c X Y Z _ i hi)
  refine Tr.pre envN2_ok mix 2 maKB (ma_begin a b c X Y Z S i hi) rfl ?_
  rw [maJ_eq]
  refine Tr.seq (s1 := stOf (maT i 4 (X i) (maR X Y S i 4).1) (maG a b c X Y Z (maR X Y S i 4).2)) ?_ ?_
  · refine Tr.pre envN2_ok mix 1 maKT (ma_zero a b c X Y Z S 0 i hi) rfl ?_
    rw [maIL_eq]
    exact Tr.iter (S := fun k => stOf (maT i k (X i) (maR X Y S i k).1) (maG a b c X Y Z (maR X Y S i k).2)) (n := 4) (fun k hk => ma_step a b c X Y Z _ _ i hi k hk) (ma_end a b c X Y Z _ _ i hi)
  · refine Tr.pre envN2_ok mix 1 maKU (ma_mid a b c X Y Z _ _ i hi) rfl ?_
    rw [maOL_eq]
    exact ma_loop4 a b c X Y Z _ i hi _ ho ho2 hz

theorem ma_rounds (hX : digs 18446744073709551616 4 X) (hY : digs 18446744073709551616 4 Y) (hS : digs 18446744073709551616 9 S) (h0 : ∀ j, 4 ≤ j → S j = 0) :
    Tr Try.prog 0 (.block 0 (.loop maB)) (stOf (maA (0 : Nat)) (maG a b c X Y Z S)) .normal (stOf (maA (4 : Nat)) (maG a b c X Y Z (maP X Y S 4))) := by
  refine Tr.iter (S := fun i => stOf (maA (i : Nat)) (maG a b c X Y Z (maP X Y S i))) (n := 4) (fun i hi => ?_) (ma_last a b c X Y Z _)
  obtain ⟨g1, g2, g3⟩ := maP_spec hX hY hS h0 i (by omega)
  obtain ⟨o, ho, k1, k2, k3, k4⟩ := maR_spec hX hY g1 hi 4 (Nat.le_refl _)
  exact ma_round a b c X Y Z _ i hi (by rw [k1]; omega) (by rw [k1]; omega) (by rw [k3 _ (Nat.le_refl _)]; exact g2 _ (Nat.le_refl _))
end

theorem sh0_eq (f : Nat → Int) : sh0 f = f := by
  funext j
  unfold sh0
  rw [Nat.zero_add]
theorem wdF_digs (f : Nat → Int) (n m : Nat) : digs 18446744073709551616 m (wdF f n) := dgB_digs (by decide) _ _
theorem natB_wdF {f : Nat → Int} (h : digs 256 32 f) : natB 18446744073709551616 (wdF f 32) 4 = natB 256 f 32 := by
  unfold wdF
  rw [natB_dgB]
  exact Nat.mod_eq_of_lt (Nat.lt_of_lt_of_le (natB_lt 32 h) (by decide))
theorem maZ_ge (c : Nat → Int) (j : Nat) (h : 4 ≤ j) : maZ c j = 0 := by
  unfold maZ catF
  have e : Nat.blt j 4 = false := by
    cases hb : Nat.blt j 4
    · rfl
    · simp at hb; omega
  rw [e, cond_false, sh0_eq]
  rcases Nat.lt_or_ge (j - 4) 5 with h2 | h2
  · rw [updN_eq h2]
  · exact updN_ge h2
theorem maZ_lt (c : Nat → Int) (j : Nat) (h : j < 4) : maZ c j = wdF c 32 j := by
  unfold maZ catF
  have e : Nat.blt j 4 = true := by simpa using h
  rw [e, cond_true, sh0_eq, sh0_eq]
theorem maZ_digs (c : Nat → Int) : digs 18446744073709551616 9 (maZ c) := by
  intro j hj
  rcases Nat.lt_or_ge j 4 with h | h
  · rw [maZ_lt c j h]
    exact wdF_digs c 32 4 j h
  · rw [maZ_ge c j h]
    exact ⟨by decide, by decide⟩
theorem natB_maZ {c : Nat → Int} (h : digs 256 32 c) : natB 18446744073709551616 (maZ c) 9 = natB 256 c 32 := by
  have e : natB 18446744073709551616 (maZ c) 9 = natB 18446744073709551616 (maZ c) 4 := by
    simp only [natB, maZ_ge c 4 (by omega), maZ_ge c 5 (by omega), maZ_ge c 6 (by omega), maZ_ge c 7 (by omega), maZ_ge c 8 (by omega), show (0 : Int).toNat = 0 from rfl, Nat.mul_zero, Nat.add_zero]
  rw [e, natB_congr 4 (fun j hj => maZ_lt c j hj)]
  exact natB_wdF h

/-- The number of a·b + c modulo the order. -/
def maNum (a b c : Nat → Int) : Nat := (natB 256 a 32 * natB 256 b 32 + natB 256 c 32) % L
theorem ma_tr {a b c : Nat → Int} (ha : bytesB 32 a = true) (hb : bytesB 32 b = true) (hc : bytesB 32 c = true) : ∃ S, maV S = maNum a b c ∧
    Tr Try.prog 0 maC (stOf ([.ints .u8 32 a, .ints .u8 32 b, .ints .u8 32 c] ++ undefs 95) []) .ret (stOf (tmk [(6, .ptr 3 [])] 0 98) (maG9 a b c S ++ (maG a b c (wdF a 32) (wdF b 32) (wdF c 32) S).drop 4)) := by
  have hP := maP_spec (wdF_digs a 32 4) (wdF_digs b 32 4) (maZ_digs c) (maZ_ge c) 4 (Nat.le_refl _)
  refine ⟨maP (wdF a 32) (wdF b 32) (maZ c) 4, ?_, ?_⟩
  · unfold maV maNum
    have e : natB 18446744073709551616 (fun j => maP (wdF a 32) (wdF b 32) (maZ c) 4 (0 + j)) 9 = natB 18446744073709551616 (maP (wdF a 32) (wdF b 32) (maZ c) 4) 9 := natB_congr 9 fun j _ => by rw [Nat.zero_add]
    rw [e, hP.2.2, natB_maZ (bytesB_spec hc), natB_wdF (bytesB_spec ha), natB_wdF (bytesB_spec hb), Nat.add_comm]
  · refine Tr.pre envN2_ok mix 3 maK0 (ma_pre a b c) (by unfold maVC0; rw [sh0_eq, sh0_eq, sh0_eq, ha, hb, hc]; rfl) ?_
    rw [sh0_eq, sh0_eq, sh0_eq, maX_eq]
    refine Tr.seq (s1 := stOf (maA 4) (maG a b c (wdF a 32) (wdF b 32) (wdF c 32) (maP (wdF a 32) (wdF b 32) (maZ c) 4))) ?_ (ma_post a b c _ _ _ _ ?_)
    · refine Tr.pre envN2_ok mix 1 maKA (ma_ini a b c _ _ _ _) rfl ?_
      rw [maL_eq]
      exact ma_rounds a b c _ _ _ _ (wdF_digs a 32 4) (wdF_digs b 32 4) (maZ_digs c) (maZ_ge c)
    · unfold wordsB
      rw [List.all_eq_true]
      intro j hj
      have := hP.1 j (by simpa using hj)
      refine decide_eq_true ?_
      show 0 ≤ maP (wdF a 32) (wdF b 32) (maZ c) 4 (0 + j) ∧ maP (wdF a 32) (wdF b 32) (maZ c) 4 (0 + j) < 18446744073709551616
      rw [Nat.zero_add]
      exact this

end Go.Proofs.Ytiolcdjnmnhcgaa
