/- scalar.modulo by its model: a number modulo the order. No condition. -/
import Derived.Test.YtiolcdjnmnhcgaaN2
import Derived.Test.YtiolcdjnmnhcgaaJ4
import Derived.Test.YtiolcdjnmnhcgaaJ8
namespace Go.Proofs.Ytiolcdjnmnhcgaa
open Go.AE Fardel
set_option maxRecDepth 100000

theorem L_words : L = L0 + 18446744073709551616 * L1 + 6277101735386680763835789423207666416102355444464034512896 * L3 := by decide

def dq (V k : Nat) : Int := dgB 18446744073709551616 V k
def bitI (b : Bool) : Nat := bif b then 1 else 0

theorem dq_words {V a b c d : Nat} (ha : a < 18446744073709551616) (hb : b < 18446744073709551616) (hc : c < 18446744073709551616) (hd : d < 18446744073709551616) (h : V = a + 18446744073709551616 * b + 340282366920938463463374607431768211456 * c + 6277101735386680763835789423207666416102355444464034512896 * d) :
    dq V 0 = a ∧ dq V 1 = b ∧ dq V 2 = c ∧ dq V 3 = d := by
  unfold dq dgB
  simp only [Nat.reducePow]
  omega

theorem dq_back {V : Nat} (h : V < 115792089237316195423570985008687907853269984665640564039457584007913129639936) : ∃ a b c d : Nat, a < 18446744073709551616 ∧ b < 18446744073709551616 ∧ c < 18446744073709551616 ∧ d < 18446744073709551616 ∧ dq V 0 = a ∧ dq V 1 = b ∧ dq V 2 = c ∧ dq V 3 = d ∧
    V = a + 18446744073709551616 * b + 340282366920938463463374607431768211456 * c + 6277101735386680763835789423207666416102355444464034512896 * d := by
  have h2 : V / 18446744073709551616 ^ 2 = V / 18446744073709551616 / 18446744073709551616 := by rw [Nat.div_div_eq_div_mul]
  have h3 : V / 18446744073709551616 ^ 3 = V / 18446744073709551616 / 18446744073709551616 / 18446744073709551616 := by rw [Nat.div_div_eq_div_mul, Nat.div_div_eq_div_mul]
  refine ⟨V % 18446744073709551616, V / 18446744073709551616 % 18446744073709551616, V / 18446744073709551616 / 18446744073709551616 % 18446744073709551616, V / 18446744073709551616 / 18446744073709551616 / 18446744073709551616 % 18446744073709551616, ?_⟩
  unfold dq dgB
  rw [h2, h3, Nat.pow_zero, Nat.pow_one, Nat.div_one]
  refine ⟨by omega, by omega, by omega, by omega, rfl, rfl, rfl, rfl, ?_⟩
  clear h2 h3
  omega

theorem or_comm64 (x y : Int) : bits .or .u64 x y = bits .or .u64 y x := by
  rw [bits64, bits64]
  simp only [BitVec.or_comm]

theorem mdO_eq {x y : Nat} (hx : x < 18446744073709551616) (hy : y < 2) : mdO x y = ((2 * x % 18446744073709551616 + y : Nat) : Int) := by
  unfold mdO
  have e : shlI .u64 (x : Int) 1 = IntKind.u64.wrap ((x : Int) * 2) := shlI_small _ 1 (by decide)
  rw [e]
  have e2 : IntKind.u64.wrap ((x : Int) * 2) = ((2 * x % 18446744073709551616 : Nat) : Int) := by rw [IntKind.wrap_u64]; omega
  rw [e2, or_comm64, or_join 1 _ _ (by omega) (by omega) (by omega) (by omega) (by omega) (by omega)]
  omega

theorem shr63 {x : Nat} (hx : x < 18446744073709551616) : shrI .u64 (x : Int) 63 = ((x / 9223372036854775808 : Nat) : Int) := by
  have := shrI_u64 (x : Int) 63 (by decide)
  rw [show ((63 : Nat) : Int) = 63 from rfl] at this
  rw [this]
  omega

theorem sub_one {x y : Nat} (hx : x < 18446744073709551616) (hy : y < 18446744073709551616) (b : Bool) : ∃ s : Nat, s < 18446744073709551616 ∧ subLo x y b = (s : Int) ∧ s + y + bitI b = x + 18446744073709551616 * bitI (subB x y b) := by
  unfold subLo subB bitI
  refine ⟨(x + 18446744073709551616 - y - (bif b then 1 else 0)) % 18446744073709551616, by omega, rfl, ?_⟩
  by_cases h : x < y + (bif b then 1 else 0)
  · rw [decide_eq_true h]
    cases b <;> simp only [cond_true, cond_false] at h ⊢ <;> omega
  · rw [decide_eq_false h]
    cases b <;> simp only [cond_true, cond_false] at h ⊢ <;> omega

/-- A round: the number twice, and a bit, modulo the order. -/
theorem md_num {V k : Nat} (hV : V < L) (hk : k < 2) : ∃ a b c d : Nat, a < 18446744073709551616 ∧ b < 18446744073709551616 ∧ c < 18446744073709551616 ∧ d < 18446744073709551616 ∧
    mdO (dq V 0) k = (a : Int) ∧ mdO (dq V 1) (shrI .u64 (dq V 0) 63) = (b : Int) ∧ mdO (dq V 2) (shrI .u64 (dq V 1) 63) = (c : Int) ∧ mdO (dq V 3) (shrI .u64 (dq V 2) 63) = (d : Int) ∧
    2 * V + k = a + 18446744073709551616 * b + 340282366920938463463374607431768211456 * c + 6277101735386680763835789423207666416102355444464034512896 * d := by
  have hL : L = 7237005577332262213973186563042994240857116359379907606001950938285454250989 := rfl
  obtain ⟨a, b, c, d, ha, hb, hc, hd, e0, e1, e2, e3, hv⟩ := dq_back (V := V) (by omega)
  rw [e0, e1, e2, e3, shr63 ha, shr63 hb, shr63 hc, mdO_eq ha hk, mdO_eq hb (by omega), mdO_eq hc (by omega), mdO_eq hd (by omega)]
  refine ⟨2 * a % 18446744073709551616 + k, 2 * b % 18446744073709551616 + a / 9223372036854775808, 2 * c % 18446744073709551616 + b / 9223372036854775808, 2 * d % 18446744073709551616 + c / 9223372036854775808, by omega, by omega, by omega, by omega, rfl, rfl, rfl, rfl, ?_⟩
  rw [hL] at hV
  omega

theorem sub4 {a b c d : Nat} (ha : a < 18446744073709551616) (hb : b < 18446744073709551616) (hc : c < 18446744073709551616) (hd : d < 18446744073709551616) : ∃ s0 s1 s2 s3 : Nat, s0 < 18446744073709551616 ∧ s1 < 18446744073709551616 ∧ s2 < 18446744073709551616 ∧ s3 < 18446744073709551616 ∧
    subLo a L0 false = (s0 : Int) ∧ subLo b L1 (sb0 a L0) = (s1 : Int) ∧ subLo c 0 (sb1 a b L0 L1) = (s2 : Int) ∧ subLo d L3 (sb2 a b c L0 L1 0) = (s3 : Int) ∧
    s0 + 18446744073709551616 * s1 + 340282366920938463463374607431768211456 * s2 + 6277101735386680763835789423207666416102355444464034512896 * s3 + L =
      a + 18446744073709551616 * b + 340282366920938463463374607431768211456 * c + 6277101735386680763835789423207666416102355444464034512896 * d + 115792089237316195423570985008687907853269984665640564039457584007913129639936 * bitI (sb3 a b c d L0 L1 0 L3) := by
  obtain ⟨s0, h0, e0, f0⟩ := sub_one ha (by decide : L0 < 18446744073709551616) false
  obtain ⟨s1, h1, e1, f1⟩ := sub_one hb (by decide : L1 < 18446744073709551616) (sb0 a L0)
  obtain ⟨s2, h2, e2, f2⟩ := sub_one hc (by decide : 0 < 18446744073709551616) (sb1 a b L0 L1)
  obtain ⟨s3, h3, e3, f3⟩ := sub_one hd (by decide : L3 < 18446744073709551616) (sb2 a b c L0 L1 0)
  refine ⟨s0, s1, s2, s3, h0, h1, h2, h3, e0, e1, e2, e3, ?_⟩
  have g0 : bitI (subB a L0 false) = bitI (sb0 a L0) := rfl
  have g1 : bitI (subB b L1 (sb0 a L0)) = bitI (sb1 a b L0 L1) := rfl
  have g2 : bitI (subB c 0 (sb1 a b L0 L1)) = bitI (sb2 a b c L0 L1 0) := rfl
  have g3 : bitI (subB d L3 (sb2 a b c L0 L1 0)) = bitI (sb3 a b c d L0 L1 0 L3) := rfl
  have g : bitI false = 0 := rfl
  rw [g, g0] at f0
  rw [g1] at f1
  rw [g2] at f2
  rw [g3] at f3
  rw [L_words]
  generalize bitI (sb0 a L0) = x0 at *
  generalize bitI (sb1 a b L0 L1) = x1 at *
  generalize bitI (sb2 a b c L0 L1 0) = x2 at *
  generalize bitI (sb3 a b c d L0 L1 0 L3) = x3 at *
  generalize L0 = l0 at *
  generalize L1 = l1 at *
  generalize L3 = l3 at *
  clear e0 e1 e2 e3 g0 g1 g2 g3 g
  omega

def mdW (off n : Nat) (f : Nat → Int) (V : Nat) : Heap := mdG off n f (dq V 0) (dq V 1) (dq V 2) (dq V 3)

theorem bit64 (N a b : Nat) (hb : b < 64) : N / 18446744073709551616 ^ a % 18446744073709551616 / 2 ^ b % 2 = N / 2 ^ (64 * a + b) % 2 := by
  have e : (18446744073709551616 : Nat) = 2 ^ b * 2 ^ (64 - b) := by rw [← Nat.pow_add]; rw [show b + (64 - b) = 64 by omega]
  have e2 : (2 : Nat) ∣ 2 ^ (64 - b) := ⟨2 ^ (63 - b), by rw [← Nat.pow_succ', show (63 - b).succ = 64 - b by omega]⟩
  have h1 : N / 18446744073709551616 ^ a % 18446744073709551616 / 2 ^ b = N / 18446744073709551616 ^ a / 2 ^ b % 2 ^ (64 - b) := by
    conv => lhs; rw [show N / 18446744073709551616 ^ a % 18446744073709551616 = N / 18446744073709551616 ^ a % (2 ^ b * 2 ^ (64 - b)) by rw [← e]]
    rw [Nat.mod_mul_right_div_self]
  rw [h1, Nat.mod_mod_of_dvd _ e2, Nat.div_div_eq_div_mul]
  rw [show (18446744073709551616 : Nat) = 2 ^ 64 from rfl, ← Nat.pow_mul, ← Nat.pow_add]

theorem and1_u64' (a : Nat) (h : a < 18446744073709551616) : bits .and .u64 (a : Int) 1 = ((a % 2 : Nat) : Int) := by
  have h := bits_mask .u64 64 (by decide) (fun n h0 h1 => by rw [IntKind.wrap_u64]; omega) 1 (by decide) (a : Int) (by omega) (by omega)
  rw [show ((2 : Int) ^ 1 - 1) = 1 by decide] at h
  rw [h]
  omega

theorem mdBit_eq {n : Nat} {f : Nat → Int} (hf : digs 18446744073709551616 n f) (off : Nat) {i : Nat} (hi : i < 64 * n) (hn : n ≤ 1048576) : mdBit off f (i : Nat) = ((natB 18446744073709551616 f n / 2 ^ i % 2 : Nat) : Int) := by
  unfold mdBit
  have hq : mdQ (i : Nat) = i / 64 := by
    unfold mdQ
    rw [Int.tdiv_eq_ediv_of_nonneg (by omega), IntKind.wrap_i64]
    omega
  have hr : ((i : Nat) : Int).tmod 64 = ((i % 64 : Nat) : Int) := by
    rw [Int.tmod_eq_emod_of_nonneg (by omega)]
    omega
  rw [hq, hr, show off + i / 64 - off = i / 64 by omega, shrI_u64 _ _ (by omega)]
  rw [dgB_of (by decide) hf (i := i / 64) (by omega)]
  unfold dgB
  rw [show (2 : Int) ^ (i % 64) = ((2 ^ (i % 64) : Nat) : Int) by simp, ← Int.natCast_ediv]
  have hlt : natB 18446744073709551616 f n / 18446744073709551616 ^ (i / 64) % 18446744073709551616 / 2 ^ (i % 64) < 18446744073709551616 := Nat.lt_of_le_of_lt (Nat.div_le_self _ _) (Nat.mod_lt _ (by decide))
  rw [and1_u64' _ hlt, bit64 _ _ _ (Nat.mod_lt _ (by decide)), Nat.div_add_mod]

end Go.Proofs.Ytiolcdjnmnhcgaa
