/- scalar.modulo by its model: the rounds. No condition. -/
import Derived.Test.YtiolcdjnmnhcgaaN3
namespace Go.Proofs.Ytiolcdjnmnhcgaa
open Go.AE Fardel
set_option maxRecDepth 100000

theorem mdQ_eq (i : Nat) (hi : i < 67108864) : mdQ (i : Nat) = i / 64 := by
  unfold mdQ
  rw [Int.tdiv_eq_ediv_of_nonneg (by omega), IntKind.wrap_i64]
  omega
theorem mdw_eq (i : Nat) (hi : i < 67108864) : IntKind.i64.wrap ((i : Int).tdiv 64) = ((i / 64 : Nat) : Int) := by
  rw [Int.tdiv_eq_ediv_of_nonneg (by omega), IntKind.wrap_i64]
  omega
theorem md_vc {n : Nat} (f : Nat → Int) (hn : n ≤ 1048576) (off : Nat) {i : Nat} (hi : i < 64 * n) (a b c d : Int) (t : Bool)
    (ht : ((bif mdBelow (mdO a (mdBit off f i)) (mdO b (shrI .u64 a 63)) (mdO c (shrI .u64 b 63)) (mdO d (shrI .u64 c 63)) then (1 : Int) else 0) == 0) = t) : mdVC off n f a b c d (i : Nat) t = true := by
  unfold mdVC
  rw [ht, mdQ_eq i (by omega), mdw_eq i (by omega)]
  have g1 : decide ((0 : Int) ≤ ((i / 64 : Nat) : Int) ∧ ((i / 64 : Nat) : Int) < (n : Int)) = true := decide_eq_true (by omega)
  have g2 : decide (off ≤ off + i / 64 ∧ off + i / 64 < off + n) = true := decide_eq_true (by omega)
  have g3 : decide ((0 : Int) ≤ (i : Int).tmod 64) = true := decide_eq_true (by rw [Int.tmod_eq_emod_of_nonneg (by omega)]; omega)
  have g4 : decide ((i : Int) < 0) = false := decide_eq_false (by omega)
  rw [g1, g2, g3, g4, beq_self_eq_true]
  rfl

theorem md_keep' (off n c : Nat) (f : Nat → Int) (x0 x1 x2 x3 : Int) {i : Nat} (hi : i < 64 * n) (hn : n ≤ 1048576) {k : Int} {a b cc d : Nat} (hb : mdBit off f (i : Nat) = k)
    (e0 : mdO x0 k = (a : Int)) (e1 : mdO x1 (shrI .u64 x0 63) = (b : Int)) (e2 : mdO x2 (shrI .u64 x1 63) = (cc : Int)) (e3 : mdO x3 (shrI .u64 x2 63) = (d : Int)) (hbl : sb3 a b cc d L0 L1 0 L3 = true) :
    Tr Try.prog 1 mdX (stR 1 (mdT off n c (i : Nat)) (mdG off n f x0 x1 x2 x3)) (.goto 0) (stR 1 (mdT off n c ((i : Nat) - 1 : Int)) (mdG off n f a b cc d)) := by
  have hi1 : IntKind.i64.wrap ((i : Int) - 1) = (i : Int) - 1 := by rw [IntKind.wrap_i64]; omega
  have hv := md_vc f hn off hi x0 x1 x2 x3 false (by
    rw [hb, e0, e1, e2, e3]
    unfold mdBelow
    simp only [Int.toNat_natCast]
    rw [hbl]
    rfl)
  have hr := md_keep off n c f x0 x1 x2 x3 (i : Nat) hv
  rw [hi1, hb, e0, e1, e2, e3] at hr
  exact hr

theorem md_sub' (off n c : Nat) (f : Nat → Int) (x0 x1 x2 x3 : Int) {i : Nat} (hi : i < 64 * n) (hn : n ≤ 1048576) {k : Int} {a b cc d : Nat} (hb : mdBit off f (i : Nat) = k)
    (e0 : mdO x0 k = (a : Int)) (e1 : mdO x1 (shrI .u64 x0 63) = (b : Int)) (e2 : mdO x2 (shrI .u64 x1 63) = (cc : Int)) (e3 : mdO x3 (shrI .u64 x2 63) = (d : Int)) (hbl : sb3 a b cc d L0 L1 0 L3 = false) :
    Tr Try.prog 1 mdX (stR 1 (mdT off n c (i : Nat)) (mdG off n f x0 x1 x2 x3)) (.goto 0) (stR 1 (mdT off n c ((i : Nat) - 1 : Int)) (mdG off n f (subLo a L0 false) (subLo b L1 (sb0 a L0)) (subLo cc 0 (sb1 a b L0 L1)) (subLo d L3 (sb2 a b cc L0 L1 0)))) := by
  have hi1 : IntKind.i64.wrap ((i : Int) - 1) = (i : Int) - 1 := by rw [IntKind.wrap_i64]; omega
  have hv := md_vc f hn off hi x0 x1 x2 x3 true (by
    rw [hb, e0, e1, e2, e3]
    unfold mdBelow
    simp only [Int.toNat_natCast]
    rw [hbl]
    rfl)
  have hr := md_sub off n c f x0 x1 x2 x3 (i : Nat) hv
  rw [hi1, hb, e0, e1, e2, e3] at hr
  simp only [Int.toNat_natCast] at hr
  exact hr

theorem md_low {V k a b c d s : Nat} (hv : 2 * V + k = a + 18446744073709551616 * b + 340282366920938463463374607431768211456 * c + 6277101735386680763835789423207666416102355444464034512896 * d)
    (hs : s + L = a + 18446744073709551616 * b + 340282366920938463463374607431768211456 * c + 6277101735386680763835789423207666416102355444464034512896 * d + 115792089237316195423570985008687907853269984665640564039457584007913129639936 * bitI true)
    (h : s < 115792089237316195423570985008687907853269984665640564039457584007913129639936) : 2 * V + k < L := by
  have g : bitI true = 1 := rfl
  rw [g] at hs
  generalize L = l at *
  omega
theorem md_high {V k a b c d s : Nat} (hV : V < L) (hk : k < 2) (hv : 2 * V + k = a + 18446744073709551616 * b + 340282366920938463463374607431768211456 * c + 6277101735386680763835789423207666416102355444464034512896 * d)
    (hs : s + L = a + 18446744073709551616 * b + 340282366920938463463374607431768211456 * c + 6277101735386680763835789423207666416102355444464034512896 * d + 115792089237316195423570985008687907853269984665640564039457584007913129639936 * bitI false) : (2 * V + k) % L = s := by
  have g : bitI false = 0 := rfl
  rw [g] at hs
  generalize L = l at *
  have e : 2 * V + k = l + s := by omega
  rw [e, Nat.add_mod_left]
  exact Nat.mod_eq_of_lt (by omega)

theorem md_round {n : Nat} {f : Nat → Int} (hf : digs 18446744073709551616 n f) (hn : n ≤ 1048576) (off c : Nat) {i V : Nat} (hi : i < 64 * n) (hV : V < L) :
    Tr Try.prog 1 mdX (stR 1 (mdT off n c (i : Nat)) (mdW off n f V)) (.goto 0) (stR 1 (mdT off n c ((i : Nat) - 1 : Int)) (mdW off n f ((2 * V + natB 18446744073709551616 f n / 2 ^ i % 2) % L))) := by
  have hb := mdBit_eq hf off hi hn
  have hk : natB 18446744073709551616 f n / 2 ^ i % 2 < 2 := Nat.mod_lt _ (by decide)
  generalize natB 18446744073709551616 f n / 2 ^ i % 2 = k at *
  obtain ⟨a, b, cc, d, ha, hbb, hc, hd, e0, e1, e2, e3, hv⟩ := md_num hV hk
  obtain ⟨s0, s1, s2, s3, h0, h1, h2, h3, f0, f1, f2, f3, hs⟩ := sub4 ha hbb hc hd
  cases hbl : sb3 a b cc d L0 L1 0 L3 with
  | true =>
    have hr := md_keep' off n c f _ _ _ _ hi hn hb e0 e1 e2 e3 hbl
    rw [hbl] at hs
    have hlt := md_low hv hs (by clear hs hv hr; omega)
    rw [Nat.mod_eq_of_lt hlt]
    obtain ⟨q0, q1, q2, q3⟩ := dq_words ha hbb hc hd hv
    have e : mdW off n f (2 * V + k) = mdG off n f a b cc d := by
      unfold mdW
      rw [q0, q1, q2, q3]
    rw [e]
    exact hr
  | false =>
    have hr := md_sub' off n c f _ _ _ _ hi hn hb e0 e1 e2 e3 hbl
    rw [f0, f1, f2, f3] at hr
    rw [hbl] at hs
    have hm := md_high hV hk hv hs
    obtain ⟨q0, q1, q2, q3⟩ := dq_words h0 h1 h2 h3 rfl
    have e : mdW off n f ((2 * V + k) % L) = mdG off n f s0 s1 s2 s3 := by
      rw [hm]
      unfold mdW
      rw [q0, q1, q2, q3]
    rw [e]
    exact hr

end Go.Proofs.Ytiolcdjnmnhcgaa
