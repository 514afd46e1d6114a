/- field.Mul: the product in the field. No condition. -/
import Derived.Test.YtiolcdjnmnhcgaaFm
import Derived.Laws.BitsAllLaws
namespace Go.Proofs.Ytiolcdjnmnhcgaa
open Go.AE Fardel

theorem maskN (a : Nat) (ha : a < 18446744073709551616) : bits .and .u64 (a : Int) 4294967295 = ((a % 4294967296 : Nat) : Int) := by
  have h := bits_mask .u64 64 (by decide) wraps_u64 32 (by decide) (a : Int) (by omega) (by omega)
  have e : ((2 : Int) ^ 32 - 1) = 4294967295 := by decide
  rw [e] at h
  rw [h]
  omega
theorem shr32 (x : Int) : shrI .u64 x 32 = x / 4294967296 := shrI_u64 x 32 (by decide)
theorem divN (a : Nat) : (a : Int) / 4294967296 = ((a / 4294967296 : Nat) : Int) := by omega
theorem mulN (a b : Nat) : (a : Int) * (b : Int) = ((a * b : Nat) : Int) := (Int.natCast_mul a b).symm
theorem addN (a b : Nat) : (a : Int) + (b : Int) = ((a + b : Nat) : Int) := (Int.natCast_add a b).symm
theorem wrapN (a : Nat) (ha : a < 18446744073709551616) : IntKind.u64.wrap (a : Int) = (a : Int) := by rw [IntKind.wrap_u64]; omega

theorem mulHi_nat (x y : Nat) (hx : x < 18446744073709551616) (hy : y < 18446744073709551616) : mulHi x y = ((x * y / 18446744073709551616 : Nat) : Int) := by
  obtain ⟨bd, bt, bw, hhi⟩ := Lib.mul64_hi x y hx hy
  have ba := Lib.half_mul_le (a := x / 4294967296) (b := y / 4294967296) (by omega) (by omega)
  have bb := Lib.half_mul_le (a := x / 4294967296) (b := y % 4294967296) (by omega) (by omega)
  have bc := Lib.half_mul_le (a := x % 4294967296) (b := y / 4294967296) (by omega) (by omega)
  have ba' : x / 4294967296 * (y / 4294967296) < 18446744073709551616 := by omega
  have bb' : x / 4294967296 * (y % 4294967296) < 18446744073709551616 := by omega
  have bc' : x % 4294967296 * (y / 4294967296) < 18446744073709551616 := by omega
  have bh1 : x / 4294967296 * (y / 4294967296) + (x / 4294967296 * (y % 4294967296) + x % 4294967296 * (y % 4294967296) / 4294967296) / 4294967296 < 18446744073709551616 := by omega
  have bh : x / 4294967296 * (y / 4294967296) + (x / 4294967296 * (y % 4294967296) + x % 4294967296 * (y % 4294967296) / 4294967296) / 4294967296 + ((x / 4294967296 * (y % 4294967296) + x % 4294967296 * (y % 4294967296) / 4294967296) % 4294967296 + x % 4294967296 * (y / 4294967296)) / 4294967296 < 18446744073709551616 := by omega
  unfold mulHi
  simp only [shr32, maskN x hx, maskN y hy, divN, mulN, addN, wrapN _ bd, wrapN _ bb', wrapN _ bt, maskN _ bt, wrapN _ bc', wrapN _ bw, wrapN _ ba', wrapN _ bh1, wrapN _ bh]
  rw [hhi]

/-- A column holds a sum. -/
structure Acc (p : Nat × Nat) (S : Int) (n : Nat) : Prop where
  eq : ((p.1 % 18446744073709551616 : Nat) : Int) * 18446744073709551616 + ((p.2 % 18446744073709551616 : Nat) : Int) = S
  lt : S ≤ n * 649037107316853453566312041152512
  n9 : n ≤ 9

theorem acc_zero : Acc (0, 0) 0 0 := ⟨by decide, by decide, by decide⟩

theorem acc_step {p : Nat × Nat} {S a b : Int} {n : Nat} (h : Acc p S n) (hn : n < 9) (ha : 0 ≤ a) (ha' : a < 4503599627370496) (hb : 0 ≤ b) (hb' : b < 144115188075855872) : Acc (stp p (a, b)) (S + a * b) (n + 1) := by
  obtain ⟨H, L⟩ := p
  obtain ⟨eq, lt, n9⟩ := h
  simp only at eq
  obtain ⟨x, rfl⟩ := Int.eq_ofNat_of_zero_le ha
  obtain ⟨y, rfl⟩ := Int.eq_ofNat_of_zero_le hb
  have hx : x < 4503599627370496 := by omega
  have hy : y < 144115188075855872 := by omega
  have m1 : x * y < 649037107316853453566312041152512 := by
    have h2 : x * y ≤ 4503599627370495 * 144115188075855871 := Nat.mul_le_mul (by omega) (by omega)
    omega
  have e1 : mulHi (x : Int) (y : Int) = ((x * y / 18446744073709551616 : Nat) : Int) := mulHi_nat x y (by omega) (by omega)
  have e2 : IntKind.u64.wrap ((x : Int) * (y : Int)) = ((x * y % 18446744073709551616 : Nat) : Int) := by rw [IntKind.wrap_u64, ← Int.natCast_mul]; omega
  have e3 : (x : Int) * (y : Int) = ((x * y : Nat) : Int) := (Int.natCast_mul x y).symm
  unfold stp
  simp only [e1, e2, Int.toNat_natCast, cond_false]
  rw [e3]
  generalize x * y = q at *
  generalize hhd : H % 18446744073709551616 = h at *
  generalize hgd : L % 18446744073709551616 = g at *
  have hl : S + (q : Int) ≤ ((n + 1 : Nat) : Int) * 649037107316853453566312041152512 := by
    rw [Int.natCast_add, Int.add_mul]
    omega
  have hl9 : S + (q : Int) ≤ 9 * 649037107316853453566312041152512 := by
    have : ((n + 1 : Nat) : Int) * 649037107316853453566312041152512 ≤ 9 * 649037107316853453566312041152512 := Int.mul_le_mul_of_nonneg_right (by omega) (by decide)
    omega
  refine ⟨?_, hl, by omega⟩
  have hg : g < 18446744073709551616 := by rw [← hgd]; omega
  have hh : h < 18446744073709551616 := by rw [← hhd]; omega
  clear hgd hhd hl e3 e1 e2
  have hhi : q / 18446744073709551616 % 18446744073709551616 = q / 18446744073709551616 := by omega
  have hlo : q % 18446744073709551616 % 18446744073709551616 = q % 18446744073709551616 := by omega
  rw [hhi, hlo]
  have hd := Nat.div_add_mod q 18446744073709551616
  have hlt : q % 18446744073709551616 < 18446744073709551616 := by omega
  have hhl : q / 18446744073709551616 < 35184372088833 := by omega
  generalize q / 18446744073709551616 = hi at *
  generalize q % 18446744073709551616 = lo at *
  subst hd
  by_cases hc : 18446744073709551616 ≤ g + lo + 0
  · simp only [decide_eq_true hc, cond_true]
    have e5 : (g + lo + 0) % 18446744073709551616 = g + lo - 18446744073709551616 := by omega
    have e6 : (h + hi + 1) % 18446744073709551616 = h + hi + 1 := by omega
    rw [e5, e6]
    omega
  · simp only [decide_eq_false hc, cond_false]
    have e5 : (g + lo + 0) % 18446744073709551616 = g + lo := by omega
    have e6 : (h + hi + 0) % 18446744073709551616 = h + hi := by omega
    rw [e5, e6]
    omega

theorem col_ex {p : Nat × Nat} {S : Int} (h : Acc p S 5) : ∃ o v : Int, v * 2251799813685248 + o = S ∧ 0 ≤ o ∧ o < 2251799813685248 ∧ 0 ≤ v ∧ v < 1441151880758558721 ∧ lowO p = o ∧ overO p = v := by
  obtain ⟨H, L⟩ := p
  obtain ⟨eq, lt, n9⟩ := h
  unfold lowO overO
  simp only at eq ⊢
  have hg : L % 18446744073709551616 < 18446744073709551616 := by omega
  generalize H % 18446744073709551616 = h' at *
  generalize L % 18446744073709551616 = g at *
  refine ⟨S % 2251799813685248, S / 2251799813685248, by omega, by omega, by omega, by omega, by omega, ?_, ?_⟩
  · rw [and51 (g : Int) (by omega) (by omega)]; omega
  · have e1 : shlI .u64 (h' : Int) 13 = (h' : Int) * 8192 := by
      unfold shlI
      have : min ((13 : Int)).toNat IntKind.u64.bits = 13 := by decide
      rw [this, IntKind.wrap_u64]
      omega
    rw [e1, shr51, bits_join .u64 64 (by decide) wraps_u64 13 _ _ (by omega) (by omega) (by omega) (by omega) (by omega) (by omega)]
    omega

theorem prod_lt {a b : Int} (ha : 0 ≤ a) (ha' : a < 4503599627370496) (hb : 0 ≤ b) (hb' : b < 4503599627370496) : 0 ≤ a * b ∧ a * b < 20282409603651670423947251286016 := by
  refine ⟨Int.mul_nonneg ha hb, ?_⟩
  have h2 : a * b ≤ 4503599627370495 * 4503599627370495 := Int.mul_le_mul (by omega) (by omega) hb (by decide)
  omega

theorem col4 {x0 x1 x2 x3 x4 y0 y1 y2 y3 y4 o v : Int} (h : v * 2251799813685248 + o = 0 + x0 * y4 + x1 * y3 + x2 * y2 + x3 * y1 + x4 * y0) (ho : 0 ≤ o)
    (a0 : 0 ≤ x0) (b0 : x0 < 4503599627370496) (a1 : 0 ≤ x1) (b1 : x1 < 4503599627370496) (a2 : 0 ≤ x2) (b2 : x2 < 4503599627370496) (a3 : 0 ≤ x3) (b3 : x3 < 4503599627370496) (a4 : 0 ≤ x4) (b4 : x4 < 4503599627370496)
    (c0 : 0 ≤ y0) (d0 : y0 < 4503599627370496) (c1 : 0 ≤ y1) (d1 : y1 < 4503599627370496) (c2 : 0 ≤ y2) (d2 : y2 < 4503599627370496) (c3 : 0 ≤ y3) (d3 : y3 < 4503599627370496) (c4 : 0 ≤ y4) (d4 : y4 < 4503599627370496) :
    v < 45036000000000000 := by
  have p0 := prod_lt a0 b0 c4 d4
  have p1 := prod_lt a1 b1 c3 d3
  have p2 := prod_lt a2 b2 c2 d2
  have p3 := prod_lt a3 b3 c1 d1
  have p4 := prod_lt a4 b4 c0 d0
  omega

theorem mul_sum (x0 x1 x2 x3 x4 y0 y1 y2 y3 y4 : Int) :
    Fe.sum ⟨x0, x1, x2, x3, x4⟩ * Fe.sum ⟨y0, y1, y2, y3, y4⟩ =
      ((0 + x0 * y0 + x1 * (19 * y4) + x2 * (19 * y3) + x3 * (19 * y2) + x4 * (19 * y1)) + 2251799813685248 * (0 + x0 * y1 + x1 * y0 + x2 * (19 * y4) + x3 * (19 * y3) + x4 * (19 * y2))
        + 5070602400912917605986812821504 * (0 + x0 * y2 + x1 * y1 + x2 * y0 + x3 * (19 * y4) + x4 * (19 * y3)) + 11417981541647679048466287755595961091061972992 * (0 + x0 * y3 + x1 * y2 + x2 * y1 + x3 * y0 + x4 * (19 * y4))
        + 25711008708143844408671393477458601640355247900524685364822016 * (0 + x0 * y4 + x1 * y3 + x2 * y2 + x3 * y1 + x4 * y0))
      + (P : Int) * (x1 * y4 + x2 * y3 + x3 * y2 + x4 * y1 + 2251799813685248 * (x2 * y4 + x3 * y3 + x4 * y2) + 5070602400912917605986812821504 * (x3 * y4 + x4 * y3) + 11417981541647679048466287755595961091061972992 * (x4 * y4)) := by
  unfold Fe.sum
  rw [P_int]
  simp only
  grind

theorem mul_val {x0 x1 x2 x3 x4 y0 y1 y2 y3 y4 o0 v0 o1 v1 o2 v2 o3 v3 o4 v4 : Int} {v u : F} (hv : toF (Fe.sum ⟨x0, x1, x2, x3, x4⟩) = v) (hu : toF (Fe.sum ⟨y0, y1, y2, y3, y4⟩) = u)
    (e0 : v0 * 2251799813685248 + o0 = 0 + x0 * y0 + x1 * (19 * y4) + x2 * (19 * y3) + x3 * (19 * y2) + x4 * (19 * y1))
    (e1 : v1 * 2251799813685248 + o1 = 0 + x0 * y1 + x1 * y0 + x2 * (19 * y4) + x3 * (19 * y3) + x4 * (19 * y2))
    (e2 : v2 * 2251799813685248 + o2 = 0 + x0 * y2 + x1 * y1 + x2 * y0 + x3 * (19 * y4) + x4 * (19 * y3))
    (e3 : v3 * 2251799813685248 + o3 = 0 + x0 * y3 + x1 * y2 + x2 * y1 + x3 * y0 + x4 * (19 * y4))
    (e4 : v4 * 2251799813685248 + o4 = 0 + x0 * y4 + x1 * y3 + x2 * y2 + x3 * y1 + x4 * y0) :
    toF (Fe.sum ⟨o0 + 19 * v4, o1 + v0, o2 + v1, o3 + v2, o4 + v3⟩) = v * u := by
  rw [← hv, ← hu, ← toF_mul, mul_sum, ← e0, ← e1, ← e2, ← e3, ← e4]
  rw [toF_eq (x1 * y4 + x2 * y3 + x3 * y2 + x4 * y1 + 2251799813685248 * (x2 * y4 + x3 * y3 + x4 * y2) + 5070602400912917605986812821504 * (x3 * y4 + x4 * y3) + 11417981541647679048466287755595961091061972992 * (x4 * y4)) rfl]
  refine toF_eq (-v4) ?_
  unfold Fe.sum
  rw [P_int]
  simp only
  omega


theorem w19 {y : Int} (h0 : 0 ≤ y) (h1 : y < 4503599627370496) : IntKind.u64.wrap (19 * y) = 19 * y := by rw [IntKind.wrap_u64]; omega

theorem col5 {a0 a1 a2 a3 a4 b0 b1 b2 b3 b4 : Int} (ha0 : 0 ≤ a0 ∧ a0 < 4503599627370496) (ha1 : 0 ≤ a1 ∧ a1 < 4503599627370496) (ha2 : 0 ≤ a2 ∧ a2 < 4503599627370496) (ha3 : 0 ≤ a3 ∧ a3 < 4503599627370496) (ha4 : 0 ≤ a4 ∧ a4 < 4503599627370496)
    (hb0 : 0 ≤ b0 ∧ b0 < 144115188075855872) (hb1 : 0 ≤ b1 ∧ b1 < 144115188075855872) (hb2 : 0 ≤ b2 ∧ b2 < 144115188075855872) (hb3 : 0 ≤ b3 ∧ b3 < 144115188075855872) (hb4 : 0 ≤ b4 ∧ b4 < 144115188075855872) :
    ∃ o v : Int, v * 2251799813685248 + o = 0 + a0 * b0 + a1 * b1 + a2 * b2 + a3 * b3 + a4 * b4 ∧ 0 ≤ o ∧ o < 2251799813685248 ∧ 0 ≤ v ∧ v < 1441151880758558721 ∧
      lowO (col [(a0, b0), (a1, b1), (a2, b2), (a3, b3), (a4, b4)]) = o ∧ overO (col [(a0, b0), (a1, b1), (a2, b2), (a3, b3), (a4, b4)]) = v := by
  have h1 := acc_step acc_zero (by decide) ha0.1 ha0.2 hb0.1 hb0.2
  have h2 := acc_step h1 (by decide) ha1.1 ha1.2 hb1.1 hb1.2
  have h3 := acc_step h2 (by decide) ha2.1 ha2.2 hb2.1 hb2.2
  have h4 := acc_step h3 (by decide) ha3.1 ha3.2 hb3.1 hb3.2
  have h5 := acc_step h4 (by decide) ha4.1 ha4.2 hb4.1 hb4.2
  exact col_ex h5

theorem Mul_is {x y : Fe} {v u : F} (hx : x.is v) (hy : y.is u) : (rawC (mulL x y)).is (v * u) := by
  obtain ⟨x0, x1, x2, x3, x4⟩ := x
  obtain ⟨y0, y1, y2, y3, y4⟩ := y
  obtain ⟨⟨a0, b0, a1, b1, a2, b2, a3, b3, a4, b4⟩, hv⟩ := hx
  obtain ⟨⟨c0, d0, c1, d1, c2, d2, c3, d3, c4, d4⟩, hu⟩ := hy
  simp only at a0 b0 a1 b1 a2 b2 a3 b3 a4 b4 c0 d0 c1 d1 c2 d2 c3 d3 c4 d4
  obtain ⟨o0, v0, e0, p0, q0, r0, s0, lo0, ov0⟩ := col5 (b0 := y0) (b1 := 19 * y4) (b2 := 19 * y3) (b3 := 19 * y2) (b4 := 19 * y1) ⟨a0, b0⟩ ⟨a1, b1⟩ ⟨a2, b2⟩ ⟨a3, b3⟩ ⟨a4, b4⟩ (by omega) (by omega) (by omega) (by omega) (by omega)
  obtain ⟨o1, v1, e1, p1, q1, r1, s1, lo1, ov1⟩ := col5 (b0 := y1) (b1 := y0) (b2 := 19 * y4) (b3 := 19 * y3) (b4 := 19 * y2) ⟨a0, b0⟩ ⟨a1, b1⟩ ⟨a2, b2⟩ ⟨a3, b3⟩ ⟨a4, b4⟩ (by omega) (by omega) (by omega) (by omega) (by omega)
  obtain ⟨o2, v2, e2, p2, q2, r2, s2, lo2, ov2⟩ := col5 (b0 := y2) (b1 := y1) (b2 := y0) (b3 := 19 * y4) (b4 := 19 * y3) ⟨a0, b0⟩ ⟨a1, b1⟩ ⟨a2, b2⟩ ⟨a3, b3⟩ ⟨a4, b4⟩ (by omega) (by omega) (by omega) (by omega) (by omega)
  obtain ⟨o3, v3, e3, p3, q3, r3, s3, lo3, ov3⟩ := col5 (b0 := y3) (b1 := y2) (b2 := y1) (b3 := y0) (b4 := 19 * y4) ⟨a0, b0⟩ ⟨a1, b1⟩ ⟨a2, b2⟩ ⟨a3, b3⟩ ⟨a4, b4⟩ (by omega) (by omega) (by omega) (by omega) (by omega)
  obtain ⟨o4, v4, e4, p4, q4, r4, s4, lo4, ov4⟩ := col5 (b0 := y4) (b1 := y3) (b2 := y2) (b3 := y1) (b4 := y0) ⟨a0, b0⟩ ⟨a1, b1⟩ ⟨a2, b2⟩ ⟨a3, b3⟩ ⟨a4, b4⟩ (by omega) (by omega) (by omega) (by omega) (by omega)
  have hv4 := col4 e4 p4 a0 b0 a1 b1 a2 b2 a3 b3 a4 b4 c0 d0 c1 d1 c2 d2 c3 d3 c4 d4
  have hm : mulL ⟨x0, x1, x2, x3, x4⟩ ⟨y0, y1, y2, y3, y4⟩ = ⟨o0 + 19 * v4, o1 + v0, o2 + v1, o3 + v2, o4 + v3⟩ := by
    unfold mulL cl0 cl1 cl2 cl3 cl4
    simp only [w19 c1 d1, w19 c2 d2, w19 c3 d3, w19 c4 d4]
    rw [lo0, lo1, lo2, lo3, lo4, ov0, ov1, ov2, ov3, ov4]
    simp only [IntKind.wrap_u64]
    congr 1 <;> omega
  have hl : (mulL ⟨x0, x1, x2, x3, x4⟩ ⟨y0, y1, y2, y3, y4⟩).lt 9223372036854775808 := by
    rw [hm]
    constructor <;> simp only <;> omega
  rw [rawC_eq hl]
  refine carryN_is hl ?_
  rw [hm]
  exact mul_val hv hu e0 e1 e2 e3 e4

theorem Mul_ok : SoundM Try.prog 44 (pureModel (bin2 fmul)) := by
  refine bin2_ok _ (SoundM.of_ev envP_ok mix (n := 10) (fn := Try.f44) (by kernel_rfl) (by kernel_rfl) (by kernel_rfl)) ?_
  intro x v y u hx hy
  exact ⟨_, _, mul_mv x y, rfl, by rw [fmul_eq]; exact Mul_is hx hy⟩

end Go.Proofs.Ytiolcdjnmnhcgaa
