/- field.Inv, Load, least, Bytes by the abstract evaluator. No condition. -/
import Derived.Test.YtiolcdjnmnhcgaaFo
namespace Go.Proofs.Ytiolcdjnmnhcgaa
open Go.AE Fardel
set_option maxRecDepth 100000

theorem fpow_mul {a b c : Nat} (h : a * b = c) (v : F) : (v ^ a) ^ b = v ^ c := by
  apply Fin.ext
  rw [pow_val, pow_val, pow_val, ← Nat.pow_mod, ← Nat.pow_mul, h]
theorem fpow_add {a b c : Nat} (h : a + b = c) (v : F) : v ^ a * v ^ b = v ^ c := by
  apply Fin.ext
  rw [Fin.val_mul, pow_val, pow_val, pow_val, ← Nat.mul_mod, ← Nat.pow_add, h]
theorem fpow_one (v : F) : v = v ^ 1 := by
  apply Fin.ext
  rw [pow_val, Nat.pow_one, Nat.mod_eq_of_lt v.isLt]
theorem fsq (v : F) (k : Nat) : v ^ k * v ^ k = v ^ (k + k) := fpow_add rfl v

def bigE : Nat := 1809251394333065553493296640760748560207343510400633813116524750123642650623
theorem bigE_def : bigE = 2 ^ 250 - 1 := by decide

theorem chn_eq (v : F) : chn v = (v ^ bigE, v ^ 11) := by
  have e1 : v * v = v ^ 2 := by have := fpow_add (a := 1) (b := 1) rfl v; rwa [← fpow_one] at this
  have e2 : (v * v) ^ (2 ^ 2) * v = v ^ 9 := by
    rw [e1, fpow_mul (c := 8) (by decide)]
    have := fpow_add (a := 8) (b := 1) rfl v
    rwa [← fpow_one] at this
  have e3 : v ^ 9 * (v * v) = v ^ 11 := by rw [e1, fpow_add (c := 11) (by decide)]
  unfold chn
  simp only [-Nat.reducePow, fmul_eq, fpow_eq, e3, e2]
  have a5 : v ^ 11 * v ^ 11 * v ^ 9 = v ^ 31 := by rw [fpow_add (c := 22) (by decide), fpow_add (c := 31) (by decide)]
  simp only [-Nat.reducePow, a5]
  have b10 : (v ^ 31) ^ (2 ^ 5) * v ^ 31 = v ^ 1023 := by rw [fpow_mul (c := 992) (by decide), fpow_add (c := 1023) (by decide)]
  simp only [-Nat.reducePow, b10]
  have c20 : (v ^ 1023) ^ (2 ^ 10) * v ^ 1023 = v ^ (2 ^ 20 - 1) := by rw [fpow_mul (c := 1023 * 1024) (by decide), fpow_add (c := 2 ^ 20 - 1) (by decide)]
  rw [c20]
  have d40 : (v ^ (2 ^ 20 - 1)) ^ (2 ^ 20) * v ^ (2 ^ 20 - 1) = v ^ (2 ^ 40 - 1) := by rw [fpow_mul (c := (2 ^ 20 - 1) * 2 ^ 20) (by decide), fpow_add (c := 2 ^ 40 - 1) (by decide)]
  rw [d40]
  have e50 : (v ^ (2 ^ 40 - 1)) ^ (2 ^ 10) * v ^ 1023 = v ^ (2 ^ 50 - 1) := by rw [fpow_mul (c := (2 ^ 40 - 1) * 2 ^ 10) (by decide), fpow_add (c := 2 ^ 50 - 1) (by decide)]
  rw [e50]
  have f100 : (v ^ (2 ^ 50 - 1)) ^ (2 ^ 50) * v ^ (2 ^ 50 - 1) = v ^ (2 ^ 100 - 1) := by rw [fpow_mul (c := (2 ^ 50 - 1) * 2 ^ 50) (by decide), fpow_add (c := 2 ^ 100 - 1) (by decide)]
  rw [f100]
  have g200 : (v ^ (2 ^ 100 - 1)) ^ (2 ^ 100) * v ^ (2 ^ 100 - 1) = v ^ (2 ^ 200 - 1) := by rw [fpow_mul (c := (2 ^ 100 - 1) * 2 ^ 100) (by decide), fpow_add (c := 2 ^ 200 - 1) (by decide)]
  rw [g200]
  have h250 : (v ^ (2 ^ 200 - 1)) ^ (2 ^ 50) * v ^ (2 ^ 50 - 1) = v ^ bigE := by rw [fpow_mul (c := (2 ^ 200 - 1) * 2 ^ 50) (by decide), fpow_add (c := bigE) (by decide)]
  rw [h250]

noncomputable def chainOp : List F → Option T
  | [v] => some (.tup (.cons (feA (fpow v bigE)) (.cons (feA (fpow v 11)) .nil)))
  | _ => none

theorem chain_ok : SoundM Try.prog 72 (pureModel (fF chainOp)) := by
  refine fF_ok (SoundM.of_ev envS_ok mix (n := 10) (fn := Try.f72) (by kernel_rfl) (by kernel_rfl) (by kernel_rfl)) ?_
  intro vs t h
  unfold chainOp at h
  split at h
  · cases h
    exact ⟨rfl, _, chain_mv _, by rw [chn_eq, fpow_eq, fpow_eq]⟩
  · cases h

noncomputable def envI : Env := envS.set 72 (pureModel (fF chainOp))
theorem envI_ok : EnvOK Try.prog envI := envS_ok.set chain_ok

theorem inv_mv (v : F) : mv (evFn Try.prog envI 10 Try.f82) [feA v] = some (true, feA (fmul (fpow (fpow v bigE) (2 ^ 5)) (fpow v 11))) := by kernel_rfl

theorem Inv_ok : SoundM Try.prog 82 (pureModel (fF (op1 finv))) := by
  refine fF_ok (SoundM.of_ev envI_ok mix (n := 10) (fn := Try.f82) (by kernel_rfl) (by kernel_rfl) (by kernel_rfl)) ?_
  intro vs t h
  unfold op1 at h
  split at h
  · cases h
    refine ⟨rfl, _, inv_mv _, ?_⟩
    rw [finv_eq, fmul_eq, fpow_eq, fpow_eq, fpow_eq, fpow_mul (c := bigE * 32) (by decide), fpow_add (c := P - 2) (by decide)]
    rfl
  · cases h

/-! ### Load -/

theorem or_join (i : Nat) (x y : Int) (hx0 : 0 ≤ x) (hx1 : x < 2 ^ 64) (hx : x % 2 ^ i = 0) (hy0 : 0 ≤ y) (hy : y < 2 ^ i) (hy1 : y < 2 ^ 64) : bits .or .u64 y x = y + x := by
  have h := bits_join .u64 64 (by decide) wraps_u64 i x y hx0 hx hx1 hy0 hy hy1
  obtain ⟨a, rfl⟩ := Int.eq_ofNat_of_zero_le hx0
  obtain ⟨b, rfl⟩ := Int.eq_ofNat_of_zero_le hy0
  have ha : a < 2 ^ 64 := by exact_mod_cast hx1
  have hb : b < 2 ^ 64 := by exact_mod_cast hy1
  rw [(bits_nat .u64 64 (by decide) wraps_u64 b a hb ha).2]
  rw [(bits_nat .u64 64 (by decide) wraps_u64 a b ha hb).2, Nat.or_comm] at h
  rw [h]; omega

/-- Eight bytes as a number, the lowest first. -/
def num8 (c0 c1 c2 c3 c4 c5 c6 c7 : Int) : Int := c0 + c1 * 256 + c2 * 65536 + c3 * 16777216 + c4 * 4294967296 + c5 * 1099511627776 + c6 * 281474976710656 + c7 * 72057594037927936

theorem word_or (c0 c1 c2 c3 c4 c5 c6 c7 : Int)
    (a0 : 0 ≤ c0) (b0 : c0 < 256) (a1 : 0 ≤ c1) (b1 : c1 < 256) (a2 : 0 ≤ c2) (b2 : c2 < 256) (a3 : 0 ≤ c3) (b3 : c3 < 256) (a4 : 0 ≤ c4) (b4 : c4 < 256) (a5 : 0 ≤ c5) (b5 : c5 < 256) (a6 : 0 ≤ c6) (b6 : c6 < 256) (a7 : 0 ≤ c7) (b7 : c7 < 256) :
    bits .or .u64 (bits .or .u64 (bits .or .u64 (bits .or .u64 (bits .or .u64 (bits .or .u64 (bits .or .u64 (bits .or .u64 0 c0) (c1 * 256)) (c2 * 65536)) (c3 * 16777216)) (c4 * 4294967296)) (c5 * 1099511627776)) (c6 * 281474976710656)) (c7 * 72057594037927936) = num8 c0 c1 c2 c3 c4 c5 c6 c7 := by
  rw [or_join 0 c0 0 (by omega) (by omega) (by omega) (by omega) (by omega) (by omega)]
  rw [or_join 8 (c1 * 256) _ (by omega) (by omega) (by omega) (by omega) (by omega) (by omega)]
  rw [or_join 16 (c2 * 65536) _ (by omega) (by omega) (by omega) (by omega) (by omega) (by omega)]
  rw [or_join 24 (c3 * 16777216) _ (by omega) (by omega) (by omega) (by omega) (by omega) (by omega)]
  rw [or_join 32 (c4 * 4294967296) _ (by omega) (by omega) (by omega) (by omega) (by omega) (by omega)]
  rw [or_join 40 (c5 * 1099511627776) _ (by omega) (by omega) (by omega) (by omega) (by omega) (by omega)]
  rw [or_join 48 (c6 * 281474976710656) _ (by omega) (by omega) (by omega) (by omega) (by omega) (by omega)]
  rw [or_join 56 (c7 * 72057594037927936) _ (by omega) (by omega) (by omega) (by omega) (by omega) (by omega)]
  unfold num8
  omega

def num32 (c : Nat → Int) : Int :=
  num8 (c 0) (c 1) (c 2) (c 3) (c 4) (c 5) (c 6) (c 7) + 18446744073709551616 * num8 (c 8) (c 9) (c 10) (c 11) (c 12) (c 13) (c 14) (c 15) +
    340282366920938463463374607431768211456 * num8 (c 16) (c 17) (c 18) (c 19) (c 20) (c 21) (c 22) (c 23) + 6277101735386680763835789423207666416102355444464034512896 * num8 (c 24) (c 25) (c 26) (c 27) (c 28) (c 29) (c 30) (c 31)

theorem num8_bd {c0 c1 c2 c3 c4 c5 c6 c7 : Int} (a0 : 0 ≤ c0 ∧ c0 < 256) (a1 : 0 ≤ c1 ∧ c1 < 256) (a2 : 0 ≤ c2 ∧ c2 < 256) (a3 : 0 ≤ c3 ∧ c3 < 256) (a4 : 0 ≤ c4 ∧ c4 < 256) (a5 : 0 ≤ c5 ∧ c5 < 256) (a6 : 0 ≤ c6 ∧ c6 < 256) (a7 : 0 ≤ c7 ∧ c7 < 256) :
    0 ≤ num8 c0 c1 c2 c3 c4 c5 c6 c7 ∧ num8 c0 c1 c2 c3 c4 c5 c6 c7 < 18446744073709551616 := by
  unfold num8
  omega

/-- The limbs of four words. -/
def loadL (w0 w1 w2 w3 : Int) : Fe :=
  ⟨bits .and .u64 w0 2251799813685247, bits .and .u64 (bits .or .u64 (w0 / 2251799813685248) (IntKind.u64.wrap (w1 * 8192))) 2251799813685247,
   bits .and .u64 (bits .or .u64 (w1 / 274877906944) (IntKind.u64.wrap (w2 * 67108864))) 2251799813685247,
   bits .and .u64 (bits .or .u64 (w2 / 33554432) (IntKind.u64.wrap (w3 * 549755813888))) 2251799813685247, w3 / 4096⟩

theorem loadL_is {w0 w1 w2 w3 : Int} (a0 : 0 ≤ w0) (b0 : w0 < 18446744073709551616) (a1 : 0 ≤ w1) (b1 : w1 < 18446744073709551616) (a2 : 0 ≤ w2) (b2 : w2 < 18446744073709551616) (a3 : 0 ≤ w3) (b3 : w3 < 18446744073709551616) :
    (loadL w0 w1 w2 w3).lt 9223372036854775808 ∧ (loadL w0 w1 w2 w3).sum = w0 + 18446744073709551616 * w1 + 340282366920938463463374607431768211456 * w2 + 6277101735386680763835789423207666416102355444464034512896 * w3 := by
  have e0 : bits .and .u64 w0 2251799813685247 = w0 % 2251799813685248 := and51 _ a0 b0
  have e1 : bits .and .u64 (bits .or .u64 (w0 / 2251799813685248) (IntKind.u64.wrap (w1 * 8192))) 2251799813685247 = w0 / 2251799813685248 + (w1 % 274877906944) * 8192 := by
    rw [IntKind.wrap_u64, or_join 13 _ _ (by omega) (by omega) (by omega) (by omega) (by omega) (by omega), and51 _ (by omega) (by omega)]
    omega
  have e2 : bits .and .u64 (bits .or .u64 (w1 / 274877906944) (IntKind.u64.wrap (w2 * 67108864))) 2251799813685247 = w1 / 274877906944 + (w2 % 33554432) * 67108864 := by
    rw [IntKind.wrap_u64, or_join 26 _ _ (by omega) (by omega) (by omega) (by omega) (by omega) (by omega), and51 _ (by omega) (by omega)]
    omega
  have e3 : bits .and .u64 (bits .or .u64 (w2 / 33554432) (IntKind.u64.wrap (w3 * 549755813888))) 2251799813685247 = w2 / 33554432 + (w3 % 4096) * 549755813888 := by
    rw [IntKind.wrap_u64, or_join 39 _ _ (by omega) (by omega) (by omega) (by omega) (by omega) (by omega), and51 _ (by omega) (by omega)]
    omega
  unfold loadL
  rw [e0, e1, e2, e3]
  refine ⟨?_, ?_⟩
  · constructor <;> simp only <;> omega
  · unfold Fe.sum
    simp only
    omega


def wordR (f : Nat → Int) (o : Nat) : Int := (List.range 8).foldl (fun n i => bits .or .u64 n (shlI .u64 (IntKind.u64.wrap (f (o + i))) (8 * (i : Int)))) 0
def loadR (f : Nat → Int) : Fe :=
  ⟨bits .and .u64 (wordR f 0) 2251799813685247, bits .and .u64 (bits .or .u64 (shrI .u64 (wordR f 0) 51) (shlI .u64 (wordR f 8) 13)) 2251799813685247,
   bits .and .u64 (bits .or .u64 (shrI .u64 (wordR f 8) 38) (shlI .u64 (wordR f 16) 26)) 2251799813685247,
   bits .and .u64 (bits .or .u64 (shrI .u64 (wordR f 16) 25) (shlI .u64 (wordR f 24) 39)) 2251799813685247, shrI .u64 (wordR f 24) 12⟩

noncomputable def envW : Env := (env0.set 65 (pureModel carriedR)).set 64 (evFn Try.prog env0 10 Try.f64)
theorem envW_ok : EnvOK Try.prog envW := ((env0_ok _).set carriedR_ok).set (SoundM.of_ev (env0_ok _) mix (by kernel_rfl) (by kernel_rfl) (by kernel_rfl))

theorem load_mv (f : Nat → Int) : mv (evFn Try.prog envW 10 Try.f29) [.ints .u8 32 f] = some (true, feT (rawC (loadR f))) := by kernel_rfl

theorem shlI_small (x : Int) (n : Nat) (hn : n ≤ 64) : shlI .u64 x n = IntKind.u64.wrap (x * 2 ^ n) := by
  unfold shlI
  have : min ((n : Int)).toNat IntKind.u64.bits = n := by simp [IntKind.bits]; omega
  rw [this]

theorem wordR_eq {f : Nat → Int} (h : ∀ i, 0 ≤ f i ∧ f i < 256) (o : Nat) : wordR f o = num8 (f (o + 0)) (f (o + 1)) (f (o + 2)) (f (o + 3)) (f (o + 4)) (f (o + 5)) (f (o + 6)) (f (o + 7)) := by
  have hs : ∀ (i k : Nat) (m : Int), i ≤ 7 → (2 : Int) ^ (8 * i) = m → 0 < m → m ≤ 72057594037927936 → shlI .u64 (IntKind.u64.wrap (f (o + i))) (8 * (i : Int)) = f (o + i) * m := by
    intro i k m hi hm h0 h1
    have := h (o + i)
    have e : (8 * (i : Int)) = ((8 * i : Nat) : Int) := by omega
    rw [e, shlI_small _ _ (by omega), hm]
    simp only [IntKind.wrap_u64]
    have h2 : f (o + i) * m < 256 * 72057594037927936 := by
      have : f (o + i) * m ≤ 255 * 72057594037927936 := Int.mul_le_mul (by omega) h1 (by omega) (by decide)
      omega
    have h3 : 0 ≤ f (o + i) * m := Int.mul_nonneg this.1 (by omega)
    rw [Int.emod_eq_of_lt (a := f (o + i)) (by omega) (by omega), Int.emod_eq_of_lt h3 (by omega)]
  have e : wordR f o = bits .or .u64 (bits .or .u64 (bits .or .u64 (bits .or .u64 (bits .or .u64 (bits .or .u64 (bits .or .u64 (bits .or .u64 0 (f (o + 0))) (f (o + 1) * 256)) (f (o + 2) * 65536)) (f (o + 3) * 16777216)) (f (o + 4) * 4294967296)) (f (o + 5) * 1099511627776)) (f (o + 6) * 281474976710656)) (f (o + 7) * 72057594037927936) := by
    unfold wordR
    simp only [List.range, List.range.loop, List.foldl]
    have g0 := hs 0 0 1 (by decide) (by decide) (by decide) (by decide)
    have g1 := hs 1 0 256 (by decide) (by decide) (by decide) (by decide)
    have g2 := hs 2 0 65536 (by decide) (by decide) (by decide) (by decide)
    have g3 := hs 3 0 16777216 (by decide) (by decide) (by decide) (by decide)
    have g4 := hs 4 0 4294967296 (by decide) (by decide) (by decide) (by decide)
    have g5 := hs 5 0 1099511627776 (by decide) (by decide) (by decide) (by decide)
    have g6 := hs 6 0 281474976710656 (by decide) (by decide) (by decide) (by decide)
    have g7 := hs 7 0 72057594037927936 (by decide) (by decide) (by decide) (by decide)
    rw [Int.mul_one] at g0
    rw [g0, g1, g2, g3, g4, g5, g6, g7]
  rw [e]
  exact word_or _ _ _ _ _ _ _ _ (h _).1 (h _).2 (h _).1 (h _).2 (h _).1 (h _).2 (h _).1 (h _).2 (h _).1 (h _).2 (h _).1 (h _).2 (h _).1 (h _).2 (h _).1 (h _).2

def bytesB (n : Nat) (f : Nat → Int) : Bool := (List.range n).all fun i => decide (0 ≤ f i ∧ f i < 256)
theorem bytesB_spec {n : Nat} {f : Nat → Int} (h : bytesB n f = true) : ∀ i, i < n → 0 ≤ f i ∧ f i < 256 := by
  intro i hi
  have := List.all_eq_true.1 h i (by simpa using hi)
  simpa using this

theorem loadR_is {f : Nat → Int} (h : ∀ i, 0 ≤ f i ∧ f i < 256) : (loadR f).lt 9223372036854775808 ∧ (loadR f).sum = num32 f := by
  have e0 := wordR_eq h 0
  have e1 := wordR_eq h 8
  have e2 := wordR_eq h 16
  have e3 := wordR_eq h 24
  simp only [Nat.zero_add, Nat.reduceAdd] at e0 e1 e2 e3
  have b0 := num8_bd (h 0) (h 1) (h 2) (h 3) (h 4) (h 5) (h 6) (h 7)
  have b1 := num8_bd (h 8) (h 9) (h 10) (h 11) (h 12) (h 13) (h 14) (h 15)
  have b2 := num8_bd (h 16) (h 17) (h 18) (h 19) (h 20) (h 21) (h 22) (h 23)
  have b3 := num8_bd (h 24) (h 25) (h 26) (h 27) (h 28) (h 29) (h 30) (h 31)
  rw [← e0] at b0
  rw [← e1] at b1
  rw [← e2] at b2
  rw [← e3] at b3
  have hL : loadR f = loadL (wordR f 0) (wordR f 8) (wordR f 16) (wordR f 24) := by
    unfold loadR loadL
    have s1 : shrI .u64 (wordR f 0) 51 = wordR f 0 / 2251799813685248 := shrI_u64 _ 51 (by decide)
    have s2 : shrI .u64 (wordR f 8) 38 = wordR f 8 / 274877906944 := shrI_u64 _ 38 (by decide)
    have s3 : shrI .u64 (wordR f 16) 25 = wordR f 16 / 33554432 := shrI_u64 _ 25 (by decide)
    have s4 : shrI .u64 (wordR f 24) 12 = wordR f 24 / 4096 := shrI_u64 _ 12 (by decide)
    have t1 : shlI .u64 (wordR f 8) 13 = IntKind.u64.wrap (wordR f 8 * 8192) := shlI_small _ 13 (by decide)
    have t2 : shlI .u64 (wordR f 16) 26 = IntKind.u64.wrap (wordR f 16 * 67108864) := shlI_small _ 26 (by decide)
    have t3 : shlI .u64 (wordR f 24) 39 = IntKind.u64.wrap (wordR f 24 * 549755813888) := shlI_small _ 39 (by decide)
    rw [s1, s2, s3, s4, t1, t2, t3]
  rw [hL]
  have := loadL_is b0.1 b0.2 b1.1 b1.2 b2.1 b2.2 b3.1 b3.2
  refine ⟨this.1, ?_⟩
  rw [this.2, e0, e1, e2, e3]
  rfl

/-- The bytes of an array that is told, none behind it. -/
def clip (n : Nat) (f : Nat → Int) : Nat → Int := fun i => if i < n then f i else 0

theorem ints_congr {k : IntKind} {n : Nat} {f g : Nat → Int} {ρ ρ' : Rho} {x : Value} (h : ∀ i, i < n → f i = g i) (hx : (R ρ (.ints k n f)).v x) : (R ρ' (.ints k n g)).v x := by
  obtain ⟨cs, rfl, h1, h2⟩ := hx
  exact ⟨cs, rfl, h1, fun i hi => by rw [h2 i hi, h i hi]⟩

theorem num32_clip (f : Nat → Int) : num32 (clip 32 f) = num32 f := by simp [num32, clip]

def LoadM : PModel
  | [.ints .u8 32 f] => some (bytesB 32 f, feA (toF (num32 f)))
  | _ => none

theorem Load_ok : SoundM Try.prog 29 (pureModel LoadM) := by
  refine (SoundM.of_ev envW_ok mix (n := 10) (fn := Try.f29) (by kernel_rfl) (by kernel_rfl) (by kernel_rfl)).refine ?_
  intro args vc v hm hvc ρ xs hargs
  unfold LoadM at hm
  split at hm
  · rename_i f
    cases hm
    obtain ⟨x, _, rfl, hx, rfl⟩ := hargs
    have hb := bytesB_spec hvc
    obtain ⟨r, h3, h4, h5⟩ := mv_some (load_mv (clip 32 f))
    refine ⟨[.ints .u8 32 (clip 32 f)], ⟨x, _, rfl, ints_congr (fun i hi => by simp [clip, hi]) hx, rfl⟩, r, h3, h4, fun ρ' w hw => ?_⟩
    rw [h5] at hw
    have hl := loadR_is (f := clip 32 f) (fun i => by
      unfold clip
      split
      · exact hb i (by assumption)
      · exact ⟨by decide, by decide⟩)
    refine fe_abs ?_ hw
    rw [rawC_eq hl.1]
    exact carryN_is hl.1 (by rw [hl.2, num32_clip])
  · cases hm

/-! ### least -/

theorem carryN_lt' {x : Fe} (h : x.lt 4503599627370496) : (carryN x).lt 2251799813685267 := by
  obtain ⟨a0, b0, a1, b1, a2, b2, a3, b3, a4, b4⟩ := h
  unfold carryN
  constructor <;> simp only <;> omega

def quoL (z : Fe) : Int := (z.l4 + (z.l3 + (z.l2 + (z.l1 + (z.l0 + 19) / 2251799813685248) / 2251799813685248) / 2251799813685248) / 2251799813685248) / 2251799813685248
def leastL (z : Fe) : Fe :=
  ⟨bits .and .u64 (z.l0 + 19 * quoL z) 2251799813685247,
   bits .and .u64 (z.l1 + (z.l0 + 19 * quoL z) / 2251799813685248) 2251799813685247,
   bits .and .u64 (z.l2 + (z.l1 + (z.l0 + 19 * quoL z) / 2251799813685248) / 2251799813685248) 2251799813685247,
   bits .and .u64 (z.l3 + (z.l2 + (z.l1 + (z.l0 + 19 * quoL z) / 2251799813685248) / 2251799813685248) / 2251799813685248) 2251799813685247,
   bits .and .u64 (z.l4 + (z.l3 + (z.l2 + (z.l1 + (z.l0 + 19 * quoL z) / 2251799813685248) / 2251799813685248) / 2251799813685248) / 2251799813685248) 2251799813685247⟩

theorem div_bd (a : Int) : 2251799813685248 * (a / 2251799813685248) ≤ a ∧ a < 2251799813685248 * (a / 2251799813685248) + 2251799813685248 := by omega

theorem leastL_is {z : Fe} {v : F} (hz : z.lt 2251799813685267) (hv : toF z.sum = v) : (leastL z).lt 2251799813685248 ∧ (leastL z).sum = (v.val : Int) := by
  obtain ⟨z0, z1, z2, z3, z4⟩ := z
  obtain ⟨a0, b0, a1, b1, a2, b2, a3, b3, a4, b4⟩ := hz
  simp only at a0 b0 a1 b1 a2 b2 a3 b3 a4 b4
  unfold leastL
  simp only
  have hq : 0 ≤ quoL ⟨z0, z1, z2, z3, z4⟩ ∧ quoL ⟨z0, z1, z2, z3, z4⟩ ≤ 1 ∧
      57896044618658097711785492504343953926634992332820282019728792003956564819968 * quoL ⟨z0, z1, z2, z3, z4⟩ ≤ Fe.sum ⟨z0, z1, z2, z3, z4⟩ + 19 ∧
      Fe.sum ⟨z0, z1, z2, z3, z4⟩ + 19 < 57896044618658097711785492504343953926634992332820282019728792003956564819968 * quoL ⟨z0, z1, z2, z3, z4⟩ + 57896044618658097711785492504343953926634992332820282019728792003956564819968 := by
    unfold quoL Fe.sum
    simp only
    have d0 := div_bd (z0 + 19)
    generalize (z0 + 19) / 2251799813685248 = q0 at *
    have d1 := div_bd (z1 + q0)
    generalize (z1 + q0) / 2251799813685248 = q1 at *
    have d2 := div_bd (z2 + q1)
    generalize (z2 + q1) / 2251799813685248 = q2 at *
    have d3 := div_bd (z3 + q2)
    generalize (z3 + q2) / 2251799813685248 = q3 at *
    have d4 := div_bd (z4 + q3)
    generalize (z4 + q3) / 2251799813685248 = q4 at *
    omega
  generalize quoL ⟨z0, z1, z2, z3, z4⟩ = q at *
  have hs : Fe.sum ⟨z0, z1, z2, z3, z4⟩ = z0 + 2251799813685248 * z1 + 5070602400912917605986812821504 * z2 + 11417981541647679048466287755595961091061972992 * z3 + 25711008708143844408671393477458601640355247900524685364822016 * z4 := rfl
  have hval : (v.val : Int) = Fe.sum ⟨z0, z1, z2, z3, z4⟩ - (P : Int) * q := by
    rw [← hv]
    rw [toF_val, ← Int.emod_eq_of_lt (a := Fe.sum ⟨z0, z1, z2, z3, z4⟩ - (P : Int) * q) (b := (P : Int)) (by rw [P_int]; omega) (by rw [P_int]; omega)]
    rw [Int.sub_eq_add_neg, ← Int.mul_neg, Int.add_mul_emod_self_left]
  rw [hval, hs, P_int]
  rw [hs] at hq
  clear hs hval hv
  have d0 := div_bd (z0 + 19 * q)
  rw [and51 (z0 + 19 * q) (by omega) (by omega)]
  have e0 : (z0 + 19 * q) % 2251799813685248 = z0 + 19 * q - 2251799813685248 * ((z0 + 19 * q) / 2251799813685248) := by omega
  rw [e0]
  clear e0
  generalize (z0 + 19 * q) / 2251799813685248 = c0 at *
  have d1 := div_bd (z1 + c0)
  rw [and51 (z1 + c0) (by omega) (by omega)]
  have e1 : (z1 + c0) % 2251799813685248 = z1 + c0 - 2251799813685248 * ((z1 + c0) / 2251799813685248) := by omega
  rw [e1]
  clear e1
  generalize (z1 + c0) / 2251799813685248 = c1 at *
  have d2 := div_bd (z2 + c1)
  rw [and51 (z2 + c1) (by omega) (by omega)]
  have e2 : (z2 + c1) % 2251799813685248 = z2 + c1 - 2251799813685248 * ((z2 + c1) / 2251799813685248) := by omega
  rw [e2]
  clear e2
  generalize (z2 + c1) / 2251799813685248 = c2 at *
  have d3 := div_bd (z3 + c2)
  rw [and51 (z3 + c2) (by omega) (by omega)]
  have e3 : (z3 + c2) % 2251799813685248 = z3 + c2 - 2251799813685248 * ((z3 + c2) / 2251799813685248) := by omega
  rw [e3]
  clear e3
  generalize (z3 + c2) / 2251799813685248 = c3 at *
  have d4 := div_bd (z4 + c3)
  rw [and51 (z4 + c3) (by omega) (by omega)]
  have e4 : (z4 + c3) % 2251799813685248 = z4 + c3 - 2251799813685248 * ((z4 + c3) / 2251799813685248) := by omega
  rw [e4]
  clear e4
  generalize (z4 + c3) / 2251799813685248 = c4 at *
  have hc : c4 = q := by
    have : q = 0 ∨ q = 1 := by omega
    rcases this with rfl | rfl <;> omega
  subst hc
  refine ⟨?_, ?_⟩
  · constructor <;> simp only <;> omega
  · unfold Fe.sum
    simp only
    omega


theorem least_pr : True := trivial
end Go.Proofs.Ytiolcdjnmnhcgaa
