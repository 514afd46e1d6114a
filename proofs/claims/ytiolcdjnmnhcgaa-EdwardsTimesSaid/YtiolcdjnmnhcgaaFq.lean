/- field.least, Bytes, Odd, Same, Pick by the abstract evaluator. No condition. -/
import Derived.Test.YtiolcdjnmnhcgaaFp
namespace Go.Proofs.Ytiolcdjnmnhcgaa
open Go.AE Fardel
set_option maxRecDepth 100000

def leastZ (z : Fe) : Fe :=
  let q0 := shrI .u64 (IntKind.u64.wrap (z.l0 + 19)) 51
  let q1 := shrI .u64 (IntKind.u64.wrap (z.l1 + q0)) 51
  let q2 := shrI .u64 (IntKind.u64.wrap (z.l2 + q1)) 51
  let q3 := shrI .u64 (IntKind.u64.wrap (z.l3 + q2)) 51
  let q := shrI .u64 (IntKind.u64.wrap (z.l4 + q3)) 51
  let m0 := IntKind.u64.wrap (z.l0 + IntKind.u64.wrap (19 * q))
  let m1 := IntKind.u64.wrap (z.l1 + shrI .u64 m0 51)
  let m2 := IntKind.u64.wrap (z.l2 + shrI .u64 m1 51)
  let m3 := IntKind.u64.wrap (z.l3 + shrI .u64 m2 51)
  let m4 := IntKind.u64.wrap (z.l4 + shrI .u64 m3 51)
  ⟨bits .and .u64 m0 2251799813685247, bits .and .u64 m1 2251799813685247, bits .and .u64 m2 2251799813685247, bits .and .u64 m3 2251799813685247, bits .and .u64 m4 2251799813685247⟩
def leastR (x : Fe) : Fe := leastZ (rawC (rawC x))

noncomputable def envC' : Env := env0.set 65 (pureModel carriedR)
theorem envC'_ok : EnvOK Try.prog envC' := (env0_ok _).set carriedR_ok

theorem least_mv (x : Fe) : mv (evFn Try.prog envC' 10 Try.f59) [feT x] = some (true, l5T (leastR x)) := by kernel_rfl

theorem leastZ_eq {z : Fe} (h : z.lt 2251799813685267) : leastZ z = leastL z := by
  obtain ⟨z0, z1, z2, z3, z4⟩ := z
  obtain ⟨a0, b0, a1, b1, a2, b2, a3, b3, a4, b4⟩ := h
  simp only at a0 b0 a1 b1 a2 b2 a3 b3 a4 b4
  have w : ∀ n : Int, 0 ≤ n → n < 18446744073709551616 → IntKind.u64.wrap n = n := fun n h0 h1 => by rw [IntKind.wrap_u64]; omega
  unfold leastZ leastL quoL
  simp only [shr51]
  rw [w (z0 + 19) (by omega) (by omega)]
  have d0 := div_bd (z0 + 19)
  generalize (z0 + 19) / 2251799813685248 = q0 at *
  rw [w (z1 + q0) (by omega) (by omega)]
  have d1 := div_bd (z1 + q0)
  generalize (z1 + q0) / 2251799813685248 = q1 at *
  rw [w (z2 + q1) (by omega) (by omega)]
  have d2 := div_bd (z2 + q1)
  generalize (z2 + q1) / 2251799813685248 = q2 at *
  rw [w (z3 + q2) (by omega) (by omega)]
  have d3 := div_bd (z3 + q2)
  generalize (z3 + q2) / 2251799813685248 = q3 at *
  rw [w (z4 + q3) (by omega) (by omega)]
  have d4 := div_bd (z4 + q3)
  generalize (z4 + q3) / 2251799813685248 = q at *
  rw [w (19 * q) (by omega) (by omega), w (z0 + 19 * q) (by omega) (by omega)]
  have f0 := div_bd (z0 + 19 * q)
  generalize (z0 + 19 * q) / 2251799813685248 = c0 at *
  rw [w (z1 + c0) (by omega) (by omega)]
  have f1 := div_bd (z1 + c0)
  generalize (z1 + c0) / 2251799813685248 = c1 at *
  rw [w (z2 + c1) (by omega) (by omega)]
  have f2 := div_bd (z2 + c1)
  generalize (z2 + c1) / 2251799813685248 = c2 at *
  rw [w (z3 + c2) (by omega) (by omega)]
  have f3 := div_bd (z3 + c2)
  generalize (z3 + c2) / 2251799813685248 = c3 at *
  rw [w (z4 + c3) (by omega) (by omega)]

theorem leastR_is {x : Fe} {v : F} (h : x.is v) : (leastR x).lt 2251799813685248 ∧ (leastR x).sum = (v.val : Int) := by
  obtain ⟨hl, hv⟩ := h
  have h1 : rawC x = carryN x := rawC_eq (hl.mono (by decide))
  have l1 := carryN_lt' hl
  have h2 : rawC (rawC x) = carryN (carryN x) := by rw [h1]; exact rawC_eq (l1.mono (by decide))
  have l2 := carryN_lt' (l1.mono (by decide))
  have hz : toF (carryN (carryN x)).sum = v := by rw [toF_eq _ (carryN_sum _), toF_eq _ (carryN_sum _)]; exact hv
  unfold leastR
  rw [h2, leastZ_eq l2]
  exact leastL_is l2 hz

/-! ### Bytes -/

def w0R (m : Fe) : Int := bits .or .u64 m.l0 (shlI .u64 m.l1 51)
def w1R (m : Fe) : Int := bits .or .u64 (shrI .u64 m.l1 13) (shlI .u64 m.l2 38)
def w2R (m : Fe) : Int := bits .or .u64 (shrI .u64 m.l2 26) (shlI .u64 m.l3 25)
def w3R (m : Fe) : Int := bits .or .u64 (shrI .u64 m.l3 39) (shlI .u64 m.l4 12)
def wR (m : Fe) : Nat → Int
  | 0 => w0R m
  | 1 => w1R m
  | 2 => w2R m
  | _ => w3R m
def byteR (m : Fe) (i : Nat) : Int := IntKind.u8.wrap (shrI .u64 (wR m (i / 8)) (8 * ((i % 8 : Nat) : Int)))

def updN : Nat → (Nat → Int) → Nat → Int
  | 0, _ => fun _ => 0
  | n + 1, f => fun j => bif Nat.beq j n then f n else updN n f j

theorem updN_eq {f : Nat → Int} : ∀ {n i : Nat}, i < n → updN n f i = f i
  | n + 1, i, h => by
    simp only [updN]
    cases hb : Nat.beq i n with
    | true => rw [Nat.eq_of_beq_eq_true hb]; rfl
    | false =>
      have : i ≠ n := fun e => by rw [e, Nat.beq_refl] at hb; cases hb
      exact updN_eq (by omega)

def leastM : PModel
  | [t] => match t with
    | .cons t' .nil => match asL5 t' with
      | some x => some (true, l5T (leastR x))
      | none => none
    | _ => none
  | _ => none

theorem least_ok : SoundM Try.prog 59 (pureModel leastM) := by
  refine (SoundM.of_ev envC'_ok mix (n := 10) (fn := Try.f59) (by kernel_rfl) (by kernel_rfl) (by kernel_rfl)).pure ?_
  intro args vc v h hvc
  unfold leastM at h
  split at h
  · split at h
    · split at h
      · rename_i x hx
        cases asL5_eq hx
        cases h
        obtain ⟨r, h1, h2, h3⟩ := mv_some (least_mv x)
        exact ⟨rfl, rfl, r, h1, h2, h3⟩
      · cases h
    · cases h
  · cases h

noncomputable def envL : Env := env0.set 59 (pureModel leastM)
theorem envL_ok : EnvOK Try.prog envL := (env0_ok _).set least_ok

theorem bytes_mv (x : Fe) : mv (evFn Try.prog envL 40 Try.f17) [feT x] = some (true, .ints .u8 32 (updN 32 (byteR (leastR x)))) := by kernel_rfl

def bytesF (v : F) (i : Nat) : Int := ((v.val / 256 ^ i % 256 : Nat) : Int)

theorem words_of {m : Fe} {N : Nat} (h : m.lt 2251799813685248) (hs : m.sum = (N : Int)) :
    w0R m = ((N % 18446744073709551616 : Nat) : Int) ∧ w1R m = ((N / 18446744073709551616 % 18446744073709551616 : Nat) : Int) ∧
    w2R m = ((N / 340282366920938463463374607431768211456 % 18446744073709551616 : Nat) : Int) ∧ w3R m = ((N / 6277101735386680763835789423207666416102355444464034512896 % 18446744073709551616 : Nat) : Int) := by
  obtain ⟨m0, m1, m2, m3, m4⟩ := m
  obtain ⟨a0, b0, a1, b1, a2, b2, a3, b3, a4, b4⟩ := h
  simp only at a0 b0 a1 b1 a2 b2 a3 b3 a4 b4
  unfold Fe.sum at hs
  simp only at hs
  have t1 : shlI .u64 m1 51 = IntKind.u64.wrap (m1 * 2251799813685248) := shlI_small _ 51 (by decide)
  have t2 : shlI .u64 m2 38 = IntKind.u64.wrap (m2 * 274877906944) := shlI_small _ 38 (by decide)
  have t3 : shlI .u64 m3 25 = IntKind.u64.wrap (m3 * 33554432) := shlI_small _ 25 (by decide)
  have t4 : shlI .u64 m4 12 = IntKind.u64.wrap (m4 * 4096) := shlI_small _ 12 (by decide)
  have s1 : shrI .u64 m1 13 = m1 / 8192 := shrI_u64 _ 13 (by decide)
  have s2 : shrI .u64 m2 26 = m2 / 67108864 := shrI_u64 _ 26 (by decide)
  have s3 : shrI .u64 m3 39 = m3 / 549755813888 := shrI_u64 _ 39 (by decide)
  unfold w0R w1R w2R w3R
  simp only [t1, t2, t3, t4, s1, s2, s3, IntKind.wrap_u64]
  rw [or_join 51 (m1 * 2251799813685248 % 18446744073709551616) m0 (by omega) (by omega) (by omega) (by omega) (by omega) (by omega)]
  rw [or_join 38 (m2 * 274877906944 % 18446744073709551616) (m1 / 8192) (by omega) (by omega) (by omega) (by omega) (by omega) (by omega)]
  rw [or_join 25 (m3 * 33554432 % 18446744073709551616) (m2 / 67108864) (by omega) (by omega) (by omega) (by omega) (by omega) (by omega)]
  rw [or_join 12 (m4 * 4096 % 18446744073709551616) (m3 / 549755813888) (by omega) (by omega) (by omega) (by omega) (by omega) (by omega)]
  refine ⟨by omega, by omega, by omega, by omega⟩

theorem word_byte (N k j : Nat) (hj : j < 8) : (N / 18446744073709551616 ^ k % 18446744073709551616 / 256 ^ j) % 256 = N / 256 ^ (8 * k + j) % 256 := by
  have e : (18446744073709551616 : Nat) = 256 ^ j * 256 ^ (8 - j) := by rw [← Nat.pow_add]; rw [show j + (8 - j) = 8 by omega]
  have e2 : (256 : Nat) ∣ 256 ^ (8 - j) := ⟨256 ^ (7 - j), by rw [← Nat.pow_succ', show (7 - j).succ = 8 - j by omega]⟩
  have h1 : N / 18446744073709551616 ^ k % 18446744073709551616 / 256 ^ j = N / 18446744073709551616 ^ k / 256 ^ j % 256 ^ (8 - j) := by
    conv => lhs; rw [e]
    rw [← e, show (18446744073709551616 : Nat) = 256 ^ j * 256 ^ (8 - j) from e, Nat.mod_mul_right_div_self, ← e]
  rw [h1, Nat.mod_mod_of_dvd _ e2, Nat.div_div_eq_div_mul]
  congr 2
  rw [show (18446744073709551616 : Nat) = 256 ^ 8 from by decide, ← Nat.pow_mul, ← Nat.pow_add]

theorem byteR_eq {m : Fe} {N : Nat} (h : m.lt 2251799813685248) (hs : m.sum = (N : Int)) (i : Nat) (hi : i < 32) : byteR m i = ((N / 256 ^ i % 256 : Nat) : Int) := by
  obtain ⟨e0, e1, e2, e3⟩ := words_of h hs
  have hw : wR m (i / 8) = ((N / 18446744073709551616 ^ (i / 8) % 18446744073709551616 : Nat) : Int) := by
    have hk : i / 8 < 4 := by omega
    generalize i / 8 = k at *
    match k, hk with
    | 0, _ => simpa [wR] using e0
    | 1, _ => simpa [wR] using e1
    | 2, _ => simpa [wR] using e2
    | 3, _ => simpa [wR] using e3
  unfold byteR
  rw [hw, show (8 * ((i % 8 : Nat) : Int)) = ((8 * (i % 8) : Nat) : Int) by omega, shrI_u64 _ _ (by omega)]
  have hb := word_byte N (i / 8) (i % 8) (by omega)
  rw [show 8 * (i / 8) + i % 8 = i by omega] at hb
  rw [← hb]
  have e5 : (2 : Int) ^ (8 * (i % 8)) = ((256 ^ (i % 8) : Nat) : Int) := by rw [Int.natCast_pow, Int.pow_mul]; rfl
  rw [e5, ← Int.natCast_ediv]
  have : ∀ n : Nat, IntKind.u8.wrap (n : Int) = ((n % 256 : Nat) : Int) := fun n => by simp [IntKind.wrap, IntKind.bits, IntKind.signed]
  rw [this]

def bytesOp : List F → Option T
  | [v] => some (.ints .u8 32 (bytesF v))
  | _ => none

theorem fe_of {v : F} {ρ ρ' : Rho} {x : Value} (h : (R ρ (feA v)).v x) : ∃ y : Fe, y.is v ∧ (R ρ' (feT y)).v x := asFe_v (t := feA v) rfl rfl h

theorem Bytes_ok : SoundM Try.prog 17 (pureModel (fF bytesOp)) := by
  refine (SoundM.of_ev envL_ok mix (n := 40) (fn := Try.f17) (by kernel_rfl) (by kernel_rfl) (by kernel_rfl)).refine ?_
  intro args vc v hm hvc ρ xs hargs
  unfold fF at hm
  split at hm
  · rename_i c vs hc
    split at hm
    · rename_i t ht
      cases hm
      unfold bytesOp at ht
      split at ht
      · rename_i u
        cases ht
        obtain ⟨x, _, rfl, hx, rfl⟩ := feArgs_VLs (ρ' := fun _ => none) hc hvc hargs
        obtain ⟨y, hy, hr⟩ := fe_of (ρ' := fun _ => none) hx
        obtain ⟨r, h3, h4, h5⟩ := mv_some (bytes_mv y)
        refine ⟨[feT y], ⟨x, _, rfl, hr, rfl⟩, r, h3, h4, fun ρ' w hw => ?_⟩
        rw [h5] at hw
        obtain ⟨h6, h7⟩ := leastR_is hy
        exact ints_congr (fun i hi => by rw [updN_eq hi, byteR_eq h6 h7 i hi]; rfl) hw
      · cases ht
    · cases hm
  · cases hm

noncomputable def envB : Env := envI.set 17 (pureModel (fF bytesOp))
theorem envB_ok : EnvOK Try.prog envB := envI_ok.set Bytes_ok

theorem odd_mv (v : F) : mv (evFn Try.prog envB 10 Try.f58) [feA v] = some (true, .bool (bits .and .u8 (bytesF v 0) 1 == 1)) := by kernel_rfl
theorem same_mv (v u : F) : mv (evFn Try.prog envB 10 Try.f35) [feA v, feA u] = some (true, .bool (eqN 32 (bytesF v) (bytesF u))) := by kernel_rfl

noncomputable def oddF (v : F) : Bool := hid (fun (v : F) => decide (v.val % 2 = 1)) v
theorem oddF_eq (v : F) : oddF v = decide (v.val % 2 = 1) := by unfold oddF; rw [hid_eq]
noncomputable def oddOp : List F → Option T
  | [v] => some (.bool (oddF v))
  | _ => none

theorem and1_u8 (a : Nat) (h : a < 256) : bits .and .u8 (a : Int) 1 = ((a % 2 : Nat) : Int) := by
  have h := bits_mask .u8 8 (by decide) (fun n h0 h1 => by simp [IntKind.wrap, IntKind.bits, IntKind.signed]; omega) 1 (by decide) (a : Int) (by omega) (by omega)
  rw [show ((2 : Int) ^ 1 - 1) = 1 by decide] at h
  rw [h]
  omega

theorem Odd_ok : SoundM Try.prog 58 (pureModel (fF oddOp)) := by
  refine fF_ok (SoundM.of_ev envB_ok mix (n := 10) (fn := Try.f58) (by kernel_rfl) (by kernel_rfl) (by kernel_rfl)) ?_
  intro vs t h
  unfold oddOp at h
  split at h
  · rename_i v
    cases h
    refine ⟨rfl, _, odd_mv _, ?_⟩
    congr 1
    rw [oddF_eq]
    unfold bytesF
    rw [and1_u8 _ (by omega)]
    simp only [Nat.pow_zero, Nat.div_one]
    rw [Bool.eq_iff_iff, decide_eq_true_eq, beq_iff_eq]
    omega
  · cases h

theorem bytes_inj {v u : F} (h : ∀ i, i < 32 → bytesF v i = bytesF u i) : v = u := by
  have key : ∀ n, n ≤ 32 → v.val % 256 ^ n = u.val % 256 ^ n := by
    intro n
    induction n with
    | zero => intro _; simp [Nat.mod_one]
    | succ n ih =>
      intro hn
      have h1 := h n (by omega)
      unfold bytesF at h1
      have h2 : v.val / 256 ^ n % 256 = u.val / 256 ^ n % 256 := by omega
      rw [Nat.pow_succ, Nat.mod_mul, Nat.mod_mul, ih (by omega), h2]
  have := key 32 (Nat.le_refl _)
  have hv := v.isLt
  have hu := u.isLt
  have hp : P < 256 ^ 32 := by decide
  rw [Nat.mod_eq_of_lt (by omega), Nat.mod_eq_of_lt (by omega)] at this
  exact Fin.ext this

theorem eqN_bytes (v u : F) : eqN 32 (bytesF v) (bytesF u) = decide (v = u) := by
  rw [Bool.eq_iff_iff, decide_eq_true_eq]
  unfold eqN
  rw [List.all_eq_true]
  constructor
  · intro h
    exact bytes_inj fun i hi => by simpa using h i (by simpa using hi)
  · rintro rfl i _
    simp

noncomputable def sameOp : List F → Option T
  | [v, u] => some (.bool (feq v u))
  | _ => none

theorem Same_ok : SoundM Try.prog 35 (pureModel (fF sameOp)) := by
  refine fF_ok (SoundM.of_ev envB_ok mix (n := 10) (fn := Try.f35) (by kernel_rfl) (by kernel_rfl) (by kernel_rfl)) ?_
  intro vs t h
  unfold sameOp at h
  split at h
  · cases h
    exact ⟨rfl, _, same_mv _ _, by rw [eqN_bytes, feq_eq]⟩
  · cases h

/-! ### Pick -/

def xorL (m : Int) (a b : Int) : Int := bits .xor .u64 b (bits .and .u64 m (bits .xor .u64 a b))
def pickR (m : Int) (x y : Fe) : Fe := ⟨xorL m x.l0 y.l0, xorL m x.l1 y.l1, xorL m x.l2 y.l2, xorL m x.l3 y.l3, xorL m x.l4 y.l4⟩

theorem pick_mv1 (x y : Fe) : mv (evFn Try.prog env0 10 Try.f47) [feT x, feT y, .bool true] = some (true, feT (pickR 18446744073709551615 x y)) := by kernel_rfl
theorem pick_mv0 (x y : Fe) : mv (evFn Try.prog env0 10 Try.f47) [feT x, feT y, .bool false] = some (true, feT (pickR 0 x y)) := by kernel_rfl

theorem ofInt_toNat {a : Int} (h0 : 0 ≤ a) (h1 : a < 18446744073709551616) : ((BitVec.ofInt 64 a).toNat : Int) = a := by
  rw [BitVec.toNat_ofInt]
  omega

theorem ofInt_nat (b : BitVec 64) : BitVec.ofInt 64 ((b.toNat : Nat) : Int) = b := by simp

theorem bits64 (op : BinOp) (x y : Int) : bits op .u64 x y = ((match op with
    | .and => BitVec.ofInt 64 x &&& BitVec.ofInt 64 y
    | .or => BitVec.ofInt 64 x ||| BitVec.ofInt 64 y
    | .xor => BitVec.ofInt 64 x ^^^ BitVec.ofInt 64 y
    | _ => BitVec.ofInt 64 x &&& ~~~ BitVec.ofInt 64 y).toNat : Int) := by
  have : ∀ b : BitVec 64, IntKind.u64.wrap (b.toNat : Int) = (b.toNat : Int) := fun b => by
    have := b.isLt
    rw [IntKind.wrap_u64]; omega
  cases op <;> exact this _

theorem xorL1 {a b : Int} (h0 : 0 ≤ a) (h1 : a < 18446744073709551616) : xorL 18446744073709551615 a b = a := by
  unfold xorL
  simp only [bits64, ofInt_nat]
  have e : BitVec.ofInt 64 18446744073709551615 = BitVec.allOnes 64 := by decide
  rw [e, BitVec.allOnes_and, BitVec.xor_comm (BitVec.ofInt 64 a), ← BitVec.xor_assoc, BitVec.xor_self, BitVec.zero_xor]
  exact ofInt_toNat h0 h1
theorem xorL0 {a b : Int} (h0 : 0 ≤ b) (h1 : b < 18446744073709551616) : xorL 0 a b = b := by
  unfold xorL
  simp only [bits64, ofInt_nat]
  have e : BitVec.ofInt 64 0 = 0#64 := by decide
  rw [e, BitVec.zero_and, BitVec.xor_zero]
  exact ofInt_toNat h0 h1

def pickF (b : Bool) (v u : F) : F := if b = true then v else u

def PickM : PModel
  | [x, y, .bool b] => match asFe x, asFe y with
    | some (c, v), some (c', u) => some (c && c', feA (pickF b v u))
    | _, _ => none
  | _ => none

theorem Pick_ok : SoundM Try.prog 47 (pureModel PickM) := by
  refine (SoundM.of_ev (env0_ok _) mix (n := 10) (fn := Try.f47) (by kernel_rfl) (by kernel_rfl) (by kernel_rfl)).refine ?_
  intro args vc v hm hvc ρ xs hargs
  unfold PickM at hm
  split at hm
  · rename_i x y b
    split at hm
    · rename_i c u c' u' hc hc'
      cases hm
      simp only [Bool.and_eq_true] at hvc
      obtain ⟨x', _, rfl, hx, y', _, rfl, hy, z', _, rfl, rfl, rfl⟩ := hargs
      obtain ⟨a, ha, hva⟩ := asFe_v (ρ' := fun _ => none) hc hvc.1 hx
      obtain ⟨d, hd, hvd⟩ := asFe_v (ρ' := fun _ => none) hc' hvc.2 hy
      cases b with
      | true =>
        obtain ⟨r, h3, h4, h5⟩ := mv_some (pick_mv1 a d)
        refine ⟨[feT a, feT d, .bool true], ⟨x', _, rfl, hva, y', _, rfl, hvd, _, _, rfl, rfl, rfl⟩, r, h3, h4, fun ρ' w hw => ?_⟩
        rw [h5] at hw
        refine fe_abs ?_ hw
        have : pickR 18446744073709551615 a d = a := by
          obtain ⟨⟨a0, b0, a1, b1, a2, b2, a3, b3, a4, b4⟩, _⟩ := ha
          unfold pickR
          rw [xorL1 a0 (by omega), xorL1 a1 (by omega), xorL1 a2 (by omega), xorL1 a3 (by omega), xorL1 a4 (by omega)]
        rw [this]; exact ha
      | false =>
        obtain ⟨r, h3, h4, h5⟩ := mv_some (pick_mv0 a d)
        refine ⟨[feT a, feT d, .bool false], ⟨x', _, rfl, hva, y', _, rfl, hvd, _, _, rfl, rfl, rfl⟩, r, h3, h4, fun ρ' w hw => ?_⟩
        rw [h5] at hw
        refine fe_abs ?_ hw
        have : pickR 0 a d = d := by
          obtain ⟨⟨a0, b0, a1, b1, a2, b2, a3, b3, a4, b4⟩, _⟩ := hd
          unfold pickR
          rw [xorL0 a0 (by omega), xorL0 a1 (by omega), xorL0 a2 (by omega), xorL0 a3 (by omega), xorL0 a4 (by omega)]
        rw [this]; exact hd
    · cases hm
  · cases hm

end Go.Proofs.Ytiolcdjnmnhcgaa
