/- fardelref01: Inv, half, root, Ratio: the walks. No condition. -/
import Derived.Test.YtiolcdjnmnhcgaaJ8
namespace Go.Proofs.Ytiolcdjnmnhcgaa
open Go.AE Fardel
set_option maxRecDepth 100000

noncomputable def envR3 : Env := (envR2.set 80 (pureModel PowerM)).set 51 (pureModel nSubM)
theorem envR3_ok : EnvOK Try.prog envR3 := (envR2_ok.set Power_ok).set nSub_ok

noncomputable def ffM (c : F → F) : PModel
  | [.abs (.nn a)] => some (true, nnA (c a))
  | _ => none

/-! ### Inv -/

def twoD : Nat → Int := fun j => bif Nat.beq j 0 then 2 else 0
theorem inv1_mv (a : F) : mv (evFn Try.prog envR3 1000000 Try.f61) [nnA a] = some ((leD pD twoD && (digB (suD pD twoD) && true)) && true, nnA (pw a (suD pD twoD))) := by kernel_rfl
theorem nInv_ok : SoundM Try.prog 61 (pureModel (ffM finv)) := by
  refine (SoundM.of_ev envR3_ok mix (n := 1000000) (fn := Try.f61) (by kernel_rfl) (by kernel_rfl) (by kernel_rfl)).pure ?_
  intro args vc v h hvc
  unfold ffM at h
  split at h
  · cases h
    obtain ⟨r, h3, h4, h5⟩ := mv_some (inv1_mv _)
    have h2 : vD twoD = 2 := by decide +kernel
    have hle : leD pD twoD = true := leD_iff.2 (by rw [pD_val, h2]; decide)
    refine ⟨rfl, rfl, r, h3, by rw [h4, hle, digB_spec.2 (suD_digs _ _)]; rfl, ?_⟩
    rw [h5, pw_eq, suD_val pD_digs, pD_val, h2, finv_eq]
    rfl
  · cases h

/-! ### half -/

noncomputable def haD (f : Nat → Int) : Nat → Int := hid (fun (f : Nat → Int) => dgB 65536 (vD f / 2)) f
theorem haD_eq (f : Nat → Int) : haD f = dgB 65536 (vD f / 2) := by unfold haD; rw [hid_eq]
theorem haD_digs (f : Nat → Int) : digs 65536 16 (haD f) := by rw [haD_eq]; exact dgB_digs (by decide) _ _
theorem haD_val {f : Nat → Int} (hf : digs 65536 16 f) : vD (haD f) = vD f / 2 := by
  unfold vD
  rw [haD_eq, natB_dgB]
  have h := natB_lt 16 hf
  unfold vD
  exact Nat.mod_eq_of_lt (by omega)
noncomputable def halfM : PModel
  | [t] => match asD t with
    | some (c, f) => some (c, D16 (haD f))
    | none => none
  | _ => none

def haQ (f : Nat → Int) (i : Nat) : Int := IntKind.u64.wrap ((f i).tdiv 2)
def haL (f : Nat → Int) : Nat → Nat → Int
  | 0 => fun _ => 0
  | i + 1 => upd (upd (haL f i) i (haQ f i)) i (IntKind.u64.wrap (haQ f i + IntKind.u64.wrap ((IntKind.u64.wrap ((f (i + 1)).tmod 2 * 65536)).tdiv 2)))
def haA (f : Nat → Int) : Nat → Int := upd (haL f 15) 15 (haQ f 15)
theorem half_mv (f : Nat → Int) : mv (evFn Try.prog env0 40 Try.f81) [D16 f] = some (true, D16 (haA f)) := by kernel_rfl

theorem ha_one {a b : Int} (ha : 0 ≤ a ∧ a < 65536) (hb : 0 ≤ b ∧ b < 65536) :
    IntKind.u64.wrap (a.tdiv 2) = a / 2 ∧ IntKind.u64.wrap (IntKind.u64.wrap (a.tdiv 2) + IntKind.u64.wrap ((IntKind.u64.wrap (b.tmod 2 * 65536)).tdiv 2)) = a / 2 + 32768 * (b % 2) := by
  rw [Int.tdiv_eq_ediv_of_nonneg ha.1, Int.tmod_eq_emod_of_nonneg hb.1]
  have e1 : IntKind.u64.wrap (b % 2 * 65536) = b % 2 * 65536 := by simp only [IntKind.wrap_u64]; omega
  rw [e1, Int.tdiv_eq_ediv_of_nonneg (by omega)]
  simp only [IntKind.wrap_u64]
  omega

theorem haL_eq {f : Nat → Int} (hf : digs 65536 16 f) : ∀ i, i ≤ 15 → ∀ j, j < i → haL f i j = f j / 2 + 32768 * (f (j + 1) % 2)
  | 0, _, _, h => by omega
  | i + 1, hi, j, hj => by
    show upd (upd (haL f i) i (haQ f i)) i _ j = _
    by_cases h : j = i
    · subst h
      rw [upd_same]
      exact (ha_one (hf j (by omega)) (hf (j + 1) (by omega))).2
    · rw [upd_ne h, upd_ne h]
      exact haL_eq hf i (by omega) j (by omega)

theorem natB_half {f : Nat → Int} (hf : digs 65536 16 f) : ∀ n, n ≤ 15 → 2 * natB 65536 (fun j => f j / 2 + 32768 * (f (j + 1) % 2)) n + (f 0).toNat % 2 = natB 65536 f n + 65536 ^ n * ((f n).toNat % 2)
  | 0, _ => by simp [natB]
  | n + 1, h => by
    have ih := natB_half hf n (by omega)
    unfold natB
    have a := hf n (by omega)
    have b := hf (n + 1) (by omega)
    rw [Nat.mul_add, Nat.pow_succ]
    have e : 2 * (65536 ^ n * (f n / 2 + 32768 * (f (n + 1) % 2)).toNat) = 65536 ^ n * (2 * (f n / 2 + 32768 * (f (n + 1) % 2)).toNat) := by
      rw [Nat.mul_left_comm]
    have e2 : 2 * (f n / 2 + 32768 * (f (n + 1) % 2)).toNat + (f n).toNat % 2 = (f n).toNat + 65536 * ((f (n + 1)).toNat % 2) := by omega
    have e3 : 65536 ^ n * (2 * (f n / 2 + 32768 * (f (n + 1) % 2)).toNat) + 65536 ^ n * ((f n).toNat % 2) = 65536 ^ n * (f n).toNat + 65536 ^ n * 65536 * ((f (n + 1)).toNat % 2) := by
      rw [← Nat.mul_add, e2, Nat.mul_add, Nat.mul_assoc]
    omega

theorem ha_val {f : Nat → Int} (hf : digs 65536 16 f) (i : Nat) (hi : i < 16) : haA f i = haD f i := by
  have hA : ∀ j, j < 15 → haA f j = f j / 2 + 32768 * (f (j + 1) % 2) := fun j hj => by
    unfold haA
    rw [upd_ne (by omega), haL_eq hf 15 (Nat.le_refl _) j hj]
  have hB : haA f 15 = f 15 / 2 := by
    unfold haA
    rw [upd_same]
    exact (ha_one (hf 15 (by decide)) (hf 15 (by decide))).1
  have hd : digs 65536 16 (haA f) := fun j hj => by
    rcases Nat.lt_or_ge j 15 with h | h
    · rw [hA j h]
      have := hf j (by omega)
      have := hf (j + 1) (by omega)
      omega
    · have : j = 15 := by omega
      subst this
      rw [hB]
      have := hf 15 (by decide)
      omega
  have hv : vD (haA f) = vD f / 2 := by
    have h := natB_half hf 15 (Nat.le_refl _)
    unfold vD
    show natB 65536 (haA f) 15 + 65536 ^ 15 * (haA f 15).toNat = (natB 65536 f 15 + 65536 ^ 15 * (f 15).toNat) / 2
    rw [natB_congr 15 hA, hB]
    have a := hf 15 (by decide)
    have e : (f 15 / 2).toNat = (f 15).toNat / 2 := by omega
    rw [e]
    generalize natB 65536 (fun j => f j / 2 + 32768 * (f (j + 1) % 2)) 15 = A at *
    generalize natB 65536 f 15 = C at *
    generalize (f 15).toNat = t at *
    have e2 : 65536 ^ 15 * t = 2 * (65536 ^ 15 * (t / 2)) + 65536 ^ 15 * (t % 2) := by
      rw [← Nat.mul_assoc, Nat.mul_comm 2, Nat.mul_assoc, ← Nat.mul_add, Nat.div_add_mod]
    omega
  rw [haD_eq, ← hv]
  exact dgB_of (by decide) hd hi

theorem half_ok : SoundM Try.prog 81 (pureModel halfM) := by
  refine (SoundM.of_ev (env0_ok _) mix (n := 40) (fn := Try.f81) (by kernel_rfl) (by kernel_rfl) (by kernel_rfl)).refine ?_
  intro args vc v hm hvc ρ xs hargs
  unfold halfM at hm
  split at hm
  · split at hm
    · rename_i c f h1
      cases hm
      obtain ⟨x, _, rfl, hx, rfl⟩ := hargs
      obtain ⟨hf, hx'⟩ := asD_v (ρ' := fun _ => none) h1 hvc hx
      obtain ⟨r, h3, h4, h5⟩ := mv_some (half_mv f)
      refine ⟨[D16 f], ⟨_, _, rfl, hx', rfl⟩, r, h3, h4, fun ρ' w hw => ?_⟩
      rw [h5] at hw
      exact ints_congr (fun i hi => ha_val hf i hi) hw
    · cases hm
  · cases hm

/-! ### root -/

noncomputable def envR4 : Env := (envR3.set 81 (pureModel halfM)).set 61 (pureModel (ffM finv))
theorem envR4_ok : EnvOK Try.prog envR4 := (envR3_ok.set half_ok).set nInv_ok

def p3 : Nat → Int := upd pD 0 (IntKind.u64.wrap (pD 0 + 3))
noncomputable def rooF (q : F) : F := hid (fun (q : F) => q ^ ((P + 3) / 8)) q
theorem rooF_eq (q : F) : rooF q = q ^ ((P + 3) / 8) := by unfold rooF; rw [hid_eq]
theorem root_mv (a : F) : mv (evFn Try.prog envR4 1000000 Try.f79) [nnA a] = some ((digB (haD (haD (haD p3))) && true) && ((digB (haD (haD p3)) && true) && ((digB (haD p3) && true) && true)), nnA (pw a (haD (haD (haD p3))))) := by kernel_rfl

theorem p3_digs : digs 65536 16 p3 := digB_spec.1 (by decide +kernel)
theorem p3_val : vD p3 = P + 3 := by decide +kernel

theorem root_ok : SoundM Try.prog 79 (pureModel (ffM rooF)) := by
  refine (SoundM.of_ev envR4_ok mix (n := 1000000) (fn := Try.f79) (by kernel_rfl) (by kernel_rfl) (by kernel_rfl)).pure ?_
  intro args vc v h hvc
  unfold ffM at h
  split at h
  · cases h
    obtain ⟨r, h3, h4, h5⟩ := mv_some (root_mv _)
    refine ⟨rfl, rfl, r, h3, by rw [h4, digB_spec.2 (haD_digs _), digB_spec.2 (haD_digs _), digB_spec.2 (haD_digs _)]; rfl, ?_⟩
    rw [h5, pw_eq, haD_val (haD_digs _), haD_val (haD_digs _), haD_val p3_digs, p3_val, Nat.div_div_eq_div_mul, Nat.div_div_eq_div_mul, rooF_eq]
  · cases h

/-! ### Ratio -/

noncomputable def envR5 : Env := envR4.set 79 (pureModel (ffM rooF))
theorem envR5_ok : EnvOK Try.prog envR5 := envR4_ok.set root_ok

def eqR (f g : Nat → Int) : Nat → Nat → Bool
  | 0, _ => true
  | k + 1, i => (f i == g i) && eqR f g k (i + 1)
noncomputable def eqD (a b : F) : Bool := eqR (dg a) (dg b) 16 0
noncomputable def eqZ (a : F) : Bool := eqR (dg a) (fun _ => 0) 16 0

def p1 : Nat → Int := upd pD 0 (IntKind.u64.wrap (pD 0 - 1))
noncomputable def rT : F := pw (nof 2) (haD (haD p1))
noncomputable def rQ (u v : F) : F := fmul u (finv v)
noncomputable def r0 (u v : F) : F := rooF (rQ u v)
noncomputable def r1 (u v : F) : F := fmul (r0 u v) rT
noncomputable def rOdd (r : F) : Bool := (dg r 0).tmod 2 == 1

noncomputable def raM (sy : List (Nat × Bool)) : Model := evFn Try.prog envR5 ⟨1000000, sy⟩ Try.f55
theorem raM_ok (sy : List (Nat × Bool)) : SoundM Try.prog 55 (raM sy) := SoundM.of_ev envR5_ok mix (by kernel_rfl) (by kernel_rfl) (by kernel_rfl)

noncomputable def vHead (u v : F) : Bool := (((eqZ v == false) && true) && (((eqZ u == false) && true) && true))
noncomputable def vB (u v r : F) (b : Bool) : Bool := (((rOdd r == b) && true) && (((!eqD (fmul r r) (rQ u v)) == false) && true) && ((((!eqD (fmul r r) (rQ u v)) == false) && true) && vHead u v))

theorem ra_a (u v : F) : mv (raM [(13, true)]) [nnA u, nnA v] = some (((eqZ u == true) && true) && true, .tup (.cons z16 (.cons (.bool true) .nil))) := by kernel_rfl
theorem ra_b (u v : F) : mv (raM [(13, false), (17, false), (29, false), (46, false), (51, false)]) [nnA u, nnA v] =
    some (((rOdd (r0 u v) == false) && true) && ((((!eqD (fmul (r0 u v) (r0 u v)) (rQ u v)) == false) && true) && ((((!eqD (fmul (r0 u v) (r0 u v)) (rQ u v)) == false) && true) && vHead u v)), .tup (.cons (nnA (r0 u v)) (.cons (.bool true) .nil))) := by kernel_rfl
theorem ra_c (u v : F) : mv (raM [(13, false), (17, false), (29, false), (46, false), (51, true)]) [nnA u, nnA v] =
    some (((rOdd (r0 u v) == true) && true) && ((((!eqD (fmul (r0 u v) (r0 u v)) (rQ u v)) == false) && true) && ((((!eqD (fmul (r0 u v) (r0 u v)) (rQ u v)) == false) && true) && vHead u v)), .tup (.cons (nnA (fsub (vF fun _ => 0) (r0 u v))) (.cons (.bool true) .nil))) := by kernel_rfl
noncomputable def vT : Bool := digB (haD p1) && (digB (haD (haD p1)) && true)
theorem ra_d (u v : F) : mv (raM [(13, false), (17, false), (29, true), (46, false), (51, false)]) [nnA u, nnA v] =
    some (((rOdd (r1 u v) == false) && true) && ((((!eqD (fmul (r1 u v) (r1 u v)) (rQ u v)) == false) && true) && (vT && ((((!eqD (fmul (r0 u v) (r0 u v)) (rQ u v)) == true) && true) && vHead u v))), .tup (.cons (nnA (r1 u v)) (.cons (.bool true) .nil))) := by kernel_rfl
theorem ra_e (u v : F) : mv (raM [(13, false), (17, false), (29, true), (46, false), (51, true)]) [nnA u, nnA v] =
    some (((rOdd (r1 u v) == true) && true) && ((((!eqD (fmul (r1 u v) (r1 u v)) (rQ u v)) == false) && true) && (vT && ((((!eqD (fmul (r0 u v) (r0 u v)) (rQ u v)) == true) && true) && vHead u v))), .tup (.cons (nnA (fsub (vF fun _ => 0) (r1 u v))) (.cons (.bool true) .nil))) := by kernel_rfl
theorem ra_f (u v : F) : mv (raM [(13, false), (17, false), (29, true), (46, true)]) [nnA u, nnA v] =
    some ((((!eqD (fmul (r1 u v) (r1 u v)) (rQ u v)) == true) && true) && (vT && ((((!eqD (fmul (r0 u v) (r0 u v)) (rQ u v)) == true) && true) && vHead u v)), .tup (.cons z16 (.cons (.bool false) .nil))) := by kernel_rfl

end Go.Proofs.Ytiolcdjnmnhcgaa
