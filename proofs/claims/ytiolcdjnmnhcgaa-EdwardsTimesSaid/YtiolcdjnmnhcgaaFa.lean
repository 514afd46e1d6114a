/- field.carried, Add, Sub, Neg, small, Square by the abstract evaluator. No condition. -/
import Derived.Test.YtiolcdjnmnhcgaaAeC
import Derived.KernelRfl
import Derived.Test.YtiolcdjnmnhcgaaProg
namespace Go.Proofs.Ytiolcdjnmnhcgaa
open Go.AE Fardel
set_option maxRecDepth 100000

theorem mix : Try.prog.follows .mixedOrders = true := by kernel_rfl

def l5T (x : Fe) : T := .cons (.int .u64 x.l0) (.cons (.int .u64 x.l1) (.cons (.int .u64 x.l2) (.cons (.int .u64 x.l3) (.cons (.int .u64 x.l4) .nil))))
def feT (x : Fe) : T := .cons (l5T x) .nil

instance (x : Fe) (B : Int) : Decidable (x.lt B) := decidable_of_iff ((0 ≤ x.l0 ∧ x.l0 < B) ∧ (0 ≤ x.l1 ∧ x.l1 < B) ∧ (0 ≤ x.l2 ∧ x.l2 < B) ∧ (0 ≤ x.l3 ∧ x.l3 < B) ∧ (0 ≤ x.l4 ∧ x.l4 < B))
  ⟨fun ⟨⟨a, b⟩, ⟨c, d⟩, ⟨e, f⟩, ⟨g, h⟩, ⟨i, j⟩⟩ => ⟨a, b, c, d, e, f, g, h, i, j⟩, fun ⟨a, b, c, d, e, f, g, h, i, j⟩ => ⟨⟨a, b⟩, ⟨c, d⟩, ⟨e, f⟩, ⟨g, h⟩, ⟨i, j⟩⟩⟩

/-! The operations under names of their own, that the kernel does not open. -/
noncomputable def fadd (a b : F) : F := hid (fun (a b : F) => a + b) a b
noncomputable def fsub (a b : F) : F := hid (fun (a b : F) => a - b) a b
noncomputable def fmul (a b : F) : F := hid (fun (a b : F) => a * b) a b
noncomputable def fneg (a : F) : F := hid (fun (a : F) => -a) a
noncomputable def fpow (a : F) (n : Nat) : F := hid (fun (a : F) (n : Nat) => a ^ n) a n
noncomputable def finv (a : F) : F := hid (fun (a : F) => inv a) a
noncomputable def feq (a b : F) : Bool := hid (fun (a b : F) => decide (a = b)) a b
theorem fadd_eq (a b : F) : fadd a b = a + b := by unfold fadd; rw [hid_eq]
theorem fsub_eq (a b : F) : fsub a b = a - b := by unfold fsub; rw [hid_eq]
theorem fmul_eq (a b : F) : fmul a b = a * b := by unfold fmul; rw [hid_eq]
theorem fneg_eq (a : F) : fneg a = -a := by unfold fneg; rw [hid_eq]
theorem fpow_eq (a : F) (n : Nat) : fpow a n = a ^ n := by unfold fpow; rw [hid_eq]
theorem finv_eq (a : F) : finv a = inv a := by unfold finv; rw [hid_eq]
theorem feq_eq (a b : F) : feq a b = decide (a = b) := by unfold feq; rw [hid_eq]

/-! ### carried -/

def asL5 : T → Option Fe
  | .cons (.int .u64 a) (.cons (.int .u64 b) (.cons (.int .u64 c) (.cons (.int .u64 d) (.cons (.int .u64 e) .nil)))) => some ⟨a, b, c, d, e⟩
  | _ => none

theorem asL5_eq {t : T} {x : Fe} (h : asL5 t = some x) : t = l5T x := by
  unfold asL5 at h
  split at h
  · cases h; rfl
  · cases h

def carriedM : PModel
  | [t] => match asL5 t with
    | some x => some (decide (x.lt 9223372036854775808), feT (carryN x))
    | none => none
  | _ => none

def rawC (x : Fe) : Fe :=
  ⟨IntKind.u64.wrap (bits .and .u64 x.l0 2251799813685247 + IntKind.u64.wrap (19 * shrI .u64 x.l4 51)), IntKind.u64.wrap (bits .and .u64 x.l1 2251799813685247 + shrI .u64 x.l0 51),
   IntKind.u64.wrap (bits .and .u64 x.l2 2251799813685247 + shrI .u64 x.l1 51), IntKind.u64.wrap (bits .and .u64 x.l3 2251799813685247 + shrI .u64 x.l2 51),
   IntKind.u64.wrap (bits .and .u64 x.l4 2251799813685247 + shrI .u64 x.l3 51)⟩

theorem carried_mv (x : Fe) : mv (evFn Try.prog env0 10 Try.f65) [l5T x] = some (true, feT (rawC x)) := by kernel_rfl

theorem shrI_u64 (x : Int) (n : Nat) (hn : n ≤ 64) : shrI .u64 x n = x / 2 ^ n := by
  unfold shrI
  have : min ((n : Int)).toNat IntKind.u64.bits = n := by simp [IntKind.bits]; omega
  rw [this, Int.fdiv_eq_ediv_of_nonneg _ (Int.le_of_lt (Int.pow_pos (by decide)))]

theorem shr51 (x : Int) : shrI .u64 x 51 = x / 2251799813685248 := shrI_u64 x 51 (by decide)

theorem rawC_eq {x : Fe} (h : x.lt 9223372036854775808) : rawC x = carryN x := by
  obtain ⟨a0, b0, a1, b1, a2, b2, a3, b3, a4, b4⟩ := h
  unfold rawC carryN
  simp only [shr51]
  rw [and51 _ a0 (by omega), and51 _ a1 (by omega), and51 _ a2 (by omega), and51 _ a3 (by omega), and51 _ a4 (by omega)]
  simp only [IntKind.wrap_u64]
  congr 1 <;> omega

theorem carried_ok : SoundM Try.prog 65 (pureModel carriedM) := by
  refine (SoundM.of_ev (env0_ok _) mix (n := 10) (fn := Try.f65) (by kernel_rfl) (by kernel_rfl) (by kernel_rfl)).pure ?_
  intro args vc v h hvc
  unfold carriedM at h
  split at h
  · split at h
    · rename_i x hx
      cases asL5_eq hx
      cases h
      obtain ⟨r, h1, h2, h3⟩ := mv_some (carried_mv x)
      exact ⟨rfl, rfl, r, h1, h2, by rw [h3, rawC_eq (by simpa using hvc)]⟩
    · cases h
  · cases h

/-- The same without a condition. -/
def carriedR : PModel
  | [t] => match asL5 t with
    | some x => some (true, feT (rawC x))
    | none => none
  | _ => none

theorem carriedR_ok : SoundM Try.prog 65 (pureModel carriedR) := by
  refine (SoundM.of_ev (env0_ok _) mix (n := 10) (fn := Try.f65) (by kernel_rfl) (by kernel_rfl) (by kernel_rfl)).pure ?_
  intro args vc v h hvc
  unfold carriedR at h
  split at h
  · split at h
    · rename_i x hx
      cases asL5_eq hx
      cases h
      obtain ⟨r, h1, h2, h3⟩ := mv_some (carried_mv x)
      exact ⟨rfl, rfl, r, h1, h2, h3⟩
    · cases h
  · cases h

/-! ### Numbers of the field as values -/

def asFe : T → Option (Bool × F)
  | .abs (.fe v) => some (true, v)
  | .cons t .nil => match asL5 t with
    | some x => some (decide (x.lt 4503599627370496), toF x.sum)
    | none => none
  | _ => none

theorem limbs_feT (x : Fe) (ρ : Rho) : (R ρ (feT x)).c (limbs x) :=
  ⟨limbs x, [], rfl, ⟨[_], _, rfl, ⟨_, rfl, rfl⟩, ⟨[_], _, rfl, ⟨_, rfl, rfl⟩, ⟨[_], _, rfl, ⟨_, rfl, rfl⟩, ⟨[_], _, rfl, ⟨_, rfl, rfl⟩, ⟨[_], _, rfl, ⟨_, rfl, rfl⟩, rfl⟩⟩⟩⟩⟩, rfl⟩

theorem limbs_of {x : Fe} {ρ : Rho} {cs : List Value} (h : (R ρ (feT x)).c cs) : cs = limbs x := by
  obtain ⟨a, b, rfl, ⟨_, _, rfl, ⟨_, rfl, rfl⟩, ⟨_, _, rfl, ⟨_, rfl, rfl⟩, ⟨_, _, rfl, ⟨_, rfl, rfl⟩, ⟨_, _, rfl, ⟨_, rfl, rfl⟩, ⟨_, _, rfl, ⟨_, rfl, rfl⟩, rfl⟩⟩⟩⟩⟩, rfl⟩ := h
  rfl

theorem asFe_limbs {t : T} {vc : Bool} {v : F} {ρ : Rho} {cs : List Value} (h : asFe t = some (vc, v)) (hvc : vc = true) (hx : (R ρ t).c cs) : ∃ y : Fe, y.is v ∧ cs = limbs y := by
  unfold asFe at h
  split at h
  · cases h
    exact hx
  · split at h
    · rename_i t' x hx'
      have e := asL5_eq hx'
      subst e
      cases h
      exact ⟨x, ⟨by simpa using hvc, rfl⟩, limbs_of hx⟩
    · cases h
  · cases h

theorem asFe_agg {t : T} {r : Bool × F} (h : asFe t = some r) : t.isAgg = true := by
  unfold asFe at h
  split at h <;> first | rfl | cases h

/-- A value of the field, as limbs. -/
theorem asFe_v {t : T} {vc : Bool} {v : F} {ρ ρ' : Rho} {x : Value} (h : asFe t = some (vc, v)) (hvc : vc = true) (hx : (R ρ t).v x) : ∃ y : Fe, y.is v ∧ (R ρ' (feT y)).v x := by
  obtain ⟨cs, rfl, hc⟩ := (R_agg (asFe_agg h)).1 hx
  obtain ⟨y, hy, e⟩ := asFe_limbs h hvc hc
  exact ⟨y, hy, (R_agg rfl).2 ⟨cs, rfl, by rw [e]; exact limbs_feT y ρ'⟩⟩

theorem fe_abs {y : Fe} {v : F} {ρ ρ' : Rho} {x : Value} (hy : y.is v) (hx : (R ρ' (feT y)).v x) : (R ρ (.abs (.fe v))).v x := by
  obtain ⟨cs, rfl, hc⟩ := (R_agg rfl).1 hx
  exact ⟨cs, rfl, y, hy, limbs_of hc⟩

def un (op : F → F) : PModel
  | [x] => match asFe x with
    | some (c, v) => some (c, .abs (.fe (op v)))
    | none => none
  | _ => none

def bin2 (op : F → F → F) : PModel
  | [x, y] => match asFe x, asFe y with
    | some (c, v), some (c', u) => some (c && c', .abs (.fe (op v u)))
    | _, _ => none
  | _ => none

/-- From limbs to numbers of the field. -/
theorem un_ok {f : FuncId} {M : Model} (op : F → F) (hs : SoundM Try.prog f M) (h : ∀ x v, Fe.is x v → ∃ y : Fe, mv M [feT x] = some (true, feT y) ∧ y.is (op v)) : SoundM Try.prog f (pureModel (un op)) := by
  refine hs.refine ?_
  intro args vc v hm hvc ρ xs hargs
  unfold un at hm
  split at hm
  · rename_i x
    split at hm
    · rename_i c u hc
      cases hm
      obtain ⟨x', ys, rfl, hx, rfl⟩ := hargs
      obtain ⟨y, hy, hv⟩ := asFe_v (ρ' := fun _ => none) hc hvc hx
      obtain ⟨z, h1, h2⟩ := h y u hy
      obtain ⟨r, h3, h4, h5⟩ := mv_some h1
      exact ⟨[feT y], ⟨x', [], rfl, hv, rfl⟩, r, h3, h4, fun ρ' w hw => fe_abs h2 (by rw [h5] at hw; exact hw)⟩
    · cases hm
  · cases hm

theorem bin2_ok {f : FuncId} {M : Model} (op : F → F → F) (hs : SoundM Try.prog f M) (h : ∀ x v x' v', Fe.is x v → Fe.is x' v' → ∃ (vc : Bool) (y : Fe), mv M [feT x, feT x'] = some (vc, feT y) ∧ vc = true ∧ y.is (op v v')) : SoundM Try.prog f (pureModel (bin2 op)) := by
  refine hs.refine ?_
  intro args vc v hm hvc ρ xs hargs
  unfold bin2 at hm
  split at hm
  · rename_i x y
    split at hm
    · rename_i c u c' u' hc hc'
      cases hm
      simp only [Bool.and_eq_true] at hvc
      obtain ⟨x', ys, rfl, hx, y', zs, rfl, hy, rfl⟩ := hargs
      obtain ⟨a, ha, hva⟩ := asFe_v (ρ' := fun _ => none) hc hvc.1 hx
      obtain ⟨b, hb, hvb⟩ := asFe_v (ρ' := fun _ => none) hc' hvc.2 hy
      obtain ⟨vc', z, h1, hv', h2⟩ := h a u b u' ha hb
      obtain ⟨r, h3, h4, h5⟩ := mv_some h1
      exact ⟨[feT a, feT b], ⟨x', _, rfl, hva, y', [], rfl, hvb, rfl⟩, r, h3, h4.trans hv', fun ρ' w hw => fe_abs h2 (by rw [h5] at hw; exact hw)⟩
    · cases hm
  · cases hm

noncomputable def envC : Env := env0.set 65 (pureModel carriedM)
theorem envC_ok : EnvOK Try.prog envC := (env0_ok _).set carried_ok

/-! ### Add, Sub -/

def addL (x y : Fe) : Fe := ⟨IntKind.u64.wrap (x.l0 + y.l0), IntKind.u64.wrap (x.l1 + y.l1), IntKind.u64.wrap (x.l2 + y.l2), IntKind.u64.wrap (x.l3 + y.l3), IntKind.u64.wrap (x.l4 + y.l4)⟩

theorem add_mv (x y : Fe) : mv (evFn Try.prog envC 1000000 Try.f43) [feT x, feT y] = some ((decide ((addL x y).lt 9223372036854775808) && true) && true, feT (carryN (addL x y))) := by kernel_rfl

theorem carryN_is {x : Fe} {v : F} (h : x.lt 9223372036854775808) (hv : toF x.sum = v) : (carryN x).is v :=
  ⟨(carryN_lt h).mono (by decide), by rw [toF_eq _ (carryN_sum x)]; exact hv⟩

theorem Add_ok : SoundM Try.prog 43 (pureModel (bin2 fadd)) := by
  refine bin2_ok _ (SoundM.of_ev envC_ok mix (n := 1000000) (fn := Try.f43) (by kernel_rfl) (by kernel_rfl) (by kernel_rfl)) ?_
  intro x v y u hx hy
  obtain ⟨⟨a0, b0, a1, b1, a2, b2, a3, b3, a4, b4⟩, hv⟩ := hx
  obtain ⟨⟨c0, d0, c1, d1, c2, d2, c3, d3, c4, d4⟩, hu⟩ := hy
  have e : addL x y = ⟨x.l0 + y.l0, x.l1 + y.l1, x.l2 + y.l2, x.l3 + y.l3, x.l4 + y.l4⟩ := by
    unfold addL
    simp only [IntKind.wrap_u64]
    congr 1 <;> omega
  have hl : (addL x y).lt 9223372036854775808 := by rw [e]; constructor <;> simp only <;> omega
  refine ⟨_, _, add_mv x y, by simpa using hl, carryN_is hl ?_⟩
  rw [fadd_eq, e, ← hv, ← hu, ← toF_add]
  congr 1
  unfold Fe.sum
  simp only
  omega

def subL (x y : Fe) : Fe :=
  ⟨IntKind.u64.wrap (x.l0 + IntKind.u64.wrap (9007199254740916 - y.l0)), IntKind.u64.wrap (x.l1 + IntKind.u64.wrap (9007199254740988 - y.l1)), IntKind.u64.wrap (x.l2 + IntKind.u64.wrap (9007199254740988 - y.l2)),
   IntKind.u64.wrap (x.l3 + IntKind.u64.wrap (9007199254740988 - y.l3)), IntKind.u64.wrap (x.l4 + IntKind.u64.wrap (9007199254740988 - y.l4))⟩

theorem sub_mv (x y : Fe) : mv (evFn Try.prog envC 1000000 Try.f41) [feT x, feT y] = some ((decide ((subL x y).lt 9223372036854775808) && true) && true, feT (carryN (subL x y))) := by kernel_rfl

theorem Sub_ok : SoundM Try.prog 41 (pureModel (bin2 fsub)) := by
  refine bin2_ok _ (SoundM.of_ev envC_ok mix (n := 1000000) (fn := Try.f41) (by kernel_rfl) (by kernel_rfl) (by kernel_rfl)) ?_
  intro x v y u hx hy
  obtain ⟨⟨a0, b0, a1, b1, a2, b2, a3, b3, a4, b4⟩, hv⟩ := hx
  obtain ⟨⟨c0, d0, c1, d1, c2, d2, c3, d3, c4, d4⟩, hu⟩ := hy
  have e : subL x y = ⟨x.l0 + (9007199254740916 - y.l0), x.l1 + (9007199254740988 - y.l1), x.l2 + (9007199254740988 - y.l2), x.l3 + (9007199254740988 - y.l3), x.l4 + (9007199254740988 - y.l4)⟩ := by
    unfold subL
    simp only [IntKind.wrap_u64]
    congr 1 <;> omega
  have hl : (subL x y).lt 9223372036854775808 := by rw [e]; constructor <;> simp only <;> omega
  refine ⟨_, _, sub_mv x y, by simpa using hl, carryN_is hl ?_⟩
  rw [fsub_eq, e, ← hv, ← hu, ← toF_sub]
  refine toF_eq 4 ?_
  unfold Fe.sum
  rw [P_int]
  simp only
  omega

end Go.Proofs.Ytiolcdjnmnhcgaa
