/- fardelref07: Zero, D, On, Add, Neg, Bytes, sum by their models. No condition. -/
import Derived.Test.YtiolcdjnmnhcgaaJ10
namespace Go.Proofs.Ytiolcdjnmnhcgaa
open Go.AE Fardel
set_option maxRecDepth 100000

def rpT (x y : F) : T := .cons (nnA x) (.cons (nnA y) .nil)
noncomputable def envR6 : Env := ((envR5.set 55 (pureModel nRatioM)).set 18 (pureModel nBytesM)).set 48 (pureModel nLoadM)
theorem envR6_ok : EnvOK Try.prog envR6 := ((envR5_ok.set nRatio_ok).set nBytes_ok).set nLoad_ok

theorem nof_one : nof 1 = 1 := by rw [nof_eq]; decide +kernel
theorem nof_zero : nof 0 = 0 := by rw [nof_eq]; decide +kernel
theorem nof_neg (x : F) : fsub (nof 0) x = -x := by rw [fsub_eq, nof_zero]; grobner

/-! ### Zero and D -/

theorem zero1_mv : mv (evFn Try.prog envR6 40 Try.f49) [] = some (true, .cons z16 (.cons (nnA (nof 1)) .nil)) := by kernel_rfl
noncomputable def rZeroM : PModel
  | [] => some (true, rpT pZ.x pZ.y)
  | _ => none
theorem rZero_ok : SoundM Try.prog 49 (pureModel rZeroM) := by
  refine (SoundM.of_ev envR6_ok mix (n := 40) (fn := Try.f49) (by kernel_rfl) (by kernel_rfl) (by kernel_rfl)).refine ?_
  intro args vc v hm hvc ρ xs hargs
  unfold rZeroM at hm
  split at hm
  · cases hm
    obtain ⟨r, h3, h4, h5⟩ := mv_some zero1_mv
    refine ⟨[], hargs, r, h3, h4, fun ρ' w hw => ?_⟩
    rw [h5] at hw
    obtain ⟨cs, rfl, a, b, e, h1, h2⟩ := hw
    refine ⟨cs, rfl, a, b, e, ?_, ?_⟩
    · obtain ⟨cs', e', h'⟩ := (R_agg (t := nnA 0) rfl).1 (z16_nn (ρ := ρ') (ρ' := ρ) (x := .agg a.toArray) ⟨a.toArray, rfl, h1⟩)
      cases e'
      rw [pZ_eq]
      exact h'
    · rw [pZ_eq, show (Pt.zero).y = nof 1 from nof_one.symm]
      exact (noPtr_R (t := .cons (nnA (nof 1)) .nil) rfl ρ' ρ).1 _ h2
  · cases hm

theorem d1_mv : mv (evFn Try.prog envR6 40 Try.f54) [] = some (true, nnA (fsub (nof 0) (fmul (nof 121665) (finv (nof 121666))))) := by kernel_rfl
theorem d1_aux {a c w e : F} (h : c * w = 1) (hc : c ≠ 0) (hd : e * c = -a) : -(a * w) = e := by
  refine mul_cancel hc ?_
  rw [hd]
  grobner
theorem d1_val : fsub (nof 0) (fmul (nof 121665) (finv (nof 121666))) = fd := by
  have h5 : nof 121665 = 121665 := by rw [nof_eq]; decide +kernel
  have h6 : nof 121666 = 121666 := by rw [nof_eq]; decide +kernel
  have hne : (121666 : F) ≠ 0 := by decide +kernel
  rw [nof_neg, fmul_eq, finv_eq, fd_eq, h5, h6]
  exact d1_aux (mul_inv hne) hne d_def
noncomputable def rDM : PModel
  | [] => some (true, nnA fd)
  | _ => none
theorem rD_ok : SoundM Try.prog 54 (pureModel rDM) := by
  refine (SoundM.of_ev envR6_ok mix (n := 40) (fn := Try.f54) (by kernel_rfl) (by kernel_rfl) (by kernel_rfl)).pure ?_
  intro args vc v h hvc
  unfold rDM at h
  split at h
  · cases h
    obtain ⟨r, h3, h4, h5⟩ := mv_some d1_mv
    exact ⟨rfl, rfl, r, h3, h4, by rw [h5, d1_val]⟩
  · cases h

noncomputable def envR7 : Env := (envR6.set 54 (pureModel rDM)).set 49 (pureModel rZeroM)
theorem envR7_ok : EnvOK Try.prog envR7 := (envR6_ok.set rD_ok).set rZero_ok

/-- Functions of coordinates. -/
noncomputable def rp1M (op : F → F → Option (Bool × T)) : PModel
  | [.cons (.abs (.nn x)) (.cons (.abs (.nn y)) .nil)] => op x y
  | _ => none
noncomputable def rp2M (op : F → F → F → F → Option (Bool × T)) : PModel
  | [.cons (.abs (.nn x)) (.cons (.abs (.nn y)) .nil), .cons (.abs (.nn x')) (.cons (.abs (.nn y')) .nil)] => op x y x' y'
  | _ => none

theorem rp1_ok {f : FuncId} {M : Model} {op : F → F → Option (Bool × T)} (hs : SoundM Try.prog f M) (h : ∀ x y vc t, op x y = some (vc, t) → vc = true → noPtr t = true ∧ ∃ vc', mv M [rpT x y] = some (vc', t) ∧ vc' = true) : SoundM Try.prog f (pureModel (rp1M op)) := by
  refine hs.pure ?_
  intro args vc v hm hvc
  unfold rp1M at hm
  split at hm
  · obtain ⟨h1, vc', h2, h3⟩ := h _ _ _ _ hm hvc
    obtain ⟨r, h4, h5, h6⟩ := mv_some h2
    exact ⟨rfl, h1, r, h4, h5.trans h3, h6⟩
  · cases hm
theorem rp2_ok {f : FuncId} {M : Model} {op : F → F → F → F → Option (Bool × T)} (hs : SoundM Try.prog f M) (h : ∀ x y x' y' vc t, op x y x' y' = some (vc, t) → vc = true → noPtr t = true ∧ ∃ vc', mv M [rpT x y, rpT x' y'] = some (vc', t) ∧ vc' = true) :
    SoundM Try.prog f (pureModel (rp2M op)) := by
  refine hs.pure ?_
  intro args vc v hm hvc
  unfold rp2M at hm
  split at hm
  · obtain ⟨h1, vc', h2, h3⟩ := h _ _ _ _ _ _ hm hvc
    obtain ⟨r, h4, h5, h6⟩ := mv_some h2
    exact ⟨rfl, h1, r, h4, h5.trans h3, h6⟩
  · cases hm

/-! ### On, Add, Neg -/

open Classical in
noncomputable def onB (x y : F) : Bool := hid (fun (x y : F) => decide (On x y)) x y
theorem onB_iff {x y : F} : onB x y = true ↔ On x y := by unfold onB; rw [hid_eq]; simp
theorem on_mv (x y : F) : mv (evFn Try.prog envR7 40 Try.f30) [rpT x y] = some (true, .bool (eqD (fsub (fmul y y) (fmul x x)) (fadd (nof 1) (fmul fd (fmul (fmul x x) (fmul y y)))))) := by kernel_rfl
theorem rOn_ok : SoundM Try.prog 30 (pureModel (rp1M fun x y => some (true, .bool (onB x y)))) := by
  refine rp1_ok (SoundM.of_ev envR7_ok mix (n := 40) (fn := Try.f30) (by kernel_rfl) (by kernel_rfl) (by kernel_rfl)) ?_
  intro x y vc t h hvc
  cases h
  refine ⟨rfl, true, ?_, rfl⟩
  rw [on_mv]
  have : eqD (fsub (fmul y y) (fmul x x)) (fadd (nof 1) (fmul fd (fmul (fmul x x) (fmul y y)))) = onB x y := by
    rw [Bool.eq_iff_iff, eqD_iff, onB_iff]
    simp only [fsub_eq, fmul_eq, fadd_eq, fd_eq, nof_one]
    unfold On
    rfl
  rw [this]

noncomputable def hsx (x y x' y' : F) : F := hid (fun (x y x' y' : F) => sx x y x' y') x y x' y'
noncomputable def hsy (x y x' y' : F) : F := hid (fun (x y x' y' : F) => sy x y x' y') x y x' y'
theorem hsx_eq (x y x' y' : F) : hsx x y x' y' = sx x y x' y' := by unfold hsx; rw [hid_eq]
theorem hsy_eq (x y x' y' : F) : hsy x y x' y' = sy x y x' y' := by unfold hsy; rw [hid_eq]
theorem radd_mv (x y x' y' : F) : mv (evFn Try.prog envR7 40 Try.f26) [rpT x y, rpT x' y'] = some (true, rpT (fmul (fadd (fmul x y') (fmul y x')) (finv (fadd (nof 1) (fmul fd (fmul (fmul x y') (fmul y x'))))))
    (fmul (fadd (fmul y y') (fmul x x')) (finv (fsub (nof 1) (fmul fd (fmul (fmul x y') (fmul y x'))))))) := by kernel_rfl
theorem rAdd_ok : SoundM Try.prog 26 (pureModel (rp2M fun x y x' y' => some (true, rpT (hsx x y x' y') (hsy x y x' y')))) := by
  refine rp2_ok (SoundM.of_ev envR7_ok mix (n := 40) (fn := Try.f26) (by kernel_rfl) (by kernel_rfl) (by kernel_rfl)) ?_
  intro x y x' y' vc t h hvc
  cases h
  refine ⟨rfl, true, ?_, rfl⟩
  rw [radd_mv, hsx_eq, hsy_eq]
  simp only [fsub_eq, fmul_eq, fadd_eq, fd_eq, finv_eq, nof_one]
  unfold sx sy
  have e : x * y' * (y * x') = x * x' * (y * y') := by grobner
  rw [e]

theorem rneg_mv (x y : F) : mv (evFn Try.prog envR7 40 Try.f32) [rpT x y] = some (true, rpT (fsub (nof 0) x) y) := by kernel_rfl
theorem rNeg_ok : SoundM Try.prog 32 (pureModel (rp1M fun x y => some (true, rpT (fneg x) y))) := by
  refine rp1_ok (SoundM.of_ev envR7_ok mix (n := 40) (fn := Try.f32) (by kernel_rfl) (by kernel_rfl) (by kernel_rfl)) ?_
  intro x y vc t h hvc
  cases h
  refine ⟨rfl, true, ?_, rfl⟩
  rw [rneg_mv, nof_neg, fneg_eq]

/-! ### Bytes -/

noncomputable def encC (x y : F) : Nat → Int := hid (fun (x y : F) => bif oddF x then put31 (bits .or .u8 (bytesF y 31) 128) (bytesF y) else bytesF y) x y
theorem encC_eq (x y : F) : encC x y = bif oddF x then put31 (bits .or .u8 (bytesF y 31) 128) (bytesF y) else bytesF y := by unfold encC; rw [hid_eq]
theorem encC_pt (p : Pt) : encC p.x p.y = encP p := by rw [encC_eq, encP_eq]
noncomputable def rbM (b : Bool) : Model := evFn Try.prog envR7 ⟨1000000, [(11, b)]⟩ Try.f24
theorem rbytes_t (x y : F) : mv (rbM true) [rpT x y] = some ((((rOdd x) == true) && true) && true, .ints .u8 32 (put31 (bits .or .u8 (bytesF y 31) 128) (bytesF y))) := by kernel_rfl
theorem rbytes_f (x y : F) : mv (rbM false) [rpT x y] = some ((((rOdd x) == false) && true) && true, .ints .u8 32 (bytesF y)) := by kernel_rfl
noncomputable def rBytesM : PModel := rp1M fun x y => some (true, .ints .u8 32 (encC x y))
theorem rBytes_ok : SoundM Try.prog 24 (pureModel rBytesM) := by
  refine SoundM.refineX ?_
  intro args vc v hm hvc ρ xs hargs
  unfold rBytesM rp1M at hm
  split at hm
  · rename_i x y
    cases hm
    have hx : VLs (fun _ => none) [rpT x y] xs := argsOK_VLs rfl hargs
    have hs : ∀ b, SoundM Try.prog 24 (rbM b) := fun b => SoundM.of_ev envR7_ok mix (by kernel_rfl) (by kernel_rfl) (by kernel_rfl)
    cases ho : rOdd x with
    | true =>
      obtain ⟨r, h3, h4, h5⟩ := mv_some (rbytes_t x y)
      refine ⟨_, hs true, _, hx, r, h3, by rw [h4, ho]; rfl, fun ρ' w hw => ?_⟩
      rw [rOdd_eq] at ho
      rw [encC_eq, ho]
      rw [h5] at hw
      exact (noPtr_R (t := .ints .u8 32 _) rfl ρ' ρ).2.1 _ hw
    | false =>
      obtain ⟨r, h3, h4, h5⟩ := mv_some (rbytes_f x y)
      refine ⟨_, hs false, _, hx, r, h3, by rw [h4, ho]; rfl, fun ρ' w hw => ?_⟩
      rw [rOdd_eq] at ho
      rw [encC_eq, ho]
      rw [h5] at hw
      exact (noPtr_R (t := .ints .u8 32 _) rfl ρ' ρ).2.1 _ hw
  · cases hm

/-! ### sum -/

def wiT (q : Qd) : T := .cons (nnA q.x) (.cons (nnA q.y) (.cons (nnA q.z) (.cons (nnA q.t) .nil)))
noncomputable def suA (p q : Qd) : F := fmul (fsub p.y p.x) (fsub q.y q.x)
noncomputable def suB (p q : Qd) : F := fmul (fadd p.y p.x) (fadd q.y q.x)
noncomputable def suC (p q : Qd) (k : F) : F := fmul (fmul p.t k) q.t
noncomputable def suZ (p q : Qd) : F := fadd (fmul p.z q.z) (fmul p.z q.z)
noncomputable def suQ (p q : Qd) (k : F) : Qd :=
  ⟨fmul (fsub (suB p q) (suA p q)) (fsub (suZ p q) (suC p q k)), fmul (fadd (suZ p q) (suC p q k)) (fadd (suB p q) (suA p q)), fmul (fsub (suZ p q) (suC p q k)) (fadd (suZ p q) (suC p q k)), fmul (fsub (suB p q) (suA p q)) (fadd (suB p q) (suA p q))⟩
theorem sum_mv (p q : Qd) (k : F) : mv (evFn Try.prog envR7 40 Try.f60) [wiT p, wiT q, nnA k] = some (true, wiT (suQ p q k)) := by kernel_rfl
noncomputable def sumM : PModel
  | [.cons (.abs (.nn x)) (.cons (.abs (.nn y)) (.cons (.abs (.nn z)) (.cons (.abs (.nn t)) .nil))), .cons (.abs (.nn x')) (.cons (.abs (.nn y')) (.cons (.abs (.nn z')) (.cons (.abs (.nn t')) .nil))), .abs (.nn k)] => some (true, wiT (suQ ⟨x, y, z, t⟩ ⟨x', y', z', t'⟩ k))
  | _ => none
theorem sum_ok : SoundM Try.prog 60 (pureModel sumM) := by
  refine (SoundM.of_ev envR7_ok mix (n := 40) (fn := Try.f60) (by kernel_rfl) (by kernel_rfl) (by kernel_rfl)).pure ?_
  intro args vc v h hvc
  unfold sumM at h
  split at h
  · rename_i x y z t x' y' z' t' k
    cases h
    obtain ⟨r, h3, h4, h5⟩ := mv_some (sum_mv ⟨x, y, z, t⟩ ⟨x', y', z', t'⟩ k)
    exact ⟨rfl, rfl, r, h3, h4, h5⟩
  · cases h

theorem suQ_is {p q : Qd} {A B : Pt} {k : F} (hp : p.is A) (hq : q.is B) (hk : k = d + d) : (suQ p q k).is (A.add B) := by
  unfold Qd.is suQ suA suB suC suZ at *
  simp only [fadd_eq, fsub_eq, fmul_eq]
  exact ext_add hp hq rfl rfl (by subst hk; generalize d = e; grobner) rfl rfl rfl rfl rfl

end Go.Proofs.Ytiolcdjnmnhcgaa
