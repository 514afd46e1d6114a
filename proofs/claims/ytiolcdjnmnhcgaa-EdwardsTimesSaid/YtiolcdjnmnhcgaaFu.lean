/- edwards: places, bytes, the base point, sameness. No condition. -/
import Derived.Test.YtiolcdjnmnhcgaaFt
namespace Go.Proofs.Ytiolcdjnmnhcgaa
open Go.AE Fardel
set_option maxRecDepth 100000

noncomputable def envG : Env := (((envE.set 27 (pureModel AddP)).set 31 (pureModel NegP)).set 15 (evFn Try.prog envE 10 Try.f15)).set 33 (evFn Try.prog envE 40 Try.f33)
theorem PlacesM_ok : SoundM Try.prog 15 (evFn Try.prog envE 10 Try.f15) := SoundM.of_ev envE_ok mix (by kernel_rfl) (by kernel_rfl) (by kernel_rfl)
theorem BaseM_ok : SoundM Try.prog 33 (evFn Try.prog envE 40 Try.f33) := SoundM.of_ev envE_ok mix (by kernel_rfl) (by kernel_rfl) (by kernel_rfl)
theorem envG_ok : EnvOK Try.prog envG := (((envE_ok.set Add_pt).set Neg_pt).set PlacesM_ok).set BaseM_ok

def plT (x y : F) : T := .tup (.cons (feA x) (.cons (feA y) .nil))
noncomputable def plQ (q : Qd) : T := plT (fmul q.x (finv q.z)) (fmul q.y (finv q.z))

theorem places_q (q : Qd) : mv (evFn Try.prog envE 10 Try.f15) [qT q] = some (true, plQ q) := by kernel_rfl
theorem places_u : mv (evFn Try.prog envE 10 Try.f15) [uT] = some (true, plQ zQ) := by kernel_rfl

theorem plQ_is {q : Qd} {p : Pt} (h : q.is p) : plQ q = plT p.x p.y := by
  unfold plQ
  simp only [fmul_eq, finv_eq]
  rw [(ext_places h).1, (ext_places h).2]

noncomputable def PlacesP : PModel
  | [a] => match asPt a with
    | some p => some (true, plT p.x p.y)
    | none => none
  | _ => none

theorem Places_pt : SoundM Try.prog 15 (pureModel PlacesP) := by
  refine PlacesM_ok.refine ?_
  intro args vc v hm hvc ρ xs hargs
  unfold PlacesP at hm
  split at hm
  · split at hm
    · rename_i p hp
      cases hm
      obtain ⟨x', _, rfl, hx, rfl⟩ := hargs
      obtain ⟨s, a, ha, hs, hx'⟩ := asPt_v (ρ' := fun _ => none) hp hx
      have key : mv (evFn Try.prog envE 10 Try.f15) [s] = some (true, plQ a) := by
        rcases hs with rfl | ⟨rfl, rfl⟩
        · exact places_q a
        · exact places_u
      obtain ⟨r, h1, h2, h3⟩ := mv_some key
      refine ⟨[s], ⟨_, _, rfl, hx', rfl⟩, r, h1, h2, fun ρ' w hw => ?_⟩
      rw [h3, plQ_is ha] at hw
      exact ratio_fin rfl rfl hw
    · cases hm
  · cases hm

theorem base_mv : mv (evFn Try.prog envE 40 Try.f33) [] = some (true, qT ⟨toF 15112221349535400772501151409588531511454012693041857206046113283949847762202, toF 46316835694926478169428394003475163141307993866256225615783033603165251855960, fone, fmul (toF 15112221349535400772501151409588531511454012693041857206046113283949847762202) (toF 46316835694926478169428394003475163141307993866256225615783033603165251855960)⟩) := by kernel_rfl

noncomputable def pB : Pt := hid Pt.base
theorem pB_eq : pB = .base := hid_eq _
noncomputable def BaseP : PModel
  | [] => some (true, ptA pB)
  | _ => none

theorem toF_bx : toF 15112221349535400772501151409588531511454012693041857206046113283949847762202 = bx := by decide +kernel
theorem toF_by : toF 46316835694926478169428394003475163141307993866256225615783033603165251855960 = by' := by decide +kernel

theorem Base_pt : SoundM Try.prog 33 (pureModel BaseP) := by
  refine BaseM_ok.refine ?_
  intro args vc v hm hvc ρ xs hargs
  unfold BaseP at hm
  split at hm
  · cases hm
    obtain ⟨r, h1, h2, h3⟩ := mv_some base_mv
    refine ⟨[], hargs, r, h1, h2, fun ρ' w hw => ?_⟩
    rw [h3] at hw
    rw [pB_eq]
    refine pt_abs ?_ hw
    unfold Qd.is
    simp only [fone_eq, fmul_eq, toF_bx, toF_by]
    exact ext_of .base
  · cases hm

theorem same_qq1 (p q : Qd) : mv (evFn Try.prog envE ⟨10, [(24, true)]⟩ Try.f19) [qT p, qT q] = some (((feq (fmul p.x q.z) (fmul q.x p.z) == true) && true) && true, .bool (feq (fmul p.y q.z) (fmul q.y p.z))) := by kernel_rfl
theorem same_qu1 (p : Qd) : mv (evFn Try.prog envE ⟨10, [(24, true)]⟩ Try.f19) [qT p, uT] = some (((feq (fmul p.x zQ.z) (fmul zQ.x p.z) == true) && true) && true, .bool (feq (fmul p.y zQ.z) (fmul zQ.y p.z))) := by kernel_rfl
theorem same_uq1 (q : Qd) : mv (evFn Try.prog envE ⟨10, [(24, true)]⟩ Try.f19) [uT, qT q] = some (((feq (fmul zQ.x q.z) (fmul q.x zQ.z) == true) && true) && true, .bool (feq (fmul zQ.y q.z) (fmul q.y zQ.z))) := by kernel_rfl
theorem same_uu1 : mv (evFn Try.prog envE ⟨10, [(24, true)]⟩ Try.f19) [uT, uT] = some (((feq (fmul zQ.x zQ.z) (fmul zQ.x zQ.z) == true) && true) && true, .bool (feq (fmul zQ.y zQ.z) (fmul zQ.y zQ.z))) := by kernel_rfl
theorem same_qq0 (p q : Qd) : mv (evFn Try.prog envE ⟨10, [(24, false)]⟩ Try.f19) [qT p, qT q] = some (((feq (fmul p.x q.z) (fmul q.x p.z) == false) && true) && true, .bool false) := by kernel_rfl
theorem same_qu0 (p : Qd) : mv (evFn Try.prog envE ⟨10, [(24, false)]⟩ Try.f19) [qT p, uT] = some (((feq (fmul p.x zQ.z) (fmul zQ.x p.z) == false) && true) && true, .bool false) := by kernel_rfl
theorem same_uq0 (q : Qd) : mv (evFn Try.prog envE ⟨10, [(24, false)]⟩ Try.f19) [uT, qT q] = some (((feq (fmul zQ.x q.z) (fmul q.x zQ.z) == false) && true) && true, .bool false) := by kernel_rfl
theorem same_uu0 : mv (evFn Try.prog envE ⟨10, [(24, false)]⟩ Try.f19) [uT, uT] = some (((feq (fmul zQ.x zQ.z) (fmul zQ.x zQ.z) == false) && true) && true, .bool false) := by kernel_rfl

theorem same_key {s s' : T} {p q : Qd} (hs : s = qT p ∨ (s = uT ∧ p = zQ)) (hs' : s' = qT q ∨ (s' = uT ∧ q = zQ)) :
    ∃ b vc, mv (evFn Try.prog envE ⟨10, [(24, b)]⟩ Try.f19) [s, s'] = some (vc, .bool (smQ p q)) ∧ vc = true := by
  cases hb : feq (fmul p.x q.z) (fmul q.x p.z) with
  | true =>
    refine ⟨true, (((feq (fmul p.x q.z) (fmul q.x p.z) == true) && true) && true), ?_, by rw [hb]; rfl⟩
    have e : smQ p q = feq (fmul p.y q.z) (fmul q.y p.z) := by unfold smQ; rw [hb]; rfl
    rw [e]
    rcases hs with rfl | ⟨rfl, rfl⟩ <;> rcases hs' with rfl | ⟨rfl, rfl⟩
    · exact same_qq1 p q
    · exact same_qu1 p
    · exact same_uq1 q
    · exact same_uu1
  | false =>
    refine ⟨false, (((feq (fmul p.x q.z) (fmul q.x p.z) == false) && true) && true), ?_, by rw [hb]; rfl⟩
    have e : smQ p q = false := by unfold smQ; rw [hb]; rfl
    rw [e]
    rcases hs with rfl | ⟨rfl, rfl⟩ <;> rcases hs' with rfl | ⟨rfl, rfl⟩
    · exact same_qq0 p q
    · exact same_qu0 p
    · exact same_uq0 q
    · exact same_uu0

noncomputable def SameP : PModel
  | [a, b] => match asPt a, asPt b with
    | some p, some q => some (true, .bool (pSame p q))
    | _, _ => none
  | _ => none

theorem Same_pt : SoundM Try.prog 19 (pureModel SameP) := by
  refine SoundM.refineX ?_
  intro args vc v hm hvc ρ xs hargs
  unfold SameP at hm
  split at hm
  · split at hm
    · rename_i p q hp hq
      cases hm
      obtain ⟨x', _, rfl, hx, y', _, rfl, hy, rfl⟩ := hargs
      obtain ⟨s, a, ha, hs, hx'⟩ := asPt_v (ρ' := fun _ => none) hp hx
      obtain ⟨s', b, hb, hs', hy'⟩ := asPt_v (ρ' := fun _ => none) hq hy
      obtain ⟨t, vc, key, hv⟩ := same_key hs hs'
      obtain ⟨r, h1, h2, h3⟩ := mv_some key
      refine ⟨_, SameM_ok t, [s, s'], ⟨_, _, rfl, hx', _, _, rfl, hy', rfl⟩, r, h1, h2.trans hv, fun ρ' w hw => ?_⟩
      rw [h3, smQ_is ha hb] at hw
      exact hw
    · cases hm
  · cases hm

noncomputable def envH : Env := (((envE.set 27 (pureModel AddP)).set 31 (pureModel NegP)).set 15 (pureModel PlacesP)).set 33 (pureModel BaseP) |>.set 19 (pureModel SameP)
theorem envH_ok : EnvOK Try.prog envH := ((((envE_ok.set Add_pt).set Neg_pt).set Places_pt).set Base_pt).set Same_pt

/-! ### Bytes -/

noncomputable def bytes_sy (b : Bool) : Model := evFn Try.prog envH ⟨10, [(14, b)]⟩ Try.f16
theorem bytes_sy_ok (b : Bool) : SoundM Try.prog 16 (bytes_sy b) := SoundM.of_ev envH_ok mix (by kernel_rfl) (by kernel_rfl) (by kernel_rfl)
theorem bytes_f (p : Pt) : mv (bytes_sy false) [ptA p] = some (((oddF p.x == false) && true) && true, .ints .u8 32 (bytesF p.y)) := by kernel_rfl

end Go.Proofs.Ytiolcdjnmnhcgaa
