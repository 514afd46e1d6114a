/- What awake owes. No condition. -/
import Derived.Test.YtiolcdjnmnhcgaaG4
namespace Go.Proofs.Ytiolcdjnmnhcgaa
open Go.AE Fardel
set_option maxRecDepth 100000

theorem encB : ∀ i, i < 32 → encP pB i = if i = 0 then 88 else 102 := by
  rw [encP_eq, pB_eq, oddF_eq]
  decide +kernel

theorem dY_one : dY one32 = 1 := by decide +kernel
theorem dY_ones : dY one32s = 1 := by decide +kernel
theorem dU_one : dU 1 = 0 := by
  unfold dU
  simp only [fsub_eq, fmul_eq, fone_eq]
  decide +kernel
theorem dI_one : dI 1 = true := by
  unfold dI
  rw [dU_one]
  exact rat_full (s := 0) (by grobner)
theorem one_dvd {x : F} (h : dV 1 * (x * x) = 0) : x = 0 := by
  have hv : dV 1 ≠ 0 := by
    unfold dV
    simp only [fadd_eq, fmul_eq, fone_eq, fd_eq]
    decide +kernel
  rcases mul_eq_zero h with h | h
  · exact absurd h hv
  · rcases mul_eq_zero h with h | h <;> exact h
theorem dX_one : dX 1 = 0 := by
  have h := rat_root (u := dU 1) (v := dV 1) dI_one
  rw [dU_one] at h
  unfold dX
  rw [dU_one]
  exact one_dvd h

theorem ok_one : dOk one32 = true := by
  have h1 : eqN 32 (bytesF 1) (low7 one32) = true := by decide +kernel
  have h2 : dO one32 = false := by decide +kernel
  unfold dOk
  rw [dY_one, dI_one, h1, h2]
  rfl
theorem ok_ones : dOk one32s = false := by
  have h2 : dO one32s = true := by decide +kernel
  unfold dOk
  rw [dY_ones, dX_one, h2, feq_eq, zeroR_eq]
  simp
theorem dec_one : decP one32 = .zero := by
  have h := dec_pt ok_one
  refine Pt.ext' ?_ ?_
  · rw [h.1]
    unfold decX
    rw [dY_one, dX_one, fneg_eq]
    unfold pickF
    split
    · show -(0 : F) = 0
      grobner
    · rfl
  · rw [h.2, dY_one]; rfl
theorem enc_zero : ∀ i, i < 32 → encP .zero i = one32 i := by
  rw [encP_eq, oddF_eq]
  decide +kernel

theorem eqN_of {n : Nat} {f g : Nat → Int} (h : ∀ i, i < n → f i = g i) : eqN n f g = true := by
  unfold eqN
  rw [List.all_eq_true]
  intro i hi
  simpa using h i (by simpa using hi)

theorem base_ne : pSame pB pZ = false := by
  cases h : pSame pB pZ with
  | false => rfl
  | true =>
    rw [pSame_iff, pB_eq, pZ_eq] at h
    have := congrArg Pt.x h
    exact absurd this (by show ¬ bx = 0; decide +kernel)

theorem awL_ok : ∀ n, n < 32 → awL n = true
  | 0, _ => by
    unfold awL
    rw [decB_eq, decB_eq, ok_one, ok_ones]
    rfl
  | n + 1, h => by
    unfold awL
    rw [encB (n + 1) h, awL_ok n (by omega)]
    simp

theorem awF_ok : awF = true := by
  have hp : pSame (decP one32) pZ = true := by rw [pSame_iff, dec_one, pZ_eq]
  have he : eqN 32 (encP (decP one32)) one32 = true := by rw [dec_one]; exact eqN_of enc_zero
  unfold awF
  rw [encB 0 (by decide), hp, he, base_ne, awL_ok 31 (by decide)]
  rfl

noncomputable def awakeP : PModel
  | [] => some (true, .bool true)
  | _ => none

theorem awake_ok : SoundM Try.prog 12 (pureModel awakeP) := by
  refine (SoundM.of_ev envA_ok mix (n := ⟨1000000, [(26, false), (29, true), (13, true), (18, false), (40, true), (46, true), (51, false)]⟩) (fn := Try.f12) (by kernel_rfl) (by kernel_rfl) (by kernel_rfl)).pure ?_
  intro args vc v h hvc
  unfold awakeP at h
  split at h
  · cases h
    have h1 := awake_mv
    have h2 := awake_vc
    cases hm : mv (evFn Try.prog envA ⟨1000000, [(26, false), (29, true), (13, true), (18, false), (40, true), (46, true), (51, false)]⟩ Try.f12) [] with
    | none => rw [hm] at h1; cases h1
    | some r =>
      obtain ⟨c, t⟩ := r
      rw [hm] at h1 h2
      cases h1
      cases h2
      obtain ⟨r, h3, h4, h5⟩ := mv_some hm
      exact ⟨rfl, rfl, r, h3, h4.trans awF_ok, h5⟩
  · cases h

end Go.Proofs.Ytiolcdjnmnhcgaa
