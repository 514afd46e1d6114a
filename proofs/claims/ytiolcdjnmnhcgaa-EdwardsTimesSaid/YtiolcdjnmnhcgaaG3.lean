/- edwards.Both and Mul on points. No condition. -/
import Derived.Test.YtiolcdjnmnhcgaaG2
namespace Go.Proofs.Ytiolcdjnmnhcgaa
open Go.AE Fardel
set_option maxRecDepth 100000

noncomputable def pBoth (f : Nat → Int) (p : Pt) (g : Nat → Int) (q : Pt) : Pt := hid (fun (f : Nat → Int) (p : Pt) (g : Nat → Int) (q : Pt) => (p.smul (hi f 256)).add (q.smul (hi g 256))) f p g q
theorem pBoth_eq (f : Nat → Int) (p : Pt) (g : Nat → Int) (q : Pt) : pBoth f p g q = (p.smul (hi f 256)).add (q.smul (hi g 256)) := by unfold pBoth; rw [hid_eq]

noncomputable def BothP : PModel
  | [.ints .u8 32 f, a, .ints .u8 32 g, b] => match asPt a, asPt b with
    | some p, some q => some (bytesB 32 f && bytesB 32 g, ptA (pBoth f p g q))
    | _, _ => none
  | _ => none

theorem Both_pt : SoundM Try.prog 25 (pureModel BothP) := by
  refine SoundM.refineX ?_
  intro args vc v hm hvc ρ xs hargs
  unfold BothP at hm
  split at hm
  · rename_i f a g b
    split at hm
    · rename_i p q hp hq
      cases hm
      simp only [Bool.and_eq_true] at hvc
      obtain ⟨v1, _, rfl, hx1, x', _, rfl, hx, v2, _, rfl, hx2, y', _, rfl, hy, rfl⟩ := hargs
      obtain ⟨s, c, hc, hs, hx'⟩ := asPt_v (ρ' := fun _ => none) hp hx
      obtain ⟨s', d, hd, hs', hy'⟩ := asPt_v (ρ' := fun _ => none) hq hy
      refine ⟨_, both_sound s s' c d hs hs' f g hvc.1 hvc.2, [.ints .u8 32 f, s, .ints .u8 32 g, s'], ⟨_, _, rfl, (noPtr_R rfl ρ _).2.1 _ hx1, _, _, rfl, hx', _, _, rfl, (noPtr_R rfl ρ _).2.1 _ hx2, _, _, rfl, hy', rfl⟩,
        ⟨true, qT (bothN c d f g 256), [], 0, 0⟩, ?_, rfl, fun ρ' w hw => ?_⟩
      · simp [pureModel]
      · rw [pBoth_eq]
        exact pt_abs (bothN_is hc hd f g 256) hw
    · cases hm
  · cases hm

noncomputable def envBo : Env := envD.set 25 (pureModel BothP)
theorem envBo_ok : EnvOK Try.prog envBo := envD_ok.set Both_pt

theorem mul_mvp (f : Nat → Int) (p : Pt) : (mv (evFn Try.prog envBo 1000000 Try.f23) [.ints .u8 32 f, ptA p]).map (·.2) = some (ptA (pBoth f p (fun _ => 0) pZ)) := by kernel_rfl
theorem mul_mvc (f : Nat → Int) (p : Pt) : (mv (evFn Try.prog envBo 1000000 Try.f23) [.ints .u8 32 f, ptA p]).map (·.1) = some (((bytesB 32 f && bytesB 32 fun _ => 0) && true) && true) := by kernel_rfl

noncomputable def pMul (f : Nat → Int) (p : Pt) : Pt := hid (fun (f : Nat → Int) (p : Pt) => p.smul (hi f 256)) f p
theorem pMul_eq (f : Nat → Int) (p : Pt) : pMul f p = p.smul (hi f 256) := by unfold pMul; rw [hid_eq]
theorem pBoth_mul (f : Nat → Int) (p : Pt) (g : Nat → Int) : pBoth f p g pZ = pMul f p := by
  rw [pBoth_eq, pMul_eq, pZ_eq, zero_smul, Pt.add_zero]

noncomputable def MulP : PModel
  | [.ints .u8 32 f, .abs (.pt p)] => some (bytesB 32 f, ptA (pMul f p))
  | _ => none

theorem MulP_ok : SoundM Try.prog 23 (pureModel MulP) := by
  refine (SoundM.of_ev envBo_ok mix (n := 1000000) (fn := Try.f23) (by kernel_rfl) (by kernel_rfl) (by kernel_rfl)).pure ?_
  intro args vc v h hvc
  unfold MulP at h
  split at h
  · rename_i f p
    cases h
    have h1 := mul_mvp f p
    have h2 := mul_mvc f p
    cases hm : mv (evFn Try.prog envBo 1000000 Try.f23) [.ints .u8 32 f, ptA p] with
    | none => rw [hm] at h1; cases h1
    | some r =>
      obtain ⟨c, t⟩ := r
      rw [hm] at h1 h2
      cases h1
      cases h2
      obtain ⟨r, h3, h4, h5⟩ := mv_some hm
      refine ⟨rfl, rfl, r, h3, ?_, ?_⟩
      · rw [h4, hvc]; rfl
      · rw [h5, pBoth_mul]
  · cases h

end Go.Proofs.Ytiolcdjnmnhcgaa
