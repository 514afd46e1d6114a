/- fardellaw07.awake. No condition. -/
import Derived.Test.YtiolcdjnmnhcgaaG3
namespace Go.Proofs.Ytiolcdjnmnhcgaa
open Go.AE Fardel
set_option maxRecDepth 100000

noncomputable def envA0 : Env := (envBo.set 23 (pureModel MulP)).set 13 (pureModel DecodeP)
theorem envA0_ok : EnvOK Try.prog envA0 := (envBo_ok.set MulP_ok).set Decode_ok
noncomputable def zeroP : PModel
  | [] => some (true, ptA pZ)
  | _ => none
theorem zero_mv : mv (evFn Try.prog env0 10 Try.f20) [] = some (true, zT) := by kernel_rfl
theorem zero_ok : SoundM Try.prog 20 (pureModel zeroP) := by
  refine (SoundM.of_ev (env0_ok _) mix (n := 10) (fn := Try.f20) (by kernel_rfl) (by kernel_rfl) (by kernel_rfl)).refine ?_
  intro args vc v hm hvc ρ xs hargs
  unfold zeroP at hm
  split at hm
  · cases hm
    obtain ⟨r, h1, h2, h3⟩ := mv_some zero_mv
    refine ⟨[], hargs, r, h1, h2, fun ρ' w hw => ?_⟩
    rw [h3] at hw
    rw [pZ_eq]
    exact zero_abs hw
  · cases hm

noncomputable def envA : Env := envA0.set 20 (pureModel zeroP)
theorem envA_ok : EnvOK Try.prog envA := envA0_ok.set zero_ok

theorem awake_mv : (mv (evFn Try.prog envA ⟨1000000, [(26, false), (29, true), (13, true), (18, false), (40, true), (46, true), (51, false)]⟩ Try.f12) []).map (·.2) = some (.bool true) := by kernel_rfl

def one32 : Nat → Int := fun j => bif Nat.beq j 0 then 1 else 0
def one32s : Nat → Int := fun j => bif Nat.beq j 31 then 128 else bif Nat.beq j 0 then 1 else 0
noncomputable def awL : Nat → Bool
  | 0 => (((decB one32s == false) && true) && (((decB one32 == true) && true) && true))
  | n + 1 => ((!(encP pB (n + 1) == 102)) == false && true) && awL n
noncomputable def awF : Bool := ((encP pB 0 == 88) == true && (((pSame (decP one32) pZ == true) || false) && (((eqN 32 (encP (decP one32)) one32 == true) || false) && (((pSame pB pZ == false) || false) && true)))) && awL 31

theorem awake_vc : (mv (evFn Try.prog envA ⟨1000000, [(26, false), (29, true), (13, true), (18, false), (40, true), (46, true), (51, false)]⟩ Try.f12) []).map (·.1) = some awF := by kernel_rfl

end Go.Proofs.Ytiolcdjnmnhcgaa
