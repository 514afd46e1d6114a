/- fardellaw07.EdwardsLittle: what it owes. No condition. -/
import Derived.Test.YtiolcdjnmnhcgaaH1
namespace Go.Proofs.Ytiolcdjnmnhcgaa
open Go.AE Fardel
set_option maxRecDepth 100000

noncomputable def envLit : Env := envA.set 12 (pureModel awakeP)
theorem envLit_ok : EnvOK Try.prog envLit := envA_ok.set awake_ok

def litSy (a b c : Bool) : List (Nat × Bool) := [(11, a), (14, b), (17, c), (30, true), (37, true), (43, true), (53, true)]
noncomputable def litM (a b c : Bool) : Model := evFn Try.prog envLit ⟨1000000, litSy a b c⟩ Try.f6
theorem litM_ok (a b c : Bool) : SoundM Try.prog 6 (litM a b c) := SoundM.of_ev envLit_ok mix (by kernel_rfl) (by kernel_rfl) (by kernel_rfl)

def four32 : Nat → Int := fun j => bif Nat.beq j 0 then 4 else 0
def zero32 : Nat → Int := fun _ => 0
def sign32 : Nat → Int := fun j => bif Nat.beq j 31 then 128 else 0
noncomputable def minus32 : Nat → Int := bytesF (fneg (toF (num32 one32)))

noncomputable def litVC (n : Int) (f : Nat → Int) : Bool :=
  (((decB f == true) || false) && (((pSame (pMul four32 (decP f)) pZ == true) || false) && (((eqN 32 (encP (decP f)) f == true) || false) && (((pSame (decP f) pZ == (n.tmod 4 == 2)) == true) && true))))

theorem lit0_v (n : Int) : (mv (litM false false false) [.int .u8 n]).map (·.2) = some (.bool true) := by kernel_rfl
theorem lit0_vc (n : Int) : (mv (litM false false false) [.int .u8 n]).map (·.1) = some (litVC n zero32 && (((n.tmod 4 == 3) == false && true) && (((n.tmod 4 == 2) == false && true) && (((n.tmod 4 == 1) == false && true) && true)))) := by kernel_rfl
theorem lit1_v (n : Int) : (mv (litM true false false) [.int .u8 n]).map (·.2) = some (.bool true) := by kernel_rfl
theorem lit1_vc (n : Int) : (mv (litM true false false) [.int .u8 n]).map (·.1) = some (litVC n sign32 && (((n.tmod 4 == 1) == true && true) && true)) := by kernel_rfl
theorem lit2_v (n : Int) : (mv (litM false true false) [.int .u8 n]).map (·.2) = some (.bool true) := by kernel_rfl
theorem lit2_vc (n : Int) : (mv (litM false true false) [.int .u8 n]).map (·.1) = some (litVC n one32 && (((n.tmod 4 == 2) == true && true) && (((n.tmod 4 == 1) == false && true) && true))) := by kernel_rfl
theorem lit3_v (n : Int) : (mv (litM false false true) [.int .u8 n]).map (·.2) = some (.bool true) := by kernel_rfl
theorem lit3_vc (n : Int) : (mv (litM false false true) [.int .u8 n]).map (·.1) = some (litVC n minus32 && ((bytesB 32 minus32 && true) && (((n.tmod 4 == 3) == true && true) && (((n.tmod 4 == 2) == false && true) && (((n.tmod 4 == 1) == false && true) && true))))) := by kernel_rfl

end Go.Proofs.Ytiolcdjnmnhcgaa
