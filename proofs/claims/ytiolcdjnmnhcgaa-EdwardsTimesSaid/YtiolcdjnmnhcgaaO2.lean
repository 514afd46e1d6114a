/- fardellaw07.EdwardsTimes: always true. No condition. -/
import Derived.Test.YtiolcdjnmnhcgaaO1
import Derived.Test.YtiolcdjnmnhcgaaM1
namespace Go.Proofs.Ytiolcdjnmnhcgaa
open Go.AE Fardel
set_option maxRecDepth 100000

def no32 : Nat → Int := fun _ => 0
def on32 : Nat → Int := fun j => bif Nat.beq j 0 then 1 else 0
noncomputable def tmM : Model := evFn Try.prog envTm ⟨1000000, [(28, true), (38, true), (51, true), (58, true), (65, true)]⟩ Try.f11
theorem tmM_ok : SoundM Try.prog 11 tmM := SoundM.of_ev envTm_ok mix (by kernel_rfl) (by kernel_rfl) (by kernel_rfl)
theorem tm_v (a b : Nat → Int) : (mv tmM [.ints .u8 32 a, .ints .u8 32 b]).map (·.2) = some (.bool true) := by kernel_rfl
theorem tm_c (a b : Nat → Int) : (mv tmM [.ints .u8 32 a, .ints .u8 32 b]).map (·.1) = some (
    (((pSame (pMul ordF pB) pZ == true) || false) && (((pSame (pMul no32 (pMul a pB)) pZ == true) || false) && (((pSame (pMul on32 (pMul a pB)) (pMul a pB) == true) || false) && true))) &&
    (((bytesB 32 a && bytesB 32 b) && (bytesB 32 (maF a on32 b) && ((pSame (pAdd (pMul a pB) (pMul b pB)) (pMul (maF a on32 b) pB) == true) && true))) &&
    ((bytesB 32 b && ((bytesB 32 a && (bytesB 32 b && true)) && (bytesB 32 (maF a b no32) && ((pSame (pMul b (pMul a pB)) (pMul (maF a b no32) pB) == true) && true)))) &&
    ((bytesB 32 b && true) && ((bytesB 32 a && true) && true))))) := by kernel_rfl

theorem no32_hi : hi no32 256 = 0 := by decide +kernel
theorem no32_nat : natB 256 no32 32 = 0 := by decide +kernel
theorem on32_hi : hi on32 256 = 1 := by decide +kernel
theorem on32_nat : natB 256 on32 32 = 1 := by decide +kernel

theorem Times_run {a b : Nat → Int} (h0 : ∀ i, i < 32 → (Lit.int .u8 (a i)).wf = true) (h1 : ∀ i, i < 32 → (Lit.int .u8 (b i)).wf = true) :
    ∃ M, SoundM Try.prog 11 M ∧ ∃ r, M [.ints .u8 32 a, .ints .u8 32 b] [] = some r ∧ r.vc = true ∧ r.v = .bool true := by
  refine ⟨_, tmM_ok, mv_law (tm_v a b) (tm_c a b) ?_⟩
  have ha := u8_bytes h0
  have hb := u8_bytes h1
  have base : pB.smul L = .zero := by rw [pB_eq]; exact base_order
  have e1 : pMul ordF pB = pZ := by rw [pMul_eq, ordF_hi, base, pZ_eq]
  have e2 : pMul no32 (pMul a pB) = pZ := by rw [pMul_eq, no32_hi, smul_zero, pZ_eq]
  have e3 : pMul on32 (pMul a pB) = pMul a pB := by rw [pMul_eq on32, on32_hi, smul_one]
  have e4 : pMul (maF a on32 b) pB = pAdd (pMul a pB) (pMul b pB) := by
    rw [pMul_eq, maF_hi, maNum, smul_mod base, on32_nat, Nat.mul_one, natB_hi ha, natB_hi hb, smul_add, pAdd_eq, pMul_eq, pMul_eq]
  have e5 : pMul (maF a b no32) pB = pMul b (pMul a pB) := by
    rw [pMul_eq, maF_hi, maNum, smul_mod base, no32_nat, Nat.add_zero, natB_hi ha, natB_hi hb, smul_mul, pMul_eq, pMul_eq]
  rw [e1, e2, e3, e4, e5, same_self, same_self, same_self, same_self, ha, hb, maF_bytes, maF_bytes]
  rfl

end Go.Proofs.Ytiolcdjnmnhcgaa
