/- fardellaw07.EdwardsLittle: always true. No condition. -/
import Derived.Test.YtiolcdjnmnhcgaaI1
namespace Go.Proofs.Ytiolcdjnmnhcgaa
open Go.AE Fardel
set_option maxRecDepth 100000

theorem dbl_x0 {p : Pt} (h : p.x * p.y = 0) : (p.add p).x = 0 := by
  show sx _ _ _ _ = 0
  unfold sx
  generalize inv _ = u
  generalize p.x = x at *
  generalize p.y = y at *
  grobner

theorem dbl_zero {q : Pt} (h : q.x = 0) : q.add q = .zero := by
  have ho := q.on
  unfold On at ho
  apply Pt.ext'
  · exact dbl_x0 (by rw [h]; grobner)
  · show sy _ _ _ _ = 1
    unfold sy
    generalize q.y = y at *
    generalize q.x = x at *
    have e : (1 : F) - d * (x * x * (y * y)) = 1 := by generalize d = k at *; grobner
    rw [e, inv_one]
    clear e
    generalize d = k at *
    grobner

theorem quad_zero {p : Pt} (h : p.x * p.y = 0) : p.smul 4 = .zero := by
  have e := smul_mul 2 p 2
  rw [show 2 * 2 = 4 from rfl] at e
  rw [e, smul_two, smul_two]
  exact dbl_zero (dbl_x0 h)

theorem hi_four : hi four32 256 = 4 := by decide +kernel

def q0 : Pt := ⟨i, 0, by unfold On; decide +kernel⟩
def q1 : Pt := ⟨-i, 0, by unfold On; decide +kernel⟩
def q3 : Pt := ⟨0, -1, by unfold On; decide +kernel⟩
theorem enc_q0 : ∀ j, j < 32 → encP q0 j = zero32 j := by rw [encP_eq, oddF_eq]; decide +kernel
theorem enc_q1 : ∀ j, j < 32 → encP q1 j = sign32 j := by rw [encP_eq, oddF_eq]; decide +kernel
theorem enc_q3 : ∀ j, j < 32 → encP q3 j = minus32 j := by unfold minus32; rw [encP_eq, oddF_eq, fneg_eq]; decide +kernel

theorem lit_pt {p : Pt} {f : Nat → Int} {n : Int} (h : ∀ j, j < 32 → encP p j = f j) (hz : p.x * p.y = 0) (hn : p = .zero ↔ n.tmod 4 = 2) : litVC n f = true := by
  have hd := dec_enc p
  have hp : decP f = p := by rw [← hd.2]; exact (decP_congr h).symm
  have hb : decB f = true := by rw [decB_eq, ← dOk_congr h]; exact hd.1
  have hs : pSame p pZ = (n.tmod 4 == 2) := by
    rw [Bool.eq_iff_iff, pSame_iff, pZ_eq, beq_iff_eq, hn]
  have h4 : pSame (pMul four32 p) pZ = true := by
    rw [pSame_iff, pMul_eq, hi_four, quad_zero hz, pZ_eq]
  have he : eqN 32 (encP p) f = true := eqN_of h
  unfold litVC
  rw [hp, hb, h4, he, hs]
  simp

theorem ne_zero_of {p : Pt} {a : Int} (h : p.x ≠ 0 ∨ p.y ≠ 1) (ha : a ≠ 2) : p = .zero ↔ a = 2 := by
  refine ⟨?_, fun e => absurd e ha⟩
  rintro rfl
  rcases h with h | h <;> exact absurd rfl h

def LittleP : PModel
  | [.int .u8 n] => some (decide (0 ≤ n ∧ n < 256), .bool true)
  | _ => none

theorem Little_ok : SoundM Try.prog 6 (pureModel LittleP) := by
  refine SoundM.refineX ?_
  intro args vc v hm hvc ρ xs hargs
  unfold LittleP at hm
  split at hm
  · rename_i n
    cases hm
    have hx : VLs (fun _ => none) [.int .u8 n] xs := argsOK_VLs rfl hargs
    rw [decide_eq_true_eq] at hvc
    have run : ∀ (a b c : Bool) {vc : Bool}, (mv (litM a b c) [.int .u8 n]).map (·.2) = some (.bool true) → (mv (litM a b c) [.int .u8 n]).map (·.1) = some vc → vc = true →
        ∃ M, SoundM Try.prog 6 M ∧ ∃ args2, VLs (fun _ => none) args2 xs ∧ ∃ r, M args2 [] = some r ∧ r.vc = true ∧ ∀ ρ' x, (R ρ' r.v).v x → (R ρ (.bool true)).v x := by
      intro a b c vc h1 h2 h3
      cases hm : mv (litM a b c) [.int .u8 n] with
      | none => rw [hm] at h1; cases h1
      | some r =>
        obtain ⟨k, t⟩ := r
        rw [hm] at h1 h2
        cases h1
        cases h2
        obtain ⟨r, h4, h5, h6⟩ := mv_some hm
        exact ⟨_, litM_ok a b c, _, hx, r, h4, h5.trans h3, fun ρ' w hw => by rw [h6] at hw; exact hw⟩
    have hr : n.tmod 4 = 0 ∨ n.tmod 4 = 1 ∨ n.tmod 4 = 2 ∨ n.tmod 4 = 3 := by
      rw [Int.tmod_eq_emod_of_nonneg hvc.1]; omega
    rcases hr with h | h | h | h
    · refine run _ _ _ (lit0_v n) (lit0_vc n) ?_
      rw [lit_pt enc_q0 (by show i * 0 = 0; generalize i = k; grobner) (ne_zero_of (.inr (by decide +kernel)) (by rw [h]; decide)), h]
      rfl
    · refine run _ _ _ (lit1_v n) (lit1_vc n) ?_
      rw [lit_pt enc_q1 (by show -i * 0 = 0; generalize i = k; grobner) (ne_zero_of (.inr (by decide +kernel)) (by rw [h]; decide)), h]
      rfl
    · refine run _ _ _ (lit2_v n) (lit2_vc n) ?_
      rw [lit_pt (p := .zero) enc_zero (by show (0 : F) * 1 = 0; decide +kernel) (iff_of_true rfl h), h]
      rfl
    · refine run _ _ _ (lit3_v n) (lit3_vc n) ?_
      rw [lit_pt enc_q3 (by show (0 : F) * -1 = 0; decide +kernel) (ne_zero_of (.inr (by decide +kernel)) (by rw [h]; decide)), h]
      have hb : bytesB 32 minus32 = true := bytesB_of fun j _ => bytesF_bd _ _
      rw [hb]
      rfl
  · cases hm

theorem Little_all {n : Int} (h : (Lit.int .u8 n).wf = true) : LittleP [.int .u8 n] = some (true, .bool true) := by
  have := u8_wf h
  show some (decide (0 ≤ n ∧ n < 256), T.bool true) = _
  rw [decide_eq_true this]

end Go.Proofs.Ytiolcdjnmnhcgaa
