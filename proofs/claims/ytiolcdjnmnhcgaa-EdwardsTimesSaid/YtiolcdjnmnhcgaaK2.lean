/- fardelref07.Decode and Base by their models: Decode answers what edwards.Decode answers. No condition. -/
import Derived.Test.YtiolcdjnmnhcgaaK1
namespace Go.Proofs.Ytiolcdjnmnhcgaa
open Go.AE Fardel
set_option maxRecDepth 100000

noncomputable def envR8 : Env := ((((envR7.set 30 (pureModel (rp1M fun x y => some (true, .bool (onB x y))))).set 26 (pureModel (rp2M fun x y x' y' => some (true, rpT (hsx x y x' y') (hsy x y x' y'))))).set 32 (pureModel (rp1M fun x y => some (true, rpT (fneg x) y)))).set 24 (pureModel rBytesM)).set 60 (pureModel sumM)
theorem envR8_ok : EnvOK Try.prog envR8 := ((((envR7_ok.set rOn_ok).set rAdd_ok).set rNeg_ok).set rBytes_ok).set sum_ok

noncomputable def rdM (sy : List (Nat × Bool)) : Model := evFn Try.prog envR8 ⟨1000000, sy⟩ Try.f14
theorem rdM_ok (sy : List (Nat × Bool)) : SoundM Try.prog 14 (rdM sy) := SoundM.of_ev envR8_ok mix (by kernel_rfl) (by kernel_rfl) (by kernel_rfl)

def rLow (f : Nat → Int) : Nat → Int := put31 (bits .andNot .u8 (f 31) 128) f
def rY (f : Nat → Int) : F := toF (num32 (rLow f))
noncomputable def rU (y : F) : F := fsub (fmul y y) (nof 1)
noncomputable def rV (y : F) : F := fadd (fmul fd (fmul y y)) (nof 1)
noncomputable def rX (y : F) : F := ratR (rU y) (rV y)
noncomputable def rI (y : F) : Bool := ratB (rU y) (rV y)
noncomputable def rZ (y : F) : Bool := eqR (dg (rX y)) (dg (nof 0)) 16 0
noncomputable def rNo : T := .tup (.cons (rpT pZ.x pZ.y) (.cons (.bool false) .nil))
noncomputable def vL (f : Nat → Int) : Bool := ((bytesB 32 (rLow f) && true) && true)
noncomputable def vE (f : Nat → Int) (b : Bool) : Bool := (((!eqN 32 (bytesF (rY f)) (rLow f)) == b) && true) && vL f
noncomputable def vR (f : Nat → Int) : Bool := ((!feq (rV (rY f)) zeroR) && true) && vE f false

theorem rd_a (f : Nat → Int) : mv (rdM [(26, true)]) [.ints .u8 32 f] = some (vE f true, rNo) := by kernel_rfl
theorem rd_b (f : Nat → Int) : mv (rdM [(26, false), (50, true)]) [.ints .u8 32 f] = some ((((!rI (rY f)) == true) && true) && vR f, rNo) := by kernel_rfl
theorem rd_c (f : Nat → Int) : mv (rdM [(26, false), (50, false), (52, false), (57, true)]) [.ints .u8 32 f] =
    some (((dO f == true) && true) && ((((!rI (rY f)) == false) && (((rZ (rY f) == false) || false) && true)) && vR f), .tup (.cons (rpT (fsub (nof 0) (rX (rY f))) (rY f)) (.cons (.bool true) .nil))) := by kernel_rfl
theorem rd_d (f : Nat → Int) : mv (rdM [(26, false), (50, false), (52, false), (57, false)]) [.ints .u8 32 f] =
    some (((dO f == false) && true) && ((((!rI (rY f)) == false) && (((rZ (rY f) == false) || false) && true)) && vR f), .tup (.cons (rpT (rX (rY f)) (rY f)) (.cons (.bool true) .nil))) := by kernel_rfl
theorem rd_e (f : Nat → Int) : mv (rdM [(26, false), (50, false), (52, true), (53, true)]) [.ints .u8 32 f] =
    some ((((!rI (rY f)) == false) && (((rZ (rY f) == true) || false) && (((dO f == true) || false) && true))) && vR f, rNo) := by kernel_rfl
theorem rd_f (f : Nat → Int) : mv (rdM [(26, false), (50, false), (52, true), (53, false), (57, false)]) [.ints .u8 32 f] =
    some (((dO f == false) && true) && ((((!rI (rY f)) == false) && (((rZ (rY f) == true) || false) && (((dO f == false) || false) && true))) && vR f), .tup (.cons (rpT (rX (rY f)) (rY f)) (.cons (.bool true) .nil))) := by kernel_rfl

/-! ### Its law -/

theorem andNot_all : ∀ a : Fin 256, bits .andNot .u8 (a.val : Int) 128 = bits .and .u8 (a.val : Int) 127 := by decide +kernel
theorem rLow_eq {f : Nat → Int} (h : bytesB 32 f = true) : rLow f = low7 f := by
  have hb := bytesB_spec h 31 (by decide)
  have := andNot_all ⟨(f 31).toNat, by omega⟩
  simp only [show (((f 31).toNat : Nat) : Int) = f 31 by omega] at this
  unfold rLow low7
  rw [this]

theorem dV_ne' (y : F) : dV y ≠ 0 := by
  unfold dV
  simp only [fadd_eq, fmul_eq, fd_eq, fone_eq]
  intro hc
  have hy : y ≠ 0 := by
    rintro rfl
    have e : d * ((0 : F) * 0) = 0 := by decide +kernel
    rw [e] at hc
    exact absurd hc (by decide +kernel)
  have hs : i * i = d * (y * y) := by
    rw [i_sq]
    generalize d = k at *
    grobner
  exact d_nonsq2 hy hs

theorem rY_eq {f : Nat → Int} (h : bytesB 32 f = true) : rY f = dY f := by unfold rY dY; rw [rLow_eq h]
theorem rU_eq (y : F) : rU y = dU y := by unfold rU dU; rw [nof_one, fone_eq]
theorem rV_eq (y : F) : rV y = dV y := by unfold rV dV; rw [nof_one, fone_eq]
theorem rX_eq (y : F) : rX y = dX y := by unfold rX dX; rw [rU_eq, rV_eq]
theorem rI_eq (y : F) : rI y = dI y := by unfold rI dI; rw [rU_eq, rV_eq]
theorem rZ_eq (y : F) : rZ y = feq (dX y) zeroR := by
  have h : rZ y = eqD (rX y) (nof 0) := rfl
  rw [h, Bool.eq_iff_iff, eqD_iff, rX_eq, nof_zero, feq_eq, zeroR_eq, decide_eq_true_eq]

noncomputable def rDecodeM : PModel
  | [.ints .u8 32 f] => some (bytesB 32 f, .tup (.cons (rpT (decP f).x (decP f).y) (.cons (.bool (decB f)) .nil)))
  | _ => none

theorem rDecode_ok : SoundM Try.prog 14 (pureModel rDecodeM) := by
  refine SoundM.refineX ?_
  intro args vc v hm hvc ρ xs hargs
  unfold rDecodeM at hm
  split at hm
  · rename_i f
    cases hm
    have hx : VLs (fun _ => none) [.ints .u8 32 f] xs := argsOK_VLs rfl hargs
    have hlow := rLow_eq hvc
    have hy := rY_eq hvc
    have hvL : vL f = true := by unfold vL; rw [hlow, low7_bytes hvc]; rfl
    have hV : feq (rV (rY f)) zeroR = false := by
      rw [rV_eq, feq_eq, zeroR_eq, decide_eq_false_iff_not]
      exact dV_ne' _
    have run : ∀ {sy : List (Nat × Bool)} {vc : Bool} {t : T}, mv (rdM sy) [.ints .u8 32 f] = some (vc, t) → vc = true → (t = .tup (.cons (rpT (decP f).x (decP f).y) (.cons (.bool (decB f)) .nil))) →
        ∃ M, SoundM Try.prog 14 M ∧ ∃ args2, VLs (fun _ => none) args2 xs ∧ ∃ r, M args2 [] = some r ∧ r.vc = true ∧ ∀ ρ' x, (R ρ' r.v).v x → (R ρ (.tup (.cons (rpT (decP f).x (decP f).y) (.cons (.bool (decB f)) .nil)))).v x := by
      intro sy vc t h1 h2 h3
      obtain ⟨r, h4, h5, h6⟩ := mv_some h1
      exact ⟨_, rdM_ok sy, _, hx, r, h4, h5.trans h2, fun ρ' w hw => by rw [h6, h3] at hw; exact (noPtr_R rfl ρ' ρ).2.1 _ hw⟩
    have no : dOk f = false → rNo = .tup (.cons (rpT (decP f).x (decP f).y) (.cons (.bool (decB f)) .nil)) := by
      intro h
      unfold rNo
      rw [dec_zero h, decB_eq, h, pZ_eq]
    have yes : ∀ {x : F}, dOk f = true → x = decX f → (.tup (.cons (rpT x (rY f)) (.cons (.bool true) .nil)) : T) = .tup (.cons (rpT (decP f).x (decP f).y) (.cons (.bool (decB f)) .nil)) := by
      intro x h hx
      obtain ⟨h1, h2⟩ := dec_pt h
      rw [h1, h2, decB_eq, h, hx, hy]
    cases hq : eqN 32 (bytesF (dY f)) (low7 f) with
    | false => exact run (rd_a f) (by unfold vE; rw [hvL, hy, hlow, hq]; rfl) (no (by unfold dOk; rw [hq]; rfl))
    | true =>
      have hvE : vE f false = true := by unfold vE; rw [hvL, hy, hlow, hq]; rfl
      have hvR : vR f = true := by unfold vR; rw [hvE, hV]; rfl
      cases hi : dI (dY f) with
      | false => exact run (rd_b f) (by rw [hvR, hy, rI_eq, hi]; rfl) (no (by unfold dOk; rw [hq, hi]; rfl))
      | true =>
        cases hz : feq (dX (dY f)) zeroR with
        | true =>
          cases ho : dO f with
          | true => exact run (rd_e f) (by rw [hvR, hy, rI_eq, hi, rZ_eq, hz, ho]; rfl) (no (by unfold dOk; rw [hq, hi, hz, ho]; rfl))
          | false => exact run (rd_f f) (by rw [hvR, hy, rI_eq, hi, rZ_eq, hz, ho]; rfl) (yes (by unfold dOk; rw [hq, hi, hz, ho]; rfl) (by unfold decX pickF; rw [ho, rX_eq, hy]; rfl))
        | false =>
          cases ho : dO f with
          | true => exact run (rd_c f) (by rw [hvR, hy, rI_eq, hi, rZ_eq, hz, ho]; rfl) (yes (by unfold dOk; rw [hq, hi, hz, ho]; rfl) (by unfold decX pickF; rw [ho, rX_eq, hy, nof_neg, fneg_eq]; rfl))
          | false => exact run (rd_d f) (by rw [hvR, hy, rI_eq, hi, rZ_eq, hz, ho]; rfl) (yes (by unfold dOk; rw [hq, hi, hz, ho]; rfl) (by unfold decX pickF; rw [ho, rX_eq, hy]; rfl))
  · cases hm

/-! ### Base -/

noncomputable def envR9 : Env := envR8.set 14 (pureModel rDecodeM)
theorem envR9_ok : EnvOK Try.prog envR9 := envR8_ok.set rDecode_ok
noncomputable def baseY : F := fmul (nof 4) (finv (nof 5))
theorem rbase_v : (mv (evFn Try.prog envR9 1000000 Try.f34) []).map (·.2) = some (rpT (decP (bytesF baseY)).x (decP (bytesF baseY)).y) := by kernel_rfl
theorem rbase_vc : (mv (evFn Try.prog envR9 1000000 Try.f34) []).map (·.1) = some ((bytesB 32 (bytesF baseY) && true) && true) := by kernel_rfl

theorem baseY_eq : baseY = pB.y := by
  unfold baseY
  rw [fmul_eq, finv_eq, nof_eq, nof_eq, pB_eq]
  have h : (toF 5) * (Fin.ofNat P 11579208923731619542357098500868790785326998466564056403945758400791312963990) = 1 := by decide +kernel
  rw [inv_eq h]
  decide +kernel
theorem enc_base : ∀ j, j < 32 → encP pB j = bytesF pB.y j := by
  have ho : oddF pB.x = false := by rw [oddF_eq, pB_eq]; decide +kernel
  intro j _
  rw [encP_eq, ho]
  rfl
theorem dec_base : decP (bytesF baseY) = pB := by
  rw [baseY_eq, ← decP_congr enc_base]
  exact (dec_enc pB).2

noncomputable def rBaseM : PModel
  | [] => some (true, rpT pB.x pB.y)
  | _ => none
theorem rBase_ok : SoundM Try.prog 34 (pureModel rBaseM) := by
  refine (SoundM.of_ev envR9_ok mix (n := 1000000) (fn := Try.f34) (by kernel_rfl) (by kernel_rfl) (by kernel_rfl)).pure ?_
  intro args vc v h hvc
  unfold rBaseM at h
  split at h
  · cases h
    have h1 := rbase_v
    have h2 := rbase_vc
    cases hm : mv (evFn Try.prog envR9 1000000 Try.f34) [] with
    | none => rw [hm] at h1; cases h1
    | some r =>
      obtain ⟨c, t⟩ := r
      rw [hm] at h1 h2
      cases h1
      cases h2
      obtain ⟨r, h3, h4, h5⟩ := mv_some hm
      refine ⟨rfl, rfl, r, h3, ?_, ?_⟩
      · rw [h4, bytesB_of fun i _ => bytesF_bd _ i]; rfl
      · rw [h5, dec_base]; rfl
  · cases h

end Go.Proofs.Ytiolcdjnmnhcgaa
