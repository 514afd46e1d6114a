/- edwards: Bytes and Decode. No condition. -/
import Derived.Test.YtiolcdjnmnhcgaaFu
namespace Go.Proofs.Ytiolcdjnmnhcgaa
open Go.AE Fardel
set_option maxRecDepth 100000

def put31 (v : Int) (f : Nat → Int) : Nat → Int := fun j => bif Nat.beq j 31 then v else f j
theorem bytes_t (p : Pt) : mv (bytes_sy true) [ptA p] = some (((oddF p.x == true) && true) && true, .ints .u8 32 (put31 (bits .or .u8 (bytesF p.y 31) 128) (bytesF p.y))) := by kernel_rfl

noncomputable def encP (p : Pt) : Nat → Int := hid (fun (p : Pt) => bif oddF p.x then put31 (bits .or .u8 (bytesF p.y 31) 128) (bytesF p.y) else bytesF p.y) p
theorem encP_eq (p : Pt) : encP p = bif oddF p.x then put31 (bits .or .u8 (bytesF p.y 31) 128) (bytesF p.y) else bytesF p.y := by unfold encP; rw [hid_eq]

noncomputable def BytesP : PModel
  | [a] => match a with
    | .abs (.pt p) => some (true, .ints .u8 32 (encP p))
    | _ => none
  | _ => none

theorem PtBytes_ok : SoundM Try.prog 16 (pureModel BytesP) := by
  refine SoundM.refineX ?_
  intro args vc v hm hvc ρ xs hargs
  unfold BytesP at hm
  split at hm
  · split at hm
    · rename_i p
      cases hm
      have hx : VLs (fun _ => none) [ptA p] xs := argsOK_VLs rfl hargs
      cases hb : oddF p.x with
      | true =>
        obtain ⟨r, h1, h2, h3⟩ := mv_some (bytes_t p)
        refine ⟨_, bytes_sy_ok true, [ptA p], hx, r, h1, h2.trans (by rw [hb]; rfl), fun ρ' w hw => ?_⟩
        rw [h3] at hw
        rw [encP_eq, hb]
        exact ratio_fin rfl rfl hw
      | false =>
        obtain ⟨r, h1, h2, h3⟩ := mv_some (bytes_f p)
        refine ⟨_, bytes_sy_ok false, [ptA p], hx, r, h1, h2.trans (by rw [hb]; rfl), fun ρ' w hw => ?_⟩
        rw [h3] at hw
        rw [encP_eq, hb]
        exact ratio_fin rfl rfl hw
    · cases hm
  · cases hm

/-! ### Decode -/

noncomputable def envD : Env := envH.set 16 (pureModel BytesP)
theorem envD_ok : EnvOK Try.prog envD := envH_ok.set PtBytes_ok

def low7 (f : Nat → Int) : Nat → Int := put31 (bits .and .u8 (f 31) 127) f
noncomputable def dY (f : Nat → Int) : F := toF (num32 (low7 f))
noncomputable def dU (y : F) : F := fsub (fmul y y) fone
noncomputable def dV (y : F) : F := fadd (fmul fd (fmul y y)) fone
noncomputable def dX (y : F) : F := ratR (dU y) (dV y)
noncomputable def dI (y : F) : Bool := ratB (dU y) (dV y)
def zT : T := .cons (.cons (feT ⟨0, 0, 0, 0, 0⟩) (.cons (feT ⟨0, 0, 0, 0, 0⟩) (.cons (feT ⟨0, 0, 0, 0, 0⟩) (.cons (feT ⟨0, 0, 0, 0, 0⟩) .nil)))) (.cons (.bool false) .nil)
def decNo : T := .tup (.cons zT (.cons (.bool false) .nil))
noncomputable def decYes (b : Bool) (y : F) : T := .tup (.cons (qT ⟨pickF b (fneg (dX y)) (dX y), y, fone, fmul (pickF b (fneg (dX y)) (dX y)) y⟩) (.cons (.bool true) .nil))

noncomputable def dec_sy (sy : List (Nat × Bool)) : Model := evFn Try.prog envD ⟨1000000, sy⟩ Try.f13
theorem dec_sy_ok (sy : List (Nat × Bool)) : SoundM Try.prog 13 (dec_sy sy) := SoundM.of_ev envD_ok mix (by kernel_rfl) (by kernel_rfl) (by kernel_rfl)

theorem dec_a (f : Nat → Int) : mv (dec_sy [(36, true)]) [.ints .u8 32 f] = some ((((!eqN 32 (bytesF (dY f)) (low7 f)) == true) && true) && ((bytesB 32 (low7 f) && true) && true), decNo) := by kernel_rfl
theorem dec_b (f : Nat → Int) : mv (dec_sy [(36, false), (31, false)]) [.ints .u8 32 f] = some ((((!eqN 32 (bytesF (dY f)) (low7 f)) == false) && true) && ((dI (dY f) == false && true) && ((bytesB 32 (low7 f) && true) && true)), decNo) := by kernel_rfl
theorem dec_c (f : Nat → Int) : mv (dec_sy [(36, false), (31, true), (11, false)]) [.ints .u8 32 f] = some ((((!eqN 32 (bytesF (dY f)) (low7 f)) == false) && true) && ((dI (dY f) == true && true) && ((bytesB 32 (low7 f) && true) && ((decide (f 31 ≥ 128) == false && true) && true))), decYes false (dY f)) := by kernel_rfl
theorem dec_d (f : Nat → Int) : mv (dec_sy [(36, false), (31, true), (11, true), (45, true)]) [.ints .u8 32 f] = some ((((!eqN 32 (bytesF (dY f)) (low7 f)) == false) && ((feq (dX (dY f)) zeroR == true || false) && true)) && ((dI (dY f) == true && true) && ((bytesB 32 (low7 f) && true) && ((decide (f 31 ≥ 128) == true && true) && true))), decNo) := by kernel_rfl
theorem dec_e (f : Nat → Int) : mv (dec_sy [(36, false), (31, true), (11, true), (45, false)]) [.ints .u8 32 f] = some ((((!eqN 32 (bytesF (dY f)) (low7 f)) == false) && ((feq (dX (dY f)) zeroR == false || false) && true)) && ((dI (dY f) == true && true) && ((bytesB 32 (low7 f) && true) && ((decide (f 31 ≥ 128) == true && true) && true))), decYes true (dY f)) := by kernel_rfl

end Go.Proofs.Ytiolcdjnmnhcgaa
