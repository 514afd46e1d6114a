/- edwards: points, by the abstract evaluator. No condition. -/
import Derived.Test.YtiolcdjnmnhcgaaFr
namespace Go.Proofs.Ytiolcdjnmnhcgaa
open Go.AE Fardel
set_option maxRecDepth 100000

noncomputable def fone : F := hid (1 : F)
theorem fone_eq : fone = 1 := hid_eq _
noncomputable def fd : F := hid d
theorem fd_eq : fd = d := hid_eq _
theorem toF_one : toF 1 = 1 := by decide +kernel
theorem toF_d : toF 37095705934669439343138083508754565189542113879843219016388785533085940283555 = d := by decide +kernel
theorem zeroR_eq : zeroR = 0 := by decide +kernel

noncomputable def envS0 : Env := envR.set 40 (pureModel ratioM)
theorem envS0_ok : EnvOK Try.prog envS0 := envR_ok.set Ratio_ok

theorem one_mv : mv (evFn Try.prog envS0 40 Try.f42) [] = some (true, feA (toF 1)) := by kernel_rfl
theorem d_mv : mv (evFn Try.prog envS0 40 Try.f45) [] = some (true, feA (toF 37095705934669439343138083508754565189542113879843219016388785533085940283555)) := by kernel_rfl

noncomputable def op0 (v : F) : List F → Option T
  | [] => some (feA v)
  | _ => none

theorem one_ok : SoundM Try.prog 42 (pureModel (fF (op0 fone))) := by
  refine fF_ok (SoundM.of_ev envS0_ok mix (n := 40) (fn := Try.f42) (by kernel_rfl) (by kernel_rfl) (by kernel_rfl)) ?_
  intro vs t h
  unfold op0 at h
  split at h
  · cases h
    exact ⟨rfl, _, one_mv, by rw [toF_one, fone_eq]⟩
  · cases h

theorem d_ok : SoundM Try.prog 45 (pureModel (fF (op0 fd))) := by
  refine fF_ok (SoundM.of_ev envS0_ok mix (n := 40) (fn := Try.f45) (by kernel_rfl) (by kernel_rfl) (by kernel_rfl)) ?_
  intro vs t h
  unfold op0 at h
  split at h
  · cases h
    exact ⟨rfl, _, d_mv, by rw [toF_d, fd_eq]⟩
  · cases h

noncomputable def envE0 : Env := (envS0.set 42 (pureModel (fF (op0 fone)))).set 45 (pureModel (fF (op0 fd)))
theorem envE0_ok : EnvOK Try.prog envE0 := (envS0_ok.set one_ok).set d_ok

noncomputable def wholeM : Model := evFn Try.prog envE0 10 Try.f56
noncomputable def atM : Model := evFn Try.prog envE0 10 Try.f46
noncomputable def inverseM : Model := evFn Try.prog envE0 10 Try.f57
noncomputable def twiceM : Model := evFn Try.prog envE0 10 Try.f63
noncomputable def envE : Env := (((envE0.set 56 wholeM).set 46 atM).set 57 inverseM).set 63 twiceM
theorem twiceM_ok : SoundM Try.prog 63 twiceM := SoundM.of_ev envE0_ok mix (by kernel_rfl) (by kernel_rfl) (by kernel_rfl)
theorem envE_ok : EnvOK Try.prog envE := (((envE0_ok.set (SoundM.of_ev envE0_ok mix (by kernel_rfl) (by kernel_rfl) (by kernel_rfl))).set (SoundM.of_ev envE0_ok mix (by kernel_rfl) (by kernel_rfl) (by kernel_rfl))).set (SoundM.of_ev envE0_ok mix (by kernel_rfl) (by kernel_rfl) (by kernel_rfl))).set twiceM_ok

structure Qd where
  x : F
  y : F
  z : F
  t : F

def qT (a : Qd) : T := .cons (.cons (feA a.x) (.cons (feA a.y) (.cons (feA a.z) (.cons (feA a.t) .nil)))) (.cons (.bool true) .nil)
def a5 : T := .cons (.cons .any (.cons .any (.cons .any (.cons .any (.cons .any .nil))))) .nil
def uT : T := .cons (.cons a5 (.cons a5 (.cons a5 (.cons a5 .nil)))) (.cons (.bool false) .nil)
noncomputable def zQ : Qd := ⟨zeroR, fone, fone, zeroR⟩

noncomputable def adQ (p q : Qd) : Qd :=
  let a := fmul (fsub p.y p.x) (fsub q.y q.x)
  let b := fmul (fadd p.y p.x) (fadd q.y q.x)
  let c := fmul (fmul p.t q.t) (fadd fd fd)
  let zz := fadd (fmul p.z q.z) (fmul p.z q.z)
  let e := fsub b a
  let f := fsub zz c
  let g := fadd zz c
  let h := fadd b a
  ⟨fmul e f, fmul g h, fmul f g, fmul e h⟩
noncomputable def dbQ (p : Qd) : Qd :=
  let a := fmul p.x p.x
  let b := fmul p.y p.y
  let c := fmul p.z p.z
  let h := fadd a b
  let e := fsub h (fmul (fadd p.x p.y) (fadd p.x p.y))
  let g := fsub a b
  let f := fadd (fadd c c) g
  ⟨fmul e f, fmul g h, fmul f g, fmul e h⟩
noncomputable def ngQ (p : Qd) : Qd := ⟨fneg p.x, p.y, p.z, fneg p.t⟩
noncomputable def smQ (p q : Qd) : Bool := bif feq (fmul p.x q.z) (fmul q.x p.z) then feq (fmul p.y q.z) (fmul q.y p.z) else false

noncomputable def AddM : Model := evFn Try.prog envE 10 Try.f27
noncomputable def NegM : Model := evFn Try.prog envE 10 Try.f31
theorem AddM_ok : SoundM Try.prog 27 AddM := SoundM.of_ev envE_ok mix (by kernel_rfl) (by kernel_rfl) (by kernel_rfl)
theorem NegM_ok : SoundM Try.prog 31 NegM := SoundM.of_ev envE_ok mix (by kernel_rfl) (by kernel_rfl) (by kernel_rfl)
theorem SameM_ok (b : Bool) : SoundM Try.prog 19 (evFn Try.prog envE ⟨10, [(24, b)]⟩ Try.f19) := SoundM.of_ev envE_ok mix (by kernel_rfl) (by kernel_rfl) (by kernel_rfl)

theorem add_qq (p q : Qd) : mv AddM [qT p, qT q] = some (true, qT (adQ p q)) := by kernel_rfl
theorem add_qu (p : Qd) : mv AddM [qT p, uT] = some (true, qT (adQ p zQ)) := by kernel_rfl
theorem add_uq (q : Qd) : mv AddM [uT, qT q] = some (true, qT (adQ zQ q)) := by kernel_rfl
theorem add_uu : mv AddM [uT, uT] = some (true, qT (adQ zQ zQ)) := by kernel_rfl
theorem dbl_q (p : Qd) : mv twiceM [qT p] = some (true, qT (dbQ p)) := by kernel_rfl
theorem neg_q (p : Qd) : mv NegM [qT p] = some (true, qT (ngQ p)) := by kernel_rfl
theorem neg_u : mv NegM [uT] = some (true, qT (ngQ zQ)) := by kernel_rfl

end Go.Proofs.Ytiolcdjnmnhcgaa
