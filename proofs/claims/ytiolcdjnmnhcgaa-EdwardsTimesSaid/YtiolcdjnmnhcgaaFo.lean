/- field.Neg, Square, small, squares, chain, Inv by the abstract evaluator. No condition. -/
import Derived.Test.YtiolcdjnmnhcgaaFn
namespace Go.Proofs.Ytiolcdjnmnhcgaa
open Go.AE Fardel
set_option maxRecDepth 100000

abbrev feA (v : F) : T := .abs (.fe v)

theorem asFe_abs {t : T} {vc : Bool} {v : F} {ρ ρ' : Rho} {x : Value} (h : asFe t = some (vc, v)) (hvc : vc = true) (hx : (R ρ t).v x) : (R ρ' (feA v)).v x := by
  obtain ⟨y, hy, hr⟩ := asFe_v (ρ' := fun _ => none) h hvc hx
  exact fe_abs hy hr

/-- Functions of numbers of the field. -/
def feArgs : List T → Option (Bool × List F)
  | [] => some (true, [])
  | t :: r => match asFe t, feArgs r with
    | some (c, v), some (c', vs) => some (c && c', v :: vs)
    | _, _ => none

def fF (op : List F → Option T) : PModel := fun args =>
  match feArgs args with
  | some (c, vs) => match op vs with
    | some t => some (c, t)
    | none => none
  | none => none

theorem feArgs_VLs {ρ ρ' : Rho} : ∀ {args : List T} {c : Bool} {vs : List F} {xs : List Value}, feArgs args = some (c, vs) → c = true → VLs ρ args xs → VLs ρ' (vs.map feA) xs
  | [], _, _, _, h, _, hx => by cases h; exact hx
  | t :: r, c, vs, xs, h, hc, hx => by
    simp only [feArgs] at h
    split at h
    · rename_i c1 v c2 vs2 h1 h2
      cases h
      simp only [Bool.and_eq_true] at hc
      obtain ⟨y, ys, rfl, hy, hys⟩ := hx
      exact ⟨y, ys, rfl, asFe_abs h1 hc.1 hy, feArgs_VLs h2 hc.2 hys⟩
    · cases h

theorem fF_ok {f : FuncId} {M : Model} {op : List F → Option T} (hs : SoundM Try.prog f M) (h : ∀ vs t, op vs = some t → noPtr t = true ∧ ∃ t', mv M (vs.map feA) = some (true, t') ∧ t' = t) : SoundM Try.prog f (pureModel (fF op)) := by
  refine hs.refine ?_
  intro args vc v hm hvc ρ xs hargs
  unfold fF at hm
  split at hm
  · rename_i c vs hc
    split at hm
    · rename_i t ht
      cases hm
      obtain ⟨hp, t', h1, rfl⟩ := h vs _ ht
      obtain ⟨r, h3, h4, h5⟩ := mv_some h1
      exact ⟨vs.map feA, feArgs_VLs hc hvc hargs, r, h3, h4, fun ρ' w hw => (noPtr_R hp ρ' ρ).2.1 _ (by rw [h5] at hw; exact hw)⟩
    · cases hm
  · cases hm

def op1 (f : F → F) : List F → Option T
  | [v] => some (feA (f v))
  | _ => none
def op2 (f : F → F → F) : List F → Option T
  | [v, u] => some (feA (f v u))
  | _ => none

noncomputable def envF : Env := (((env0.set 43 (pureModel (bin2 fadd))).set 41 (pureModel (bin2 fsub))).set 44 (pureModel (bin2 fmul)))
theorem envF_ok : EnvOK Try.prog envF := (((env0_ok _).set Add_ok).set Sub_ok).set Mul_ok

theorem neg_mv (v : F) : mv (evFn Try.prog envF 10 Try.f28) [feA v] = some (true, feA (fsub (toF (Fe.sum ⟨0, 0, 0, 0, 0⟩)) v)) := by kernel_rfl
theorem sum0 : toF (Fe.sum ⟨0, 0, 0, 0, 0⟩) = 0 := by decide +kernel

theorem Neg_ok : SoundM Try.prog 28 (pureModel (fF (op1 fneg))) := by
  refine fF_ok (SoundM.of_ev envF_ok mix (n := 10) (fn := Try.f28) (by kernel_rfl) (by kernel_rfl) (by kernel_rfl)) ?_
  intro vs t h
  unfold op1 at h
  split at h
  · cases h
    refine ⟨rfl, _, neg_mv _, ?_⟩
    rw [sum0, fsub_eq, fneg_eq]
    congr 2
    all_goals grind
  · cases h

theorem square_mv (v : F) : mv (evFn Try.prog envF 10 Try.f39) [feA v] = some (true, feA (fmul v v)) := by kernel_rfl
theorem Square_ok : SoundM Try.prog 39 (pureModel (fF (op1 fun v => fmul v v))) := by
  refine fF_ok (SoundM.of_ev envF_ok mix (n := 10) (fn := Try.f39) (by kernel_rfl) (by kernel_rfl) (by kernel_rfl)) ?_
  intro vs t h
  unfold op1 at h
  split at h
  · cases h
    exact ⟨rfl, _, square_mv _, rfl⟩
  · cases h

noncomputable def envQ : Env := (envF.set 28 (pureModel (fF (op1 fneg)))).set 39 (pureModel (fF (op1 fun v => fmul v v)))
theorem envQ_ok : EnvOK Try.prog envQ := (envF_ok.set Neg_ok).set Square_ok

noncomputable def squaresM : Model := evFn Try.prog envQ 200 Try.f73
theorem squaresM_ok : SoundM Try.prog 73 squaresM := SoundM.of_ev envQ_ok mix (by kernel_rfl) (by kernel_rfl) (by kernel_rfl)

noncomputable def sqN : Nat → F → F
  | 0, v => v
  | n + 1, v => sqN n (fmul v v)

theorem sq_mv1 (v : F) : mv squaresM [feA v, .int .i64 1] = some (true, feA (sqN 1 v)) := by kernel_rfl
theorem sq_mv2 (v : F) : mv squaresM [feA v, .int .i64 2] = some (true, feA (sqN 2 v)) := by kernel_rfl
theorem sq_mv5 (v : F) : mv squaresM [feA v, .int .i64 5] = some (true, feA (sqN 5 v)) := by kernel_rfl
theorem sq_mv10 (v : F) : mv squaresM [feA v, .int .i64 10] = some (true, feA (sqN 10 v)) := by kernel_rfl
theorem sq_mv20 (v : F) : mv squaresM [feA v, .int .i64 20] = some (true, feA (sqN 20 v)) := by kernel_rfl
theorem sq_mv50 (v : F) : mv squaresM [feA v, .int .i64 50] = some (true, feA (sqN 50 v)) := by kernel_rfl
theorem sq_mv100 (v : F) : mv squaresM [feA v, .int .i64 100] = some (true, feA (sqN 100 v)) := by kernel_rfl

theorem sqN_pow : ∀ (n : Nat) (v : F), sqN n v = v ^ (2 ^ n)
  | 0, v => by simp [sqN]; grind
  | n + 1, v => by
    rw [sqN, sqN_pow n]
    rw [fmul_eq]
    apply Fin.ext
    rw [pow_val, pow_val, Fin.val_mul, ← Nat.pow_mod, ← Nat.pow_two, ← Nat.pow_mul, Nat.pow_succ, Nat.mul_comm]

def someN (n : Int) : Bool := n == 1 || n == 2 || n == 5 || n == 10 || n == 20 || n == 50 || n == 100

noncomputable def squaresP : PModel
  | [t, .int .i64 n] => match asFe t with
    | some (c, v) => bif someN n then some (c, feA (fpow v (2 ^ n.toNat))) else none
    | none => none
  | _ => none

theorem squares_ok : SoundM Try.prog 73 (pureModel squaresP) := by
  refine squaresM_ok.refine ?_
  intro args vc v hm hvc ρ xs hargs
  unfold squaresP at hm
  split at hm
  · rename_i t n
    split at hm
    · rename_i c u hc
      cases hs : someN n with
      | false => rw [hs] at hm; cases hm
      | true =>
        rw [hs] at hm
        cases hm
        obtain ⟨x', _, rfl, hx, y', _, rfl, hy, rfl⟩ := hargs
        have key : ∀ k : Nat, n = k → mv squaresM [feA u, .int .i64 n] = some (true, feA (sqN k u)) → ∃ args2, VLs (fun _ => none) args2 [x', y'] ∧ ∃ r, squaresM args2 [] = some r ∧ r.vc = true ∧ ∀ ρ' x, (R ρ' r.v).v x → (R ρ (feA (fpow u (2 ^ n.toNat)))).v x := by
          intro k hk h
          obtain ⟨r, h3, h4, h5⟩ := mv_some h
          refine ⟨[feA u, .int .i64 n], ⟨x', _, rfl, asFe_abs hc hvc hx, y', _, rfl, hy, rfl⟩, r, h3, h4, fun ρ' w hw => ?_⟩
          rw [h5, sqN_pow, ← fpow_eq] at hw
          subst hk
          exact hw
        simp only [someN, Bool.or_eq_true, beq_iff_eq] at hs
        rcases hs with (((((rfl | rfl) | rfl) | rfl) | rfl) | rfl) | rfl
        · exact key 1 rfl (sq_mv1 u)
        · exact key 2 rfl (sq_mv2 u)
        · exact key 5 rfl (sq_mv5 u)
        · exact key 10 rfl (sq_mv10 u)
        · exact key 20 rfl (sq_mv20 u)
        · exact key 50 rfl (sq_mv50 u)
        · exact key 100 rfl (sq_mv100 u)
    · cases hm
  · cases hm

noncomputable def envS : Env := envQ.set 73 (pureModel squaresP)
theorem envS_ok : EnvOK Try.prog envS := envQ_ok.set squares_ok

noncomputable def chn (v : F) : F × F :=
  let two := fmul v v
  let nine := fmul (fpow two (2 ^ 2)) v
  let eleven := fmul nine two
  let a := fmul (fmul eleven eleven) nine
  let b := fmul (fpow a (2 ^ 5)) a
  let c := fmul (fpow b (2 ^ 10)) b
  let d := fmul (fpow c (2 ^ 20)) c
  let e := fmul (fpow d (2 ^ 10)) b
  let f := fmul (fpow e (2 ^ 50)) e
  let g := fmul (fpow f (2 ^ 100)) f
  (fmul (fpow g (2 ^ 50)) e, eleven)

theorem chain_mv (v : F) : mv (evFn Try.prog envS 10 Try.f72) [feA v] = some (true, .tup (.cons (feA (chn v).1) (.cons (feA (chn v).2) .nil))) := by kernel_rfl

end Go.Proofs.Ytiolcdjnmnhcgaa
