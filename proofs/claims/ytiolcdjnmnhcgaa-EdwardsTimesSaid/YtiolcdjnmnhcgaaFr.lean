/- field.Ratio by the abstract evaluator. No condition. -/
import Derived.Test.YtiolcdjnmnhcgaaFq
namespace Go.Proofs.Ytiolcdjnmnhcgaa
open Go.AE Fardel
set_option maxRecDepth 100000

noncomputable def envR : Env := (((((envB.set 58 (pureModel (fF oddOp))).set 35 (pureModel (fF sameOp))).set 47 (pureModel PickM)).set 74 (evFn Try.prog env0 10 Try.f74)).set 82 (pureModel (fF (op1 finv)))).set 29 (pureModel LoadM)
theorem envR_ok : EnvOK Try.prog envR := (((((envB_ok.set Odd_ok).set Same_ok).set Pick_ok).set (SoundM.of_ev (env0_ok _) mix (by kernel_rfl) (by kernel_rfl) (by kernel_rfl))).set Inv_ok).set Load_ok

noncomputable def v3R (v : F) : F := fmul (fmul v v) v
noncomputable def kR (u v : F) : F := fmul u (fmul (fmul (v3R v) (v3R v)) v)
noncomputable def rR (u v : F) : F := fmul (fmul u (v3R v)) (fmul (fpow (fpow (kR u v) bigE) (2 ^ 2)) (kR u v))
noncomputable def twoR : F := toF (Fe.sum ⟨2, 0, 0, 0, 0⟩)
noncomputable def zeroR : F := toF (Fe.sum ⟨0, 0, 0, 0, 0⟩)
noncomputable def turnR : F := fmul (fpow (fmul (fpow (fpow twoR bigE) (2 ^ 2)) twoR) (2 ^ 1)) twoR
noncomputable def r2R (u v : F) : F := fmul (rR u v) turnR
noncomputable def chkR (v r : F) : F := fmul v (fmul r r)
noncomputable def zeroT5 : T := feT ⟨0, 0, 0, 0, 0⟩
noncomputable def okT (r : F) : T := .tup (.cons (feA (pickF (oddF r) (fneg r) r)) (.cons (.bool true) .nil))
noncomputable def noT : T := .tup (.cons zeroT5 (.cons (.bool false) .nil))

theorem ratio_ff (u v : F) : mv (evFn Try.prog envR ⟨10, [(48, false), (75, false)]⟩ Try.f40) [feA u, feA v] = some (((!feq (chkR v (rR u v)) u) == false && true) && ((feq (chkR v (rR u v)) (fneg u) == false && true) && true), okT (rR u v)) := by kernel_rfl
theorem ratio_ft (u v : F) : mv (evFn Try.prog envR ⟨10, [(48, false), (75, true)]⟩ Try.f40) [feA u, feA v] = some (((!feq (chkR v (rR u v)) u) == true && true) && ((feq (chkR v (rR u v)) (fneg u) == false && true) && true), noT) := by kernel_rfl
theorem ratio_tff (u v : F) : mv (evFn Try.prog envR ⟨10, [(48, true), (53, false), (75, false)]⟩ Try.f40) [feA u, feA v] = some (((!feq (chkR v (rR u v)) u) == false && true) && ((feq (chkR v (rR u v)) (fneg u) == true && ((!feq u zeroR) == false && true)) && true), okT (rR u v)) := by kernel_rfl
theorem ratio_tft (u v : F) : mv (evFn Try.prog envR ⟨10, [(48, true), (53, false), (75, true)]⟩ Try.f40) [feA u, feA v] = some (((!feq (chkR v (rR u v)) u) == true && true) && ((feq (chkR v (rR u v)) (fneg u) == true && ((!feq u zeroR) == false && true)) && true), noT) := by kernel_rfl
theorem ratio_ttf (u v : F) : mv (evFn Try.prog envR ⟨10, [(48, true), (53, true), (75, false)]⟩ Try.f40) [feA u, feA v] = some (((!feq (chkR v (r2R u v)) u) == false && true) && ((feq (chkR v (rR u v)) (fneg u) == true && ((!feq u zeroR) == true && true)) && true), okT (r2R u v)) := by kernel_rfl
theorem ratio_ttt (u v : F) : mv (evFn Try.prog envR ⟨10, [(48, true), (53, true), (75, true)]⟩ Try.f40) [feA u, feA v] = some (((!feq (chkR v (r2R u v)) u) == true && true) && ((feq (chkR v (rR u v)) (fneg u) == true && ((!feq u zeroR) == true && true)) && true), noT) := by kernel_rfl

noncomputable def rrF (u v : F) : F := bif feq (chkR v (rR u v)) (fneg u) && !feq u zeroR then r2R u v else rR u v
noncomputable def ratB (u v : F) : Bool := hid (fun u v => feq (chkR v (rrF u v)) u) u v
noncomputable def ratR (u v : F) : F := hid (fun u v => bif feq (chkR v (rrF u v)) u then pickF (oddF (rrF u v)) (fneg (rrF u v)) (rrF u v) else zeroR) u v
theorem ratB_eq (u v : F) : ratB u v = feq (chkR v (rrF u v)) u := by unfold ratB; rw [hid_eq]
theorem ratR_eq (u v : F) : ratR u v = bif feq (chkR v (rrF u v)) u then pickF (oddF (rrF u v)) (fneg (rrF u v)) (rrF u v) else zeroR := by unfold ratR; rw [hid_eq]

noncomputable def ratioM : PModel
  | [x, y] => match asFe x, asFe y with
    | some (c, u), some (c', v) => some (c && c', .tup (.cons (feA (ratR u v)) (.cons (.bool (ratB u v)) .nil)))
    | _, _ => none
  | _ => none

theorem ratio_fin {t t' : T} {ρ ρ' : Rho} {x : Value} (ht : noPtr t = true) (e : t = t') (h : (R ρ t).v x) : (R ρ' t').v x := by
  subst e
  exact (noPtr_R ht ρ ρ').2.1 _ h

theorem zeroT5_fe {ρ ρ' : Rho} {l : T} {x : Value} (hl : noPtr l = true) (h : (R ρ (.tup (.cons zeroT5 l))).v x) : (R ρ' (.tup (.cons (feA zeroR) l))).v x := by
  obtain ⟨cs, rfl, y, ys, hcs, hy, hys⟩ := h
  refine ⟨_, rfl, y, ys, hcs, fe_abs (y := ⟨0, 0, 0, 0, 0⟩) ⟨⟨by decide, by decide, by decide, by decide, by decide, by decide, by decide, by decide, by decide, by decide⟩, rfl⟩ hy, (noPtr_R hl ρ ρ').2.2 _ hys⟩

noncomputable def ratT (u v : F) : T := .tup (.cons (feA (ratR u v)) (.cons (.bool (ratB u v)) .nil))

theorem Ratio_of (sy : List (Nat × Bool)) : SoundM Try.prog 40 (evFn Try.prog envR ⟨10, sy⟩ Try.f40) :=
  SoundM.of_ev envR_ok mix (by kernel_rfl) (by kernel_rfl) (by kernel_rfl)

theorem ratio_yes {u v r : F} (hr : rrF u v = r) (hb : feq (chkR v r) u = true) : okT r = ratT u v := by
  unfold okT ratT
  rw [ratR_eq, ratB_eq, hr, hb]
  rfl
theorem ratio_no {u v r : F} (hr : rrF u v = r) (hb : feq (chkR v r) u = false) : T.tup (.cons (feA zeroR) (.cons (.bool false) .nil)) = ratT u v := by
  unfold ratT
  rw [ratR_eq, ratB_eq, hr, hb]
  rfl

theorem Ratio_is (u v : F) : ∃ M, SoundM Try.prog 40 M ∧ ∃ r, M [feA u, feA v] [] = some r ∧ r.vc = true ∧ ∀ ρ ρ' x, (R ρ' r.v).v x → (R ρ (ratT u v)).v x := by
  have yes : ∀ {sy : List (Nat × Bool)} {vc : Bool} {r : F}, rrF u v = r → feq (chkR v r) u = true → mv (evFn Try.prog envR ⟨10, sy⟩ Try.f40) [feA u, feA v] = some (vc, okT r) → vc = true →
      ∃ M, SoundM Try.prog 40 M ∧ ∃ r, M [feA u, feA v] [] = some r ∧ r.vc = true ∧ ∀ ρ ρ' x, (R ρ' r.v).v x → (R ρ (ratT u v)).v x := by
    intro sy vc r h1 h2 h3 h4
    obtain ⟨r', h5, h6, h7⟩ := mv_some h3
    refine ⟨_, Ratio_of sy, r', h5, h6.trans h4, fun ρ ρ' x h => ?_⟩
    rw [h7] at h
    exact ratio_fin rfl (ratio_yes h1 h2) h
  have no : ∀ {sy : List (Nat × Bool)} {vc : Bool} {r : F}, rrF u v = r → feq (chkR v r) u = false → mv (evFn Try.prog envR ⟨10, sy⟩ Try.f40) [feA u, feA v] = some (vc, noT) → vc = true →
      ∃ M, SoundM Try.prog 40 M ∧ ∃ r, M [feA u, feA v] [] = some r ∧ r.vc = true ∧ ∀ ρ ρ' x, (R ρ' r.v).v x → (R ρ (ratT u v)).v x := by
    intro sy vc r h1 h2 h3 h4
    obtain ⟨r', h5, h6, h7⟩ := mv_some h3
    refine ⟨_, Ratio_of sy, r', h5, h6.trans h4, fun ρ ρ' x h => ?_⟩
    rw [h7] at h
    rw [← ratio_no h1 h2]
    exact zeroT5_fe rfl h
  cases h1 : feq (chkR v (rR u v)) (fneg u) with
  | false =>
    have e : rrF u v = rR u v := by unfold rrF; rw [h1]; rfl
    cases h3 : feq (chkR v (rR u v)) u with
    | true => exact yes e h3 (ratio_ff u v) (by rw [h1, h3]; rfl)
    | false => exact no e h3 (ratio_ft u v) (by rw [h1, h3]; rfl)
  | true =>
    cases h2 : feq u zeroR with
    | true =>
      have e : rrF u v = rR u v := by unfold rrF; rw [h1, h2]; rfl
      cases h3 : feq (chkR v (rR u v)) u with
      | true => exact yes e h3 (ratio_tff u v) (by rw [h1, h2, h3]; rfl)
      | false => exact no e h3 (ratio_tft u v) (by rw [h1, h2, h3]; rfl)
    | false =>
      have e : rrF u v = r2R u v := by unfold rrF; rw [h1, h2]; rfl
      cases h3 : feq (chkR v (r2R u v)) u with
      | true => exact yes e h3 (ratio_ttf u v) (by rw [h1, h2, h3]; rfl)
      | false => exact no e h3 (ratio_ttt u v) (by rw [h1, h2, h3]; rfl)

theorem Ratio_ok : SoundM Try.prog 40 (pureModel ratioM) := by
  refine SoundM.refineX ?_
  intro args vc v hm hvc ρ xs hargs
  unfold ratioM at hm
  split at hm
  · rename_i x y
    split at hm
    · rename_i c u c' u' hc hc'
      cases hm
      simp only [Bool.and_eq_true] at hvc
      obtain ⟨x', _, rfl, hx, y', _, rfl, hy, rfl⟩ := hargs
      obtain ⟨M, hM, r, h1, h2, h3⟩ := Ratio_is u u'
      exact ⟨M, hM, [feA u, feA u'], ⟨x', _, rfl, asFe_abs hc hvc.1 hx, y', _, rfl, asFe_abs hc' hvc.2 hy, rfl⟩, r, h1, h2, fun ρ' w hw => h3 ρ ρ' w hw⟩
    · cases hm
  · cases hm

end Go.Proofs.Ytiolcdjnmnhcgaa
