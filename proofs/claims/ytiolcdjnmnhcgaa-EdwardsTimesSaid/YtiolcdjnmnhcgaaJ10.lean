/- fardelref01.Ratio by its model: it answers what field.Ratio answers. No condition. -/
import Derived.Test.YtiolcdjnmnhcgaaJ9
namespace Go.Proofs.Ytiolcdjnmnhcgaa
open Go.AE Fardel
set_option maxRecDepth 100000

theorem eqR_iff {f g : Nat → Int} : ∀ k i, eqR f g k i = true ↔ ∀ j, i ≤ j → j < i + k → f j = g j
  | 0, i => by simp [eqR]; omega
  | k + 1, i => by
    unfold eqR
    rw [Bool.and_eq_true, beq_iff_eq, eqR_iff k (i + 1)]
    constructor
    · rintro ⟨h1, h2⟩ j hj hj'
      by_cases h : j = i
      · rw [h]; exact h1
      · exact h2 j (by omega) (by omega)
    · intro h
      exact ⟨h i (Nat.le_refl _) (by omega), fun j hj hj' => h j (by omega) (by omega)⟩

theorem eqD_iff {a b : F} : eqD a b = true ↔ a = b := by
  unfold eqD
  rw [eqR_iff]
  constructor
  · intro h
    apply Fin.ext
    rw [← vD_dg a, ← vD_dg b]
    exact natB_congr 16 fun i hi => h i (by omega) (by omega)
  · rintro rfl j _ _
    rfl

theorem vD_zero : vD (fun _ => 0) = 0 := natB_zero 65536 16 fun _ _ => rfl
theorem eqZ_iff {a : F} : eqZ a = true ↔ a = 0 := by
  unfold eqZ
  rw [eqR_iff]
  constructor
  · intro h
    apply Fin.ext
    rw [← vD_dg a]
    exact (natB_congr 16 fun i hi => h i (by omega) (by omega)).trans vD_zero
  · rintro rfl j _ hj
    rw [dg_dgB]
    unfold dgB
    rw [zero_val, Nat.zero_div]
    rfl

theorem vF_zero : vF (fun _ => 0) = 0 := by rw [vF_eq, vD_zero]; rfl

theorem rOdd_eq (r : F) : rOdd r = oddF r := by
  unfold rOdd
  rw [oddF_eq, dg_dgB]
  unfold dgB
  rw [Int.tmod_eq_emod_of_nonneg (by omega), Nat.pow_zero, Nat.div_one, Bool.eq_iff_iff, beq_iff_eq, decide_eq_true_eq]
  omega

theorem p1_digs : digs 65536 16 p1 := digB_spec.1 (by decide +kernel)
theorem p1_val : vD p1 = P - 1 := by decide +kernel
theorem vT_eq : vT = true := by
  unfold vT
  rw [digB_spec.2 (haD_digs _), digB_spec.2 (haD_digs _)]
  rfl
theorem nof_two : nof 2 = 2 := by rw [nof_eq]; decide +kernel
theorem rT_sq : rT * rT = -1 := by
  unfold rT
  rw [pw_eq, haD_val (haD_digs _), haD_val p1_digs, p1_val, Nat.div_div_eq_div_mul, nof_two]
  rw [fpow_add (c := (P - 1) / 2) (by decide)]
  apply Fin.ext
  rw [pm_pow _ _ (by decide)]
  decide +kernel

theorem half_pow {s : F} (h : s ≠ 0) : s ^ ((P - 1) / 2) = 1 ∨ s ^ ((P - 1) / 2) = -1 := by
  have h1 := pow_p1 h
  have h2 : s ^ ((P - 1) / 2) * s ^ ((P - 1) / 2) = s ^ (P - 1) := fpow_add (by decide) s
  rw [h1] at h2
  generalize s ^ ((P - 1) / 2) = w at *
  exact sq_eq (y := 1) (by rw [h2]; decide +kernel)

theorem roo_sq {q s : F} (h : s * s = q) : rooF q * rooF q = q ∨ rooF q * rooF q = -q := by
  rw [rooF_eq]
  by_cases h0 : s = 0
  · subst h0
    have hq : q = 0 := by rw [← h]; decide +kernel
    subst hq
    left
    have : (0 : F) ^ ((P + 3) / 8) = 0 := by
      apply Fin.ext
      rw [pm_pow _ _ (by decide)]
      decide +kernel
    rw [this]
    decide +kernel
  · have e1 : q ^ ((P + 3) / 8) * q ^ ((P + 3) / 8) = s ^ ((P - 1) / 2) * q := by
      have hs : q = s ^ 2 := by rw [← h, ← fpow_add (a := 1) (b := 1) (c := 2) rfl, ← fpow_one]
      rw [hs, fpow_mul (c := (P + 3) / 4) (by decide), fpow_add (c := (P + 3) / 2) (by decide), fpow_add (c := (P + 3) / 2) (by decide)]
    rw [e1]
    rcases half_pow h0 with h | h <;> rw [h]
    · left; grobner
    · right; grobner

theorem even_unique {a b : F} (h : a * a = b * b) (ha : oddF a = false) (hb : oddF b = false) : a = b := by
  rcases sq_eq h with h | h
  · exact h
  · by_cases h0 : b = 0
    · rw [h, h0]; grobner
    · rw [h, odd_neg h0, hb] at ha
      cases ha

theorem rQ_mul {u v : F} (h : v ≠ 0) : v * rQ u v = u := by
  unfold rQ
  rw [fmul_eq, finv_eq]
  have := mul_inv h
  generalize inv v = w at *
  grobner

theorem rat_of_sq {u v r : F} (hv : v ≠ 0) (h : r * r = rQ u v) : ratB u v = true ∧ ratR u v = if oddF r = true then -r else r := by
  have h1 : v * (r * r) = u := by rw [h]; exact rQ_mul hv
  have hb : ratB u v = true := rat_full h1
  refine ⟨hb, ?_⟩
  have h2 := rat_root hb
  refine even_unique ?_ (rat_even _ _) ?_
  · refine mul_cancel (z := v) hv ?_
    have e : ∀ r' : F, (if oddF r = true then -r else r) = r' → r' * r' = r * r := by
      intro r' e
      split at e <;> subst e
      · grobner
      · rfl
    rw [e _ rfl]
    generalize ratR u v = R at *
    rw [← h1] at h2
    grobner
  · split
    · rename_i ho
      have : r ≠ 0 := by
        rintro rfl
        rw [odd_zero] at ho
        cases ho
      rw [odd_neg this, ho]
      rfl
    · rename_i ho
      simpa using ho

theorem r1_sq {u v : F} (h : r0 u v * r0 u v = -rQ u v) : r1 u v * r1 u v = rQ u v := by
  unfold r1
  rw [fmul_eq]
  have := rT_sq
  generalize rT = t at *
  generalize r0 u v = r at *
  generalize rQ u v = q at *
  grobner

theorem rat_no {u v : F} (hv : v ≠ 0) (h0 : r0 u v * r0 u v ≠ rQ u v) (h1 : r1 u v * r1 u v ≠ rQ u v) : ratB u v = false := by
  cases hb : ratB u v with
  | false => rfl
  | true =>
    exfalso
    have hr := rat_root hb
    have hs : ratR u v * ratR u v = rQ u v := by
      refine mul_cancel (z := v) hv ?_
      have := rQ_mul (u := u) hv
      generalize ratR u v = R at *
      generalize rQ u v = q at *
      rw [← this] at hr
      grobner
    rcases roo_sq hs with h | h
    · exact h0 h
    · exact h1 (r1_sq h)

noncomputable def nRatioM : PModel
  | [.abs (.nn u), .abs (.nn v)] => some (!feq v zeroR, .tup (.cons (nnA (ratR u v)) (.cons (.bool (ratB u v)) .nil)))
  | _ => none

theorem z16_nn {ρ ρ' : Rho} {x : Value} (h : (R ρ z16).v x) : (R ρ' (nnA 0)).v x := nn_of (fun i _ => ⟨Int.le_refl 0, by show (0 : Int) < 65536; decide⟩) vD_zero h

theorem nRatio_ok : SoundM Try.prog 55 (pureModel nRatioM) := by
  refine SoundM.refineX ?_
  intro args vc w hm hvc ρ xs hargs
  unfold nRatioM at hm
  split at hm
  · rename_i u v
    cases hm
    have hv : v ≠ 0 := by
      rw [feq_eq, zeroR_eq] at hvc
      simpa using hvc
    have hx : VLs (fun _ => none) [nnA u, nnA v] xs := argsOK_VLs rfl hargs
    have run : ∀ {sy : List (Nat × Bool)} {vc : Bool} {t : T}, mv (raM sy) [nnA u, nnA v] = some (vc, t) → vc = true → (∀ ρ ρ' x, (R ρ t).v x → (R ρ' (.tup (.cons (nnA (ratR u v)) (.cons (.bool (ratB u v)) .nil)))).v x) →
        ∃ M, SoundM Try.prog 55 M ∧ ∃ args2, VLs (fun _ => none) args2 xs ∧ ∃ r, M args2 [] = some r ∧ r.vc = true ∧ ∀ ρ' x, (R ρ' r.v).v x → (R ρ (.tup (.cons (nnA (ratR u v)) (.cons (.bool (ratB u v)) .nil)))).v x := by
      intro sy vc t h1 h2 h3
      obtain ⟨r, h4, h5, h6⟩ := mv_some h1
      exact ⟨_, raM_ok sy, _, hx, r, h4, h5.trans h2, fun ρ' w hw => h3 ρ' ρ w (by rw [h6] at hw; exact hw)⟩
    have hzv : eqZ v = false := by
      cases h : eqZ v with
      | false => rfl
      | true => exact absurd (eqZ_iff.1 h) hv
    cases hzu : eqZ u with
    | true =>
      have hu := eqZ_iff.1 hzu
      refine run (ra_a u v) (by rw [hzu]; rfl) fun ρ ρ' x h => ?_
      have hb : ratB u v = true := rat_full (s := 0) (by rw [hu]; grobner)
      have hr : ratR u v = 0 := by
        have := rat_root hb
        rw [hu] at this ⊢
        rcases mul_eq_zero this with h | h
        · exact absurd h hv
        · rcases mul_eq_zero h with h | h <;> exact h
      obtain ⟨vs, rfl, y, ys, e, hy, hys⟩ := h
      refine ⟨vs, rfl, y, ys, e, by rw [hr]; exact z16_nn hy, ?_⟩
      rw [hb]
      exact (noPtr_R rfl ρ ρ').2.2 _ hys
    | false =>
      have hH : vHead u v = true := by unfold vHead; rw [hzv, hzu]; rfl
      have fin : ∀ {r : F} {ρ ρ' : Rho} {x : Value}, r * r = rQ u v → (R ρ (.tup (.cons (nnA (if oddF r = true then -r else r)) (.cons (.bool true) .nil)))).v x → (R ρ' (.tup (.cons (nnA (ratR u v)) (.cons (.bool (ratB u v)) .nil)))).v x := by
        intro r ρ ρ' x h hx
        obtain ⟨h1, h2⟩ := rat_of_sq hv h
        rw [h1, h2]
        exact (noPtr_R rfl ρ ρ').2.1 _ hx
      have neg : ∀ r : F, fsub (vF fun _ => 0) r = -r := fun r => by rw [fsub_eq, vF_zero]; grobner
      cases hq : eqD (fmul (r0 u v) (r0 u v)) (rQ u v) with
      | true =>
        have hq' := eqD_iff.1 hq
        rw [fmul_eq] at hq'
        cases ho : rOdd (r0 u v) with
        | false =>
          refine run (ra_b u v) (by rw [hq, ho, hH]; rfl) fun ρ ρ' x h => fin hq' (ρ := ρ) ?_
          rw [rOdd_eq] at ho
          rw [ho]
          exact h
        | true =>
          refine run (ra_c u v) (by rw [hq, ho, hH]; rfl) fun ρ ρ' x h => fin hq' (ρ := ρ) ?_
          rw [rOdd_eq] at ho
          rw [ho, if_pos rfl, ← neg]
          exact h
      | false =>
        have hq' : r0 u v * r0 u v ≠ rQ u v := by
          intro h
          rw [← fmul_eq, ← eqD_iff, hq] at h
          cases h
        cases hq1 : eqD (fmul (r1 u v) (r1 u v)) (rQ u v) with
        | true =>
          have hq1' := eqD_iff.1 hq1
          rw [fmul_eq] at hq1'
          cases ho : rOdd (r1 u v) with
          | false =>
            refine run (ra_d u v) (by rw [hq, hq1, ho, hH, vT_eq]; rfl) fun ρ ρ' x h => fin hq1' (ρ := ρ) ?_
            rw [rOdd_eq] at ho
            rw [ho]
            exact h
          | true =>
            refine run (ra_e u v) (by rw [hq, hq1, ho, hH, vT_eq]; rfl) fun ρ ρ' x h => fin hq1' (ρ := ρ) ?_
            rw [rOdd_eq] at ho
            rw [ho, if_pos rfl, ← neg]
            exact h
        | false =>
          have hq1' : r1 u v * r1 u v ≠ rQ u v := by
            intro h
            rw [← fmul_eq, ← eqD_iff, hq1] at h
            cases h
          have hb := rat_no hv hq' hq1'
          refine run (ra_f u v) (by rw [hq, hq1, hH, vT_eq]; rfl) fun ρ ρ' x h => ?_
          obtain ⟨vs, rfl, y, ys, e, hy, hys⟩ := h
          refine ⟨vs, rfl, y, ys, e, by rw [rat_none hb]; exact z16_nn hy, ?_⟩
          rw [hb]
          exact (noPtr_R rfl ρ ρ').2.2 _ hys
  · cases hm

end Go.Proofs.Ytiolcdjnmnhcgaa
