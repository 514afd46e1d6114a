/- Roots: what Ratio answers. No condition. -/
import Derived.Test.YtiolcdjnmnhcgaaFv
namespace Go.Proofs.Ytiolcdjnmnhcgaa
open Go.AE Fardel
set_option maxRecDepth 100000

def kk (u v : F) : F := u * ((v * v * v) * (v * v * v) * v)

theorem kR_eq (u v : F) : kR u v = kk u v := by
  unfold kR v3R kk
  simp only [fmul_eq]

theorem chk_eq (u v : F) : chkR v (rR u v) = u * kk u v ^ ((P - 1) / 4) := by
  unfold chkR rR
  rw [kR_eq]
  unfold v3R
  simp only [fmul_eq, fpow_eq]
  have e1 : (kk u v ^ bigE) ^ (2 ^ 2) * kk u v = kk u v ^ (bigE * 4 + 1) := by
    rw [fpow_mul (c := bigE * 4) (by decide)]
    have := fpow_add (a := bigE * 4) (b := 1) rfl (kk u v)
    rwa [← fpow_one] at this
  rw [e1]
  have e2 : kk u v ^ ((P - 1) / 4) = kk u v ^ (bigE * 4 + 1) * kk u v ^ (bigE * 4 + 1) * kk u v := by
    rw [fpow_add rfl]
    have := fpow_add (a := bigE * 4 + 1 + (bigE * 4 + 1)) (b := 1) (c := (P - 1) / 4) (by decide) (kk u v)
    rw [← fpow_one] at this
    exact this.symm
  rw [e2]
  generalize kk u v ^ (bigE * 4 + 1) = w
  unfold kk
  grobner

theorem turn_sq : turnR * turnR = -1 := by
  have e : turnR = ((2 : F) ^ bigE) ^ (2 ^ 2) * 2 * (((2 : F) ^ bigE) ^ (2 ^ 2) * 2) * 2 := by
    have h2 : twoR = 2 := by decide +kernel
    unfold turnR
    rw [h2]
    simp only [fmul_eq, fpow_eq]
    have h : ∀ z : F, z ^ (2 ^ 1) = z * z := fun z => by
      have := fpow_add (a := 1) (b := 1) (c := 2 ^ 1) rfl z
      rw [← fpow_one] at this
      exact this.symm
    rw [h]
  have e1 : ((2 : F) ^ bigE) ^ (2 ^ 2) * 2 = (2 : F) ^ (bigE * 4 + 1) := by
    rw [fpow_mul (c := bigE * 4) (by decide)]
    have := fpow_add (a := bigE * 4) (b := 1) rfl (2 : F)
    rwa [← fpow_one] at this
  rw [e, e1, fpow_add rfl]
  have e3 : (2 : F) ^ (bigE * 4 + 1 + (bigE * 4 + 1)) * 2 = (2 : F) ^ ((P - 1) / 4) := by
    have := fpow_add (a := bigE * 4 + 1 + (bigE * 4 + 1)) (b := 1) (c := (P - 1) / 4) (by decide) (2 : F)
    rwa [← fpow_one] at this
  rw [e3]
  apply Fin.ext
  rw [Fin.val_mul, pm_pow _ _ (by decide)]
  decide +kernel

theorem chk2_eq (u v : F) : chkR v (r2R u v) = -chkR v (rR u v) := by
  unfold chkR r2R
  simp only [fmul_eq]
  have := turn_sq
  generalize rR u v = r
  generalize turnR = t at *
  grobner

theorem rat_root {u v : F} (h : ratB u v = true) : v * (ratR u v * ratR u v) = u := by
  have hb := h
  rw [ratB_eq] at hb
  rw [ratR_eq, hb]
  rw [feq_eq, decide_eq_true_eq] at hb
  unfold chkR at hb
  simp only [fmul_eq] at hb
  unfold pickF
  simp only [cond_true, fneg_eq]
  split
  · generalize rrF u v = r at *; grobner
  · exact hb

theorem neg_odd {r : F} (h : oddF r = true) : oddF (-r) = false := by
  rw [oddF_eq, decide_eq_true_eq] at h
  rw [oddF_eq, decide_eq_false_iff_not]
  have e : (-r).val = (P - r.val) % P := rfl
  have hr := r.isLt
  rw [e, Nat.mod_eq_of_lt (show P - r.val < P by omega)]
  have : P % 2 = 1 := by decide
  omega

theorem rat_even (u v : F) : oddF (ratR u v) = false := by
  rw [ratR_eq]
  cases feq (chkR v (rrF u v)) u with
  | false => rw [cond_false, oddF_eq]; decide +kernel
  | true =>
    rw [cond_true]
    unfold pickF
    split
    · rename_i h; rw [fneg_eq]; exact neg_odd h
    · rename_i h; simpa using h

theorem rat_none {u v : F} (h : ratB u v = false) : ratR u v = 0 := by
  rw [ratB_eq] at h
  rw [ratR_eq, h, cond_false, zeroR_eq]

theorem sq_one {z : F} (h : z * z = 1) : z = 1 ∨ z = -1 := by
  have : (z - 1) * (z + 1) = 0 := by grobner
  rcases mul_eq_zero this with h | h
  · exact .inl (by grobner)
  · exact .inr (by grobner)

theorem rat_full {u v s : F} (h : v * (s * s) = u) : ratB u v = true := by
  rw [ratB_eq]
  unfold rrF
  simp only [feq_eq, fneg_eq, zeroR_eq]
  rw [decide_eq_true_eq]
  by_cases hu : u = 0
  · subst hu
    simp only [decide_true, Bool.not_true, Bool.and_false, cond_false]
    rw [chk_eq]
    generalize kk 0 v ^ ((P - 1) / 4) = w
    grobner
  · have hk : kk u v = s * (v * v * v * v) * (s * (v * v * v * v)) := by
      unfold kk; rw [← h]; grobner
    have hv : v ≠ 0 := fun e => hu (by rw [← h, e]; grobner)
    have hs : s ≠ 0 := fun e => hu (by rw [← h, e]; grobner)
    have hn : s * (v * v * v * v) ≠ 0 := mul_ne_zero hs (mul_ne_zero (mul_ne_zero (mul_ne_zero hv hv) hv) hv)
    have hz : kk u v ^ ((P - 1) / 4) * kk u v ^ ((P - 1) / 4) = 1 := by
      rw [fpow_add rfl, hk, ← pow_p1 hn]
      generalize s * (v * v * v * v) = m
      have : m * m = m ^ 2 := by
        have := fpow_add (a := 1) (b := 1) rfl m
        rwa [← fpow_one] at this
      rw [this, fpow_mul (by decide : 2 * ((P - 1) / 4 + (P - 1) / 4) = P - 1)]
    rcases sq_one hz with e | e
    · have h1 : chkR v (rR u v) = u := by rw [chk_eq, e]; grobner
      have h2 : ¬ u = -u := fun e' => by
        have : (2 : F) * u = 0 := by grobner
        rcases mul_eq_zero this with h | h
        · exact two_ne_zero h
        · exact hu h
      rw [h1]
      simp only [h2, decide_false, Bool.false_and, cond_false]
      exact h1
    · have h1 : chkR v (rR u v) = -u := by rw [chk_eq, e]; grobner
      rw [h1]
      simp only [hu, decide_true, decide_false, Bool.not_false, Bool.and_true, cond_true]
      rw [chk2_eq, h1]
      grobner

end Go.Proofs.Ytiolcdjnmnhcgaa
