/- edwards: Decode. No condition. -/
import Derived.Test.YtiolcdjnmnhcgaaFw
namespace Go.Proofs.Ytiolcdjnmnhcgaa
open Go.AE Fardel
set_option maxRecDepth 100000

theorem zero_abs {ρ ρ' : Rho} {x : Value} (hx : (R ρ zT).v x) : (R ρ' (ptA .zero)).v x := by
  obtain ⟨cs, rfl, h⟩ := (R_agg rfl).1 hx
  obtain ⟨_, _, e1, ⟨_, _, rfl, h1, _, _, rfl, h2, _, _, rfl, h3, _, _, rfl, h4, rfl⟩, _, _, rfl, ⟨_, rfl, rfl⟩, rfl⟩ := h
  have g1 := isZ5_c rfl h1
  have g2 := isZ5_c rfl h2
  have g3 := isZ5_c rfl h3
  have g4 := isZ5_c rfl h4
  refine ⟨cs, rfl, .inr ⟨rfl, _, ?_, ?_, e1⟩⟩
  · simp [g1.1, g2.1, g3.1, g4.1]
  · intro x hx
    simp only [List.mem_append, List.not_mem_nil, or_false] at hx
    rcases hx with h | h | h | h
    · exact g1.2 x h
    · exact g2.2 x h
    · exact g3.2 x h
    · exact g4.2 x h

def dO (f : Nat → Int) : Bool := decide (f 31 ≥ 128)
noncomputable def decX (f : Nat → Int) : F := pickF (dO f) (fneg (dX (dY f))) (dX (dY f))
noncomputable def dOk (f : Nat → Int) : Bool := eqN 32 (bytesF (dY f)) (low7 f) && (dI (dY f) && !(dO f && feq (dX (dY f)) zeroR))

open Classical in
noncomputable def decQ (f : Nat → Int) : Pt := if h : On (decX f) (dY f) ∧ dOk f = true then ⟨decX f, dY f, h.1⟩ else .zero
noncomputable def decP (f : Nat → Int) : Pt := hid decQ f
noncomputable def decB (f : Nat → Int) : Bool := hid dOk f
theorem decP_eq (f : Nat → Int) : decP f = decQ f := by unfold decP; rw [hid_eq]
theorem decB_eq (f : Nat → Int) : decB f = dOk f := by unfold decB; rw [hid_eq]

theorem dec_on {y : F} (b : Bool) (h : dI y = true) : On (pickF b (fneg (dX y)) (dX y)) y := by
  have hr := rat_root h
  change dV y * (dX y * dX y) = dU y at hr
  unfold dV dU at hr
  simp only [fadd_eq, fsub_eq, fmul_eq, fd_eq, fone_eq] at hr
  unfold On
  unfold pickF
  rw [fneg_eq]
  generalize dX y = x at *
  generalize d = k at *
  cases b
  · simp only [Bool.false_eq_true, if_false]; grobner
  · simp only [if_true]; grobner

theorem dec_pt {f : Nat → Int} (h : dOk f = true) : (decP f).x = decX f ∧ (decP f).y = dY f := by
  have hi : dI (dY f) = true := by
    unfold dOk at h
    simp only [Bool.and_eq_true] at h
    exact h.2.1
  have hc : On (decX f) (dY f) ∧ dOk f = true := ⟨dec_on (dO f) hi, h⟩
  rw [decP_eq]
  unfold decQ
  rw [dif_pos hc]
  exact ⟨rfl, rfl⟩
theorem dec_zero {f : Nat → Int} (h : dOk f = false) : decP f = .zero := by
  rw [decP_eq]
  unfold decQ
  rw [dif_neg]
  rw [h]
  rintro ⟨_, h⟩
  cases h

noncomputable def DecodeP : PModel
  | [.ints .u8 32 f] => some (bytesB 32 f, .tup (.cons (ptA (decP f)) (.cons (.bool (decB f)) .nil)))
  | _ => none

theorem low7_bytes {f : Nat → Int} (h : bytesB 32 f = true) : bytesB 32 (low7 f) = true := by
  have hb := bytesB_spec h
  unfold bytesB
  rw [List.all_eq_true]
  intro i hi
  have hi' : i < 32 := by simpa using hi
  rw [decide_eq_true_eq]
  unfold low7 put31
  cases hc : Nat.beq i 31 with
  | false => exact hb i hi'
  | true =>
    rw [cond_true]
    have h31 := hb 31 (by decide)
    have := bits_mask .u8 8 (by decide) (fun n h0 h1 => by simp [IntKind.wrap, IntKind.bits, IntKind.signed]; omega) 7 (by decide) (f 31) (by omega) (by omega)
    rw [show ((2 : Int) ^ 7 - 1) = 127 by decide] at this
    rw [this]
    omega

theorem decNo_is {f : Nat → Int} (h : dOk f = false) {ρ ρ' : Rho} {x : Value} (hx : (R ρ decNo).v x) : (R ρ' (.tup (.cons (ptA (decP f)) (.cons (.bool (decB f)) .nil)))).v x := by
  obtain ⟨cs, rfl, y, ys, hcs, hy, hys⟩ := hx
  refine ⟨_, rfl, y, ys, hcs, by rw [dec_zero h]; exact zero_abs hy, ?_⟩
  rw [decB_eq, h]
  exact (noPtr_R rfl ρ ρ').2.2 _ hys

theorem decYes_is {f : Nat → Int} (h : dOk f = true) {b : Bool} (hb : dO f = b) {ρ ρ' : Rho} {x : Value} (hx : (R ρ (decYes b (dY f))).v x) : (R ρ' (.tup (.cons (ptA (decP f)) (.cons (.bool (decB f)) .nil)))).v x := by
  obtain ⟨cs, rfl, y, ys, hcs, hy, hys⟩ := hx
  have hp := dec_pt h
  refine ⟨_, rfl, y, ys, hcs, pt_abs ?_ hy, ?_⟩
  · unfold Qd.is
    simp only [fone_eq, fmul_eq]
    have e : pickF b (fneg (dX (dY f))) (dX (dY f)) = decX f := by unfold decX; rw [hb]
    rw [e, ← hp.1, ← hp.2]
    exact ext_of _
  · rw [decB_eq, h]
    exact (noPtr_R rfl ρ ρ').2.2 _ hys

theorem Decode_ok : SoundM Try.prog 13 (pureModel DecodeP) := by
  refine SoundM.refineX ?_
  intro args vc v hm hvc ρ xs hargs
  unfold DecodeP at hm
  split at hm
  · rename_i f
    cases hm
    have hx : VLs (fun _ => none) [.ints .u8 32 f] xs := argsOK_VLs rfl hargs
    have hl := low7_bytes hvc
    have run : ∀ {sy : List (Nat × Bool)} {vc : Bool} {t : T}, mv (dec_sy sy) [.ints .u8 32 f] = some (vc, t) → vc = true → (∀ ρ ρ' x, (R ρ t).v x → (R ρ' (.tup (.cons (ptA (decP f)) (.cons (.bool (decB f)) .nil)))).v x) →
        ∃ M, SoundM Try.prog 13 M ∧ ∃ args2, VLs (fun _ => none) args2 xs ∧ ∃ r, M args2 [] = some r ∧ r.vc = true ∧ ∀ ρ' x, (R ρ' r.v).v x → (R ρ (.tup (.cons (ptA (decP f)) (.cons (.bool (decB f)) .nil)))).v x := by
      intro sy vc t h1 h2 h3
      obtain ⟨r, h4, h5, h6⟩ := mv_some h1
      exact ⟨_, dec_sy_ok sy, _, hx, r, h4, h5.trans h2, fun ρ' w hw => h3 ρ' ρ w (by rw [h6] at hw; exact hw)⟩
    cases hq : eqN 32 (bytesF (dY f)) (low7 f) with
    | false => exact run (dec_a f) (by rw [hq, hl]; rfl) fun ρ ρ' x => decNo_is (by unfold dOk; rw [hq]; rfl)
    | true =>
      cases hi : dI (dY f) with
      | false => exact run (dec_b f) (by rw [hq, hl, hi]; rfl) fun ρ ρ' x => decNo_is (by unfold dOk; rw [hq, hi]; rfl)
      | true =>
        cases ho : dO f with
        | false => exact run (dec_c f) (by rw [hq, hl, hi]; unfold dO at ho; rw [ho]; rfl) fun ρ ρ' x => decYes_is (by unfold dOk; rw [hq, hi, ho]; rfl) ho
        | true =>
          cases hz : feq (dX (dY f)) zeroR with
          | true => exact run (dec_d f) (by rw [hq, hl, hi, hz]; unfold dO at ho; rw [ho]; rfl) fun ρ ρ' x => decNo_is (by unfold dOk; rw [hq, hi, ho, hz]; rfl)
          | false => exact run (dec_e f) (by rw [hq, hl, hi, hz]; unfold dO at ho; rw [ho]; rfl) fun ρ ρ' x => decYes_is (by unfold dOk; rw [hq, hi, ho, hz]; rfl) ho
  · cases hm

end Go.Proofs.Ytiolcdjnmnhcgaa
