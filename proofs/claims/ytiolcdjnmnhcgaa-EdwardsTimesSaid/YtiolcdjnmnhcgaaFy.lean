/- edwards: whole, twice, Add on coordinates; for Both. No condition. -/
import Derived.Test.YtiolcdjnmnhcgaaFx
namespace Go.Proofs.Ytiolcdjnmnhcgaa
open Go.AE Fardel
set_option maxRecDepth 100000

def isU5 : T → Bool
  | .cons (.cons .any (.cons .any (.cons .any (.cons .any (.cons .any .nil))))) .nil => true
  | t => isZ5 t

/-- Coordinates that a tree tells, or those of the neutral point where it is not set. -/
noncomputable def asQd : T → Option Qd
  | .cons (.cons (.abs (.fe x)) (.cons (.abs (.fe y)) (.cons (.abs (.fe z)) (.cons (.abs (.fe t)) .nil)))) (.cons (.bool true) .nil) => some ⟨x, y, z, t⟩
  | .cons (.cons a (.cons b (.cons c (.cons e .nil)))) (.cons (.bool false) .nil) => bif isU5 a && (isU5 b && (isU5 c && isU5 e)) then some zQ else none
  | _ => none

theorem isU5_c {ρ : Rho} {t : T} {cs : List Value} (h : isU5 t = true) (hc : (R ρ t).c cs) : cs.length = 5 ∧ ∀ x ∈ cs, isCell x := by
  unfold isU5 at h
  split at h
  · obtain ⟨_, _, rfl, ⟨_, _, rfl, ⟨_, rfl, c1⟩, ⟨_, _, rfl, ⟨_, rfl, c2⟩, ⟨_, _, rfl, ⟨_, rfl, c3⟩, ⟨_, _, rfl, ⟨_, rfl, c4⟩, ⟨_, _, rfl, ⟨_, rfl, c5⟩, rfl⟩⟩⟩⟩⟩, rfl⟩ := hc
    refine ⟨rfl, fun x hx => ?_⟩
    simp only [List.append_assoc, List.mem_append, List.mem_singleton, List.not_mem_nil, or_false] at hx
    rcases hx with rfl | rfl | rfl | rfl | rfl <;> assumption
  · exact isZ5_c h hc

theorem asQd_v {t : T} {q : Qd} {ρ ρ' : Rho} {x : Value} (h : asQd t = some q) (hx : (R ρ t).v x) : ∃ s, (s = qT q ∨ (s = uT ∧ q = zQ)) ∧ (R ρ' s).v x := by
  unfold asQd at h
  split at h
  · cases h
    exact ⟨_, .inl rfl, (noPtr_R (t := qT _) rfl ρ ρ').2.1 _ hx⟩
  · rename_i a b c e
    cases hb : isU5 a && (isU5 b && (isU5 c && isU5 e)) with
    | false => rw [hb] at h; cases h
    | true =>
      rw [hb] at h
      cases h
      simp only [Bool.and_eq_true] at hb
      obtain ⟨ha, hb, hc, he⟩ := hb
      obtain ⟨cs, rfl, h⟩ := (R_agg rfl).1 hx
      obtain ⟨_, _, e1, ⟨_, _, rfl, h1, _, _, rfl, h2, _, _, rfl, h3, _, _, rfl, h4, rfl⟩, _, _, rfl, ⟨_, rfl, rfl⟩, rfl⟩ := h
      have g1 := isU5_c ha h1
      have g2 := isU5_c hb h2
      have g3 := isU5_c hc h3
      have g4 := isU5_c he h4
      refine ⟨uT, .inr ⟨rfl, rfl⟩, (R_agg rfl).2 ⟨cs, rfl, ?_⟩⟩
      rw [e1]
      refine u_c ?_ ?_
      · simp [g1.1, g2.1, g3.1, g4.1]
      · intro x hx
        simp only [List.mem_append, List.not_mem_nil, or_false] at hx
        rcases hx with h | h | h | h
        · exact g1.2 x h
        · exact g2.2 x h
        · exact g3.2 x h
        · exact g4.2 x h
  · cases h

noncomputable def AddQ : PModel
  | [a, b] => match asQd a, asQd b with
    | some p, some q => some (true, qT (adQ p q))
    | _, _ => none
  | _ => none

theorem AddQ_ok : SoundM Try.prog 27 (pureModel AddQ) := by
  refine AddM_ok.refine ?_
  intro args vc v hm hvc ρ xs hargs
  unfold AddQ at hm
  split at hm
  · split at hm
    · rename_i a b hp hq
      cases hm
      obtain ⟨x', _, rfl, hx, y', _, rfl, hy, rfl⟩ := hargs
      obtain ⟨s, hs, hx'⟩ := asQd_v (ρ' := fun _ => none) hp hx
      obtain ⟨s', hs', hy'⟩ := asQd_v (ρ' := fun _ => none) hq hy
      have key : mv AddM [s, s'] = some (true, qT (adQ a b)) := by
        rcases hs with rfl | ⟨rfl, rfl⟩ <;> rcases hs' with rfl | ⟨rfl, rfl⟩
        · exact add_qq a b
        · exact add_qu a
        · exact add_uq b
        · exact add_uu
      obtain ⟨r, h1, h2, h3⟩ := mv_some key
      refine ⟨[s, s'], ⟨_, _, rfl, hx', _, _, rfl, hy', rfl⟩, r, h1, h2, fun ρ' w hw => ?_⟩
      rw [h3] at hw
      exact ratio_fin rfl rfl hw
    · cases hm
  · cases hm

noncomputable def twiceQ : PModel
  | [.cons (.cons (.abs (.fe x)) (.cons (.abs (.fe y)) (.cons (.abs (.fe z)) (.cons (.abs (.fe t)) .nil)))) (.cons (.bool true) .nil)] => some (true, qT (dbQ ⟨x, y, z, t⟩))
  | _ => none

theorem twiceQ_ok : SoundM Try.prog 63 (pureModel twiceQ) := by
  refine twiceM_ok.pure ?_
  intro args vc v h hvc
  unfold twiceQ at h
  split at h
  · rename_i x y z t
    cases h
    obtain ⟨r, h1, h2, h3⟩ := mv_some (dbl_q ⟨x, y, z, t⟩)
    exact ⟨rfl, rfl, r, h1, h2, h3⟩
  · cases h

noncomputable def wholeM' : Model := evFn Try.prog envE0 10 Try.f56
theorem wholeM_ok : SoundM Try.prog 56 wholeM' := SoundM.of_ev envE0_ok mix (by kernel_rfl) (by kernel_rfl) (by kernel_rfl)
def wzT (v : F) : T := .cons (.cons (feT ⟨0, 0, 0, 0, 0⟩) (.cons (feA v) (.cons (feA v) (.cons (feT ⟨0, 0, 0, 0, 0⟩) .nil)))) (.cons (.bool true) .nil)
theorem whole_q (q : Qd) : mv wholeM' [qT q] = some (true, qT q) := by kernel_rfl
theorem whole_u : mv wholeM' [uT] = some (true, wzT fone) := by kernel_rfl

theorem fe0_abs {ρ ρ' : Rho} {cs : List Value} (h : (R ρ (feT ⟨0, 0, 0, 0, 0⟩)).c cs) : (R ρ' (feA zeroR)).c cs :=
  ⟨⟨0, 0, 0, 0, 0⟩, ⟨⟨by decide, by decide, by decide, by decide, by decide, by decide, by decide, by decide, by decide, by decide⟩, rfl⟩, limbs_of h⟩

theorem wz_abs {ρ ρ' : Rho} {x : Value} (h : (R ρ (wzT fone)).v x) : (R ρ' (qT zQ)).v x := by
  obtain ⟨cs, e, h'⟩ := (R_agg (t := wzT fone) rfl).1 h
  subst e
  have h2 : ∃ a b, cs.toList = a ++ b ∧ (R ρ (.cons (feT ⟨0, 0, 0, 0, 0⟩) (.cons (feA fone) (.cons (feA fone) (.cons (feT ⟨0, 0, 0, 0, 0⟩) .nil))))).c a ∧ (R ρ (.cons (.bool true) .nil)).c b := h'
  obtain ⟨_, _, e1, ⟨_, _, rfl, h1, _, _, rfl, h22, _, _, rfl, h3, _, _, rfl, h4, rfl⟩, _, _, rfl, h5, rfl⟩ := h2
  exact (R_agg rfl).2 ⟨cs, rfl, _, _, e1, ⟨_, _, rfl, fe0_abs h1, _, _, rfl, h22, _, _, rfl, h3, _, _, rfl, fe0_abs h4, rfl⟩, _, _, rfl, h5, rfl⟩

noncomputable def wholeQ : PModel
  | [a] => match asQd a with
    | some p => some (true, qT p)
    | none => none
  | _ => none

theorem wholeQ_ok : SoundM Try.prog 56 (pureModel wholeQ) := by
  refine wholeM_ok.refine ?_
  intro args vc v hm hvc ρ xs hargs
  unfold wholeQ at hm
  split at hm
  · split at hm
    · rename_i a hp
      cases hm
      obtain ⟨x', _, rfl, hx, rfl⟩ := hargs
      obtain ⟨s, hs, hx'⟩ := asQd_v (ρ' := fun _ => none) hp hx
      rcases hs with rfl | ⟨rfl, rfl⟩
      · obtain ⟨r, h1, h2, h3⟩ := mv_some (whole_q a)
        exact ⟨[qT a], ⟨_, _, rfl, hx', rfl⟩, r, h1, h2, fun ρ' w hw => by rw [h3] at hw; exact ratio_fin rfl rfl hw⟩
      · obtain ⟨r, h1, h2, h3⟩ := mv_some whole_u
        exact ⟨[uT], ⟨_, _, rfl, hx', rfl⟩, r, h1, h2, fun ρ' w hw => by rw [h3] at hw; exact wz_abs hw⟩
    · cases hm
  · cases hm

end Go.Proofs.Ytiolcdjnmnhcgaa
