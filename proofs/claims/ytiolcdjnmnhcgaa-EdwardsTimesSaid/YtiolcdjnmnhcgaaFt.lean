/- edwards: points of the curve as values. No condition. -/
import Derived.Test.YtiolcdjnmnhcgaaFs
namespace Go.Proofs.Ytiolcdjnmnhcgaa
open Go.AE Fardel
set_option maxRecDepth 100000

noncomputable def pZ : Pt := hid Pt.zero
noncomputable def pAdd (p q : Pt) : Pt := hid (fun (p q : Pt) => p.add q) p q
noncomputable def pNeg (p : Pt) : Pt := hid (fun (p : Pt) => p.neg) p
noncomputable def pSame (p q : Pt) : Bool := hid (fun (p q : Pt) => decide (p.x = q.x ∧ p.y = q.y)) p q
theorem pSame_iff (p q : Pt) : pSame p q = true ↔ p = q := by
  unfold pSame
  rw [hid_eq]
  simp only [decide_eq_true_eq]
  exact ⟨fun ⟨h1, h2⟩ => Pt.ext' h1 h2, fun h => by subst h; exact ⟨rfl, rfl⟩⟩
theorem pZ_eq : pZ = .zero := hid_eq _
theorem pAdd_eq (p q : Pt) : pAdd p q = p.add q := by unfold pAdd; rw [hid_eq]
theorem pNeg_eq (p : Pt) : pNeg p = p.neg := by unfold pNeg; rw [hid_eq]

abbrev ptA (p : Pt) : T := .abs (.pt p)

def Qd.is (q : Qd) (p : Pt) : Prop := Ext q.x q.y q.z q.t p
theorem zQ_is : zQ.is .zero := by
  unfold Qd.is zQ
  simp only [zeroR_eq, fone_eq]
  exact ext_zero
theorem adQ_is {q q' : Qd} {p p' : Pt} (h : q.is p) (h' : q'.is p') : (adQ q q').is (p.add p') := by
  unfold Qd.is adQ
  simp only [fmul_eq, fsub_eq, fadd_eq, fd_eq]
  exact ext_add h h' rfl rfl rfl rfl rfl rfl rfl rfl
theorem dbQ_is {q : Qd} {p : Pt} (h : q.is p) : (dbQ q).is (p.add p) := by
  unfold Qd.is dbQ
  simp only [fmul_eq, fsub_eq, fadd_eq, fd_eq]
  exact ext_dbl h rfl rfl rfl rfl rfl rfl rfl
theorem ngQ_is {q : Qd} {p : Pt} (h : q.is p) : (ngQ q).is p.neg := by
  unfold Qd.is ngQ
  simp only [fneg_eq]
  exact ext_neg h
theorem smQ_is {q q' : Qd} {p p' : Pt} (h : q.is p) (h' : q'.is p') : smQ q q' = pSame p p' := by
  rw [Bool.eq_iff_iff, pSame_iff, ← ext_same h h']
  unfold smQ
  simp only [feq_eq, fmul_eq]
  by_cases h1 : q.x * q'.z = q'.x * q.z <;> simp [h1]

/-! ### Cells of points -/

theorem fe_c {a : Fe} {v : F} (ρ : Rho) (h : a.is v) : (R ρ (feA v)).c (limbs a) := ⟨a, h, rfl⟩
theorem a5_c {ρ : Rho} {c0 c1 c2 c3 c4 : Value} (h0 : isCell c0) (h1 : isCell c1) (h2 : isCell c2) (h3 : isCell c3) (h4 : isCell c4) : (R ρ a5).c [c0, c1, c2, c3, c4] :=
  ⟨[c0, c1, c2, c3, c4], [], rfl, ⟨[c0], _, rfl, ⟨_, rfl, h0⟩, [c1], _, rfl, ⟨_, rfl, h1⟩, [c2], _, rfl, ⟨_, rfl, h2⟩, [c3], _, rfl, ⟨_, rfl, h3⟩, [c4], _, rfl, ⟨_, rfl, h4⟩, rfl⟩, rfl⟩

theorem q_c {ρ : Rho} {q : Qd} {a b c e : Fe} (ha : a.is q.x) (hb : b.is q.y) (hc : c.is q.z) (he : e.is q.t) :
    (R ρ (qT q)).c (limbs a ++ (limbs b ++ (limbs c ++ (limbs e ++ [.bool true])))) := by
  refine ⟨limbs a ++ (limbs b ++ (limbs c ++ (limbs e ++ []))), [.bool true], by simp, ⟨_, _, rfl, fe_c ρ ha, _, _, rfl, fe_c ρ hb, _, _, rfl, fe_c ρ hc, _, _, rfl, fe_c ρ he, rfl⟩, [_], _, rfl, ⟨_, rfl, rfl⟩, rfl⟩

theorem q_of {ρ : Rho} {q : Qd} {cs : List Value} (h : (R ρ (qT q)).c cs) : ∃ a b c e : Fe, a.is q.x ∧ b.is q.y ∧ c.is q.z ∧ e.is q.t ∧ cs = limbs a ++ (limbs b ++ (limbs c ++ (limbs e ++ [.bool true]))) := by
  obtain ⟨_, _, rfl, ⟨_, _, rfl, ⟨a, ha, rfl⟩, _, _, rfl, ⟨b, hb, rfl⟩, _, _, rfl, ⟨c, hc, rfl⟩, _, _, rfl, ⟨e, he, rfl⟩, rfl⟩, _, _, rfl, ⟨_, rfl, rfl⟩, rfl⟩ := h
  exact ⟨a, b, c, e, ha, hb, hc, he, by simp⟩

theorem u_c {ρ : Rho} : ∀ {l : List Value}, l.length = 20 → (∀ x ∈ l, isCell x) → (R ρ uT).c (l ++ [.bool false])
  | [c0, c1, c2, c3, c4, c5, c6, c7, c8, c9, c10, c11, c12, c13, c14, c15, c16, c17, c18, c19], _, h => by
    have g : ∀ i (hi : i < 20), isCell ([c0, c1, c2, c3, c4, c5, c6, c7, c8, c9, c10, c11, c12, c13, c14, c15, c16, c17, c18, c19][i]'hi) := fun i hi => h _ (List.getElem_mem _)
    refine ⟨[c0, c1, c2, c3, c4, c5, c6, c7, c8, c9, c10, c11, c12, c13, c14, c15, c16, c17, c18, c19], [.bool false], rfl, ⟨[c0, c1, c2, c3, c4], _, rfl, ?_, [c5, c6, c7, c8, c9], _, rfl, ?_, [c10, c11, c12, c13, c14], _, rfl, ?_, [c15, c16, c17, c18, c19], [], rfl, ?_, rfl⟩, [_], _, rfl, ⟨_, rfl, rfl⟩, rfl⟩
    · exact a5_c (g 0 (by decide)) (g 1 (by decide)) (g 2 (by decide)) (g 3 (by decide)) (g 4 (by decide))
    · exact a5_c (g 5 (by decide)) (g 6 (by decide)) (g 7 (by decide)) (g 8 (by decide)) (g 9 (by decide))
    · exact a5_c (g 10 (by decide)) (g 11 (by decide)) (g 12 (by decide)) (g 13 (by decide)) (g 14 (by decide))
    · exact a5_c (g 15 (by decide)) (g 16 (by decide)) (g 17 (by decide)) (g 18 (by decide)) (g 19 (by decide))

theorem pt_abs {q : Qd} {p : Pt} {ρ ρ' : Rho} {x : Value} (hq : q.is p) (hx : (R ρ' (qT q)).v x) : (R ρ (ptA p)).v x := by
  obtain ⟨cs, rfl, hc⟩ := (R_agg rfl).1 hx
  obtain ⟨a, b, c, e, ha, hb, hc', he, h⟩ := q_of hc
  exact ⟨cs, rfl, .inl ⟨_, _, _, _, a, b, c, e, hq, ha, hb, hc', he, h⟩⟩

def isZ5 : T → Bool
  | .cons (.cons (.int .u64 a) (.cons (.int .u64 b) (.cons (.int .u64 c) (.cons (.int .u64 d) (.cons (.int .u64 e) .nil))))) .nil => true
  | _ => false

/-- A tree that is a point: told by what it is, or not set. -/
noncomputable def asPt : T → Option Pt
  | .abs (.pt p) => some p
  | .cons (.cons a (.cons b (.cons c (.cons e .nil)))) (.cons (.bool false) .nil) => bif isZ5 a && (isZ5 b && (isZ5 c && isZ5 e)) then some pZ else none
  | _ => none

theorem isZ5_c {ρ : Rho} {t : T} {cs : List Value} (h : isZ5 t = true) (hc : (R ρ t).c cs) : cs.length = 5 ∧ ∀ x ∈ cs, isCell x := by
  unfold isZ5 at h
  split at h
  · obtain ⟨_, _, rfl, ⟨_, _, rfl, ⟨_, rfl, rfl⟩, ⟨_, _, rfl, ⟨_, rfl, rfl⟩, ⟨_, _, rfl, ⟨_, rfl, rfl⟩, ⟨_, _, rfl, ⟨_, rfl, rfl⟩, ⟨_, _, rfl, ⟨_, rfl, rfl⟩, rfl⟩⟩⟩⟩⟩, rfl⟩ := hc
    refine ⟨rfl, fun x hx => ?_⟩
    simp only [List.append_assoc, List.mem_append, List.mem_singleton, List.not_mem_nil, or_false] at hx
    rcases hx with rfl | rfl | rfl | rfl | rfl <;> trivial
  · cases h

theorem asPt_v {t : T} {p : Pt} {ρ ρ' : Rho} {x : Value} (h : asPt t = some p) (hx : (R ρ t).v x) :
    ∃ (s : T) (q : Qd), q.is p ∧ (s = qT q ∨ (s = uT ∧ q = zQ)) ∧ (R ρ' s).v x := by
  unfold asPt at h
  split at h
  · cases h
    obtain ⟨cs, rfl, hc⟩ := hx
    rcases hc with ⟨x, y, z, t, a, b, c, e, hE, ha, hb, hc, he, h⟩ | ⟨rfl, l, hl, hc, h⟩
    · exact ⟨qT ⟨x, y, z, t⟩, ⟨x, y, z, t⟩, hE, .inl rfl, (R_agg rfl).2 ⟨cs, rfl, by rw [h]; exact q_c (q := ⟨x, y, z, t⟩) ha hb hc he⟩⟩
    · exact ⟨uT, zQ, zQ_is, .inr ⟨rfl, rfl⟩, (R_agg rfl).2 ⟨cs, rfl, by rw [h]; exact u_c hl hc⟩⟩
  · rename_i a b c e
    cases hb : isZ5 a && (isZ5 b && (isZ5 c && isZ5 e)) with
    | false => rw [hb] at h; cases h
    | true =>
      rw [hb] at h
      cases h
      rw [pZ_eq]
      simp only [Bool.and_eq_true] at hb
      obtain ⟨ha, hb, hc, he⟩ := hb
      obtain ⟨cs, rfl, h⟩ := (R_agg rfl).1 hx
      obtain ⟨_, _, e1, ⟨_, _, rfl, h1, _, _, rfl, h2, _, _, rfl, h3, _, _, rfl, h4, rfl⟩, _, _, rfl, ⟨_, rfl, rfl⟩, rfl⟩ := h
      have g1 := isZ5_c ha h1
      have g2 := isZ5_c hb h2
      have g3 := isZ5_c hc h3
      have g4 := isZ5_c he h4
      refine ⟨uT, zQ, zQ_is, .inr ⟨rfl, rfl⟩, (R_agg rfl).2 ⟨cs, rfl, ?_⟩⟩
      rw [e1]
      refine u_c ?_ ?_
      · simp [g1.1, g2.1, g3.1, g4.1]
      · intro x hx
        simp only [List.mem_append, List.not_mem_nil, or_false] at hx
        rcases hx with h | h | h | h
        · exact g1.2 x h
        · exact g2.2 x h
        · exact g3.2 x h
        · exact g4.2 x h
  · cases h

/-! ### Sums, opposites, sameness -/

noncomputable def AddP : PModel
  | [a, b] => match asPt a, asPt b with
    | some p, some q => some (true, ptA (pAdd p q))
    | _, _ => none
  | _ => none
noncomputable def NegP : PModel
  | [a] => match asPt a with
    | some p => some (true, ptA (pNeg p))
    | none => none
  | _ => none

theorem Add_pt : SoundM Try.prog 27 (pureModel AddP) := by
  refine AddM_ok.refine ?_
  intro args vc v hm hvc ρ xs hargs
  unfold AddP at hm
  split at hm
  · split at hm
    · rename_i p q hp hq
      cases hm
      obtain ⟨x', _, rfl, hx, y', _, rfl, hy, rfl⟩ := hargs
      obtain ⟨s, a, ha, hs, hx'⟩ := asPt_v (ρ' := fun _ => none) hp hx
      obtain ⟨s', b, hb, hs', hy'⟩ := asPt_v (ρ' := fun _ => none) hq hy
      have key : mv AddM [s, s'] = some (true, qT (adQ a b)) := by
        rcases hs with rfl | ⟨rfl, rfl⟩ <;> rcases hs' with rfl | ⟨rfl, rfl⟩
        · exact add_qq a b
        · exact add_qu a
        · exact add_uq b
        · exact add_uu
      obtain ⟨r, h1, h2, h3⟩ := mv_some key
      refine ⟨[s, s'], ⟨_, _, rfl, hx', _, _, rfl, hy', rfl⟩, r, h1, h2, fun ρ' w hw => ?_⟩
      rw [h3] at hw
      rw [pAdd_eq]
      exact pt_abs (adQ_is ha hb) hw
    · cases hm
  · cases hm

theorem Neg_pt : SoundM Try.prog 31 (pureModel NegP) := by
  refine NegM_ok.refine ?_
  intro args vc v hm hvc ρ xs hargs
  unfold NegP at hm
  split at hm
  · split at hm
    · rename_i p hp
      cases hm
      obtain ⟨x', _, rfl, hx, rfl⟩ := hargs
      obtain ⟨s, a, ha, hs, hx'⟩ := asPt_v (ρ' := fun _ => none) hp hx
      have key : mv NegM [s] = some (true, qT (ngQ a)) := by
        rcases hs with rfl | ⟨rfl, rfl⟩
        · exact neg_q a
        · exact neg_u
      obtain ⟨r, h1, h2, h3⟩ := mv_some key
      refine ⟨[s], ⟨_, _, rfl, hx', rfl⟩, r, h1, h2, fun ρ' w hw => ?_⟩
      rw [h3] at hw
      rw [pNeg_eq]
      exact pt_abs (ngQ_is ha) hw
    · cases hm
  · cases hm

end Go.Proofs.Ytiolcdjnmnhcgaa
