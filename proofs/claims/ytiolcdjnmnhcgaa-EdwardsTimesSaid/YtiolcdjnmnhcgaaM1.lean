/- fardellaw07: EdwardsDecodes, EdwardsMuls, EdwardsBoth, EdwardsAdds, EdwardsGroup, EdwardsSigns: always true. No condition. -/
import Derived.Test.YtiolcdjnmnhcgaaL0
namespace Go.Proofs.Ytiolcdjnmnhcgaa
open Go.AE Fardel
set_option maxRecDepth 100000

theorem eqN_self (n : Nat) (f : Nat → Int) : eqN n f f = true := eqN_of fun _ _ => rfl
theorem same_self (p : Pt) : pSame p p = true := (pSame_iff p p).2 rfl

/-! ### EdwardsDecodes -/

noncomputable def deM (sy : List (Nat × Bool)) : Model := evFn Try.prog envLw ⟨1000000, sy⟩ Try.f3
theorem deM_ok (sy : List (Nat × Bool)) : SoundM Try.prog 3 (deM sy) := SoundM.of_ev envLw_ok mix (by kernel_rfl) (by kernel_rfl) (by kernel_rfl)
def deT : List (Nat × Bool) := [(27, true), (31, false), (37, true), (45, true), (53, true), (57, true)]
def deF : List (Nat × Bool) := [(27, false), (37, true), (45, true), (53, true), (57, false), (60, true)]
theorem de_tv (f : Nat → Int) : (mv (deM deT) [.ints .u8 32 f]).map (·.2) = some (.bool true) := by kernel_rfl
theorem de_fv (f : Nat → Int) : (mv (deM deF) [.ints .u8 32 f]).map (·.2) = some (.bool true) := by kernel_rfl
theorem de_tc (f : Nat → Int) : (mv (deM deT) [.ints .u8 32 f]).map (·.1) = some ((((decB f == decB f) == true) || false) && ((((eqN 32 (bytesF (decP f).x) (bytesF (decP f).x)) == true) || false) && ((((eqN 32 (bytesF (decP f).y) (bytesF (decP f).y)) == true) || false) && (((decB f == true) || false) && true))) &&
    (((decB f == true) && ((((!eqN 32 (encP (decP f)) f) == false) || false) && true)) && ((bytesB 32 f && true) && ((bytesB 32 f && true) && true)))) := by kernel_rfl
theorem de_fc (f : Nat → Int) : (mv (deM deF) [.ints .u8 32 f]).map (·.1) = some ((((decB f == decB f) == true) || false) && ((((eqN 32 (bytesF (decP f).x) (bytesF (decP f).x)) == true) || false) && ((((eqN 32 (bytesF (decP f).y) (bytesF (decP f).y)) == true) || false) && (((decB f == false) || false) && (((pSame (decP f) pZ == true) || false) && true)))) &&
    (((decB f == false) && true) && ((bytesB 32 f && true) && ((bytesB 32 f && true) && true)))) := by kernel_rfl

theorem Decodes_run {f : Nat → Int} (h : ∀ i, i < 32 → (Lit.int .u8 (f i)).wf = true) : ∃ M, SoundM Try.prog 3 M ∧ ∃ r, M [.ints .u8 32 f] [] = some r ∧ r.vc = true ∧ r.v = .bool true := by
  have hb := u8_bytes h
  cases hd : dOk f with
  | true =>
    refine ⟨_, deM_ok deT, mv_law (de_tv f) (de_tc f) ?_⟩
    rw [decB_eq, hd, hb, eqN_self, eqN_self, eqN_of (enc_dec hb hd)]
    rfl
  | false =>
    refine ⟨_, deM_ok deF, mv_law (de_fv f) (de_fc f) ?_⟩
    have hs : pSame (decP f) pZ = true := by rw [pSame_iff, dec_zero hd, pZ_eq]
    rw [decB_eq, hd, hb, eqN_self, eqN_self, hs]
    rfl

/-! ### EdwardsMuls -/

noncomputable def muM : Model := evFn Try.prog envLw ⟨1000000, [(40, true), (56, true)]⟩ Try.f4
theorem muM_ok : SoundM Try.prog 4 muM := SoundM.of_ev envLw_ok mix (by kernel_rfl) (by kernel_rfl) (by kernel_rfl)
theorem mu_v (f a g b : Nat → Int) : (mv muM [.ints .u8 32 f, .ints .u8 32 a, .ints .u8 32 g, .ints .u8 32 b]).map (·.2) = some (.bool true) := by kernel_rfl
noncomputable def muXs (f : Nat → Int) (p : Pt) : F := rmx f p.x p.y
noncomputable def muYs (f : Nat → Int) (p : Pt) : F := rmy f p.x p.y
theorem mu_c (f a g b : Nat → Int) : (mv muM [.ints .u8 32 f, .ints .u8 32 a, .ints .u8 32 g, .ints .u8 32 b]).map (·.1) = some (
    ((bytesB 32 f && bytesB 32 g) && (((eqN 32 (encP (pBoth f (ptOf a) g (ptOf b))) (encC (hsx (muXs f (ptOf a)) (muYs f (ptOf a)) (muXs g (ptOf b)) (muYs g (ptOf b))) (hsy (muXs f (ptOf a)) (muYs f (ptOf a)) (muXs g (ptOf b)) (muYs g (ptOf b)))) == true) || false) && true)) &&
    ((bytesB 32 f && ((eqN 32 (encP (pMul f (ptOf a))) (encC (muXs f (ptOf a)) (muYs f (ptOf a))) == true) && true)) &&
    (((bytesB 32 g && onB (ptOf b).x (ptOf b).y) && true) && (((bytesB 32 f && onB (ptOf a).x (ptOf a).y) && true) && ((bytesB 32 b && true) && ((bytesB 32 a && true) && true)))))) := by kernel_rfl

theorem hs_add (p q : Pt) : hsx p.x p.y q.x q.y = (pAdd p q).x ∧ hsy p.x p.y q.x q.y = (pAdd p q).y := by
  rw [hsx_eq, hsy_eq, pAdd_eq]
  exact ⟨rfl, rfl⟩

theorem Muls_run {f a g b : Nat → Int} (h0 : ∀ i, i < 32 → (Lit.int .u8 (f i)).wf = true) (h1 : ∀ i, i < 32 → (Lit.int .u8 (a i)).wf = true) (h2 : ∀ i, i < 32 → (Lit.int .u8 (g i)).wf = true) (h3 : ∀ i, i < 32 → (Lit.int .u8 (b i)).wf = true) :
    ∃ M, SoundM Try.prog 4 M ∧ ∃ r, M [.ints .u8 32 f, .ints .u8 32 a, .ints .u8 32 g, .ints .u8 32 b] [] = some r ∧ r.vc = true ∧ r.v = .bool true := by
  refine ⟨_, muM_ok, mv_law (mu_v f a g b) (mu_c f a g b) ?_⟩
  have e1 : muXs f (ptOf a) = (pMul f (ptOf a)).x := rmx_pt f _
  have e2 : muYs f (ptOf a) = (pMul f (ptOf a)).y := rmy_pt f _
  have e3 : muXs g (ptOf b) = (pMul g (ptOf b)).x := rmx_pt g _
  have e4 : muYs g (ptOf b) = (pMul g (ptOf b)).y := rmy_pt g _
  have e5 : pBoth f (ptOf a) g (ptOf b) = pAdd (pMul f (ptOf a)) (pMul g (ptOf b)) := by rw [pBoth_eq, pAdd_eq, pMul_eq, pMul_eq]
  rw [e1, e2, e3, e4, (hs_add _ _).1, (hs_add _ _).2, encC_pt, encC_pt, e5, eqN_self, eqN_self, u8_bytes h0, u8_bytes h1, u8_bytes h2, u8_bytes h3, onB_iff.2 (ptOf a).on, onB_iff.2 (ptOf b).on]
  rfl

/-! ### EdwardsBoth -/

def two32 : Nat → Int := fun j => bif Nat.beq j 0 then 2 else 0
noncomputable def boM : Model := evFn Try.prog envLw ⟨1000000, [(43, true), (50, true), (57, true)]⟩ Try.f5
theorem boM_ok : SoundM Try.prog 5 boM := SoundM.of_ev envLw_ok mix (by kernel_rfl) (by kernel_rfl) (by kernel_rfl)
theorem bo_v (a b f g : Nat → Int) : (mv boM [.ints .u8 32 a, .ints .u8 32 b, .ints .u8 32 f, .ints .u8 32 g]).map (·.2) = some (.bool true) := by kernel_rfl
theorem bo_c (a b f g : Nat → Int) : (mv boM [.ints .u8 32 a, .ints .u8 32 b, .ints .u8 32 f, .ints .u8 32 g]).map (·.1) = some (
    ((bytesB 32 f && bytesB 32 g) && (bytesB 32 f && (bytesB 32 g && (((pSame (pBoth f (ptOf a) g (ptOf b)) (pAdd (pMul f (ptOf a)) (pMul g (ptOf b))) == true) || false) &&
      (((pSame (pMul two32 (ptOf a)) (pAdd (ptOf a) (ptOf a)) == true) || false) && (bytesB 32 f && (((pSame (pMul f pZ) pZ == true) || false) && true))))))) &&
    ((bytesB 32 b && true) && ((bytesB 32 a && true) && true))) := by kernel_rfl

theorem hi_two : hi two32 256 = 2 := by decide +kernel
theorem Both_run {a b f g : Nat → Int} (h0 : ∀ i, i < 32 → (Lit.int .u8 (a i)).wf = true) (h1 : ∀ i, i < 32 → (Lit.int .u8 (b i)).wf = true) (h2 : ∀ i, i < 32 → (Lit.int .u8 (f i)).wf = true) (h3 : ∀ i, i < 32 → (Lit.int .u8 (g i)).wf = true) :
    ∃ M, SoundM Try.prog 5 M ∧ ∃ r, M [.ints .u8 32 a, .ints .u8 32 b, .ints .u8 32 f, .ints .u8 32 g] [] = some r ∧ r.vc = true ∧ r.v = .bool true := by
  refine ⟨_, boM_ok, mv_law (bo_v a b f g) (bo_c a b f g) ?_⟩
  have e5 : pBoth f (ptOf a) g (ptOf b) = pAdd (pMul f (ptOf a)) (pMul g (ptOf b)) := by rw [pBoth_eq, pAdd_eq, pMul_eq, pMul_eq]
  have e6 : pMul two32 (ptOf a) = pAdd (ptOf a) (ptOf a) := by rw [pMul_eq, hi_two, smul_two, pAdd_eq]
  have e7 : pMul f pZ = pZ := by rw [pMul_eq, pZ_eq, zero_smul]
  rw [e5, e6, e7, same_self, same_self, same_self, u8_bytes h0, u8_bytes h1, u8_bytes h2, u8_bytes h3]
  rfl

/-! ### EdwardsAdds -/

noncomputable def daM : Model := evFn Try.prog envLw ⟨1000000, [(43, true), (50, true), (57, true), (60, true), (75, true), (84, true), (91, true)]⟩ Try.f8
theorem daM_ok : SoundM Try.prog 8 daM := SoundM.of_ev envLw_ok mix (by kernel_rfl) (by kernel_rfl) (by kernel_rfl)
theorem da_v (a b : Nat → Int) : (mv daM [.ints .u8 32 a, .ints .u8 32 b]).map (·.2) = some (.bool true) := by kernel_rfl
noncomputable def daX (p q : Pt) : F := hsx p.x p.y q.x q.y
noncomputable def daY (p q : Pt) : F := hsy p.x p.y q.x q.y
theorem da_c (a b : Nat → Int) : (mv daM [.ints .u8 32 a, .ints .u8 32 b]).map (·.1) = some (
    ((((eqN 32 (encP (pNeg (ptOf a))) (encC (fneg (ptOf a).x) (ptOf a).y)) == true) || false) && ((((pSame (ptOf a) (ptOf b) == (eqD (ptOf a).x (ptOf b).x && (eqD (ptOf a).y (ptOf b).y && true))) == true) || false) && (((eqN 32 (encP pB) (encC pB.x pB.y) == true) || false) && true))) &&
    (((onB (daX (ptOf a) (ptOf b)) (daY (ptOf a) (ptOf b)) == true) && true) &&
    (((eqN 32 (bytesF (pAdd (ptOf a) (ptOf b)).x) (bytesF (daX (ptOf a) (ptOf b))) == true) && (((eqN 32 (bytesF (pAdd (ptOf a) (ptOf b)).y) (bytesF (daY (ptOf a) (ptOf b))) == true) || false) && (((eqN 32 (encP (pAdd (ptOf a) (ptOf b))) (encC (daX (ptOf a) (ptOf b)) (daY (ptOf a) (ptOf b))) == true) || false) && true))) &&
    ((bytesB 32 b && true) && ((bytesB 32 a && true) && true))))) := by kernel_rfl

theorem Adds_run {a b : Nat → Int} (h0 : ∀ i, i < 32 → (Lit.int .u8 (a i)).wf = true) (h1 : ∀ i, i < 32 → (Lit.int .u8 (b i)).wf = true) :
    ∃ M, SoundM Try.prog 8 M ∧ ∃ r, M [.ints .u8 32 a, .ints .u8 32 b] [] = some r ∧ r.vc = true ∧ r.v = .bool true := by
  refine ⟨_, daM_ok, mv_law (da_v a b) (da_c a b) ?_⟩
  have e1 : daX (ptOf a) (ptOf b) = (pAdd (ptOf a) (ptOf b)).x := (hs_add _ _).1
  have e2 : daY (ptOf a) (ptOf b) = (pAdd (ptOf a) (ptOf b)).y := (hs_add _ _).2
  have e3 : encC (fneg (ptOf a).x) (ptOf a).y = encP (pNeg (ptOf a)) := by
    rw [← encC_pt, pNeg_eq, fneg_eq]
    rfl
  have e4 : pSame (ptOf a) (ptOf b) = (eqD (ptOf a).x (ptOf b).x && (eqD (ptOf a).y (ptOf b).y && true)) := by
    rw [Bool.eq_iff_iff, pSame_iff, Bool.and_true, Bool.and_eq_true, eqD_iff, eqD_iff]
    exact ⟨fun h => by rw [h]; exact ⟨rfl, rfl⟩, fun h => Pt.ext' h.1 h.2⟩
  rw [← e4, e1, e2, e3, encC_pt, encC_pt, eqN_self, eqN_self, eqN_self, eqN_self, eqN_self, onB_iff.2 (pAdd (ptOf a) (ptOf b)).on, u8_bytes h0, u8_bytes h1]
  cases pSame (ptOf a) (ptOf b) <;> rfl

/-! ### EdwardsGroup -/

noncomputable def grM : Model := evFn Try.prog envLw ⟨1000000, [(42, true), (54, true), (60, true), (67, true), (88, true), (93, true), (104, true), (112, true)]⟩ Try.f9
theorem grM_ok : SoundM Try.prog 9 grM := SoundM.of_ev envLw_ok mix (by kernel_rfl) (by kernel_rfl) (by kernel_rfl)
theorem gr_v (a b c : Nat → Int) : (mv grM [.ints .u8 32 a, .ints .u8 32 b, .ints .u8 32 c]).map (·.2) = some (.bool true) := by kernel_rfl
noncomputable def grB (p : Pt) : Bool := shrI .u8 (encP p 31) 7 == bits .and .u8 (bytesF p.x 0) 1
theorem gr_c (a b c : Nat → Int) : (mv grM [.ints .u8 32 a, .ints .u8 32 b, .ints .u8 32 c]).map (·.1) = some (
    (((decB (encP (ptOf a)) == true) || false) && (((pSame (decP (encP (ptOf a))) (ptOf a) == true) || false) && (((grB (ptOf a) == true) || false) && (bytesB 32 (rLow (encP (ptOf a))) && (((feq (ptOf a).y (toF (num32 (rLow (encP (ptOf a))))) == true) || false) && true))))) &&
    ((bytesB 32 (encP (ptOf a)) && true) &&
    (((pSame (pAdd (ptOf a) pZ) (ptOf a) == true) && (((pSame (pAdd (ptOf a) (pNeg (ptOf a))) pZ == true) || false) && true)) &&
    (((pSame (pAdd (ptOf a) (ptOf b)) (pAdd (ptOf b) (ptOf a)) == true) && (((pSame (pAdd (pAdd (ptOf a) (ptOf b)) (ptOf c)) (pAdd (ptOf a) (pAdd (ptOf b) (ptOf c))) == true) || false) && true)) &&
    ((bytesB 32 c && true) && ((bytesB 32 b && true) && ((bytesB 32 a && true) && true))))))) := by kernel_rfl

theorem grB_eq (p : Pt) : grB p = true := by
  unfold grB
  have h1 := bytesF_bd p.y 31
  have h2 := bytesF_31 p.y
  have e1 : bits .and .u8 (bytesF p.x 0) 1 = if oddF p.x = true then 1 else 0 := by
    unfold bytesF
    rw [and1_u8 _ (Nat.mod_lt _ (by decide)), oddF_eq, Nat.pow_zero, Nat.div_one]
    by_cases h : p.x.val % 2 = 1
    · rw [if_pos (by simpa using h)]; omega
    · rw [if_neg (by simpa using h)]; omega
  have e2 := shrI_u8 (encP p 31) 7 (by decide)
  rw [show ((7 : Nat) : Int) = 7 from rfl] at e2
  rw [e1, e2, encP_31, beq_iff_eq]
  split <;> omega

theorem Group_run {a b c : Nat → Int} (h0 : ∀ i, i < 32 → (Lit.int .u8 (a i)).wf = true) (h1 : ∀ i, i < 32 → (Lit.int .u8 (b i)).wf = true) (h2 : ∀ i, i < 32 → (Lit.int .u8 (c i)).wf = true) :
    ∃ M, SoundM Try.prog 9 M ∧ ∃ r, M [.ints .u8 32 a, .ints .u8 32 b, .ints .u8 32 c] [] = some r ∧ r.vc = true ∧ r.v = .bool true := by
  refine ⟨_, grM_ok, mv_law (gr_v a b c) (gr_c a b c) ?_⟩
  obtain ⟨k1, k2⟩ := dec_enc (ptOf a)
  have hlow := rLow_eq (encP_bytes (ptOf a))
  have e1 : toF (num32 (rLow (encP (ptOf a)))) = (ptOf a).y := by rw [hlow]; exact enc_dY _
  have e2 : feq (ptOf a).y (ptOf a).y = true := by rw [feq_eq]; simp
  have e3 : pAdd (ptOf a) pZ = ptOf a := by rw [pAdd_eq, pZ_eq, Pt.add_zero]
  have e4 : pAdd (ptOf a) (pNeg (ptOf a)) = pZ := by rw [pAdd_eq, pNeg_eq, Pt.add_neg, pZ_eq]
  have e5 : pAdd (ptOf a) (ptOf b) = pAdd (ptOf b) (ptOf a) := by rw [pAdd_eq, pAdd_eq, Pt.add_comm]
  have e6 : pAdd (pAdd (ptOf a) (ptOf b)) (ptOf c) = pAdd (ptOf a) (pAdd (ptOf b) (ptOf c)) := by simp only [pAdd_eq]; rw [Pt.add_assoc]
  rw [e1, e2, e3, e4, e6, e5, decB_eq, k1, k2, grB_eq, hlow, low7_bytes (encP_bytes _), encP_bytes, same_self, same_self, same_self, same_self, u8_bytes h0, u8_bytes h1, u8_bytes h2]
  rfl

/-! ### EdwardsSigns -/

noncomputable def siM (z : Bool) : Model := evFn Try.prog envLw ⟨1000000, [(28, z), (40, true), (46, true), (53, true)]⟩ Try.f10
theorem siM_ok (z : Bool) : SoundM Try.prog 10 (siM z) := SoundM.of_ev envLw_ok mix (by kernel_rfl) (by kernel_rfl) (by kernel_rfl)
theorem si_tv (a : Nat → Int) : (mv (siM true) [.ints .u8 32 a]).map (·.2) = some (.bool true) := by kernel_rfl
theorem si_fv (a : Nat → Int) : (mv (siM false) [.ints .u8 32 a]).map (·.2) = some (.bool true) := by kernel_rfl
noncomputable def siC (p : Pt) (b : Nat → Int) (z : Bool) : Bool := (((eqN 32 (encP (pNeg p)) b == true) || false) && (((pSame (pNeg (pNeg p)) p == true) || false) && ((((pSame (pNeg p) p == z) == true) || false) && true)))
theorem si_tc (a : Nat → Int) : (mv (siM true) [.ints .u8 32 a]).map (·.1) = some (siC (ptOf a) (encP (ptOf a)) true && (((feq (ptOf a).x zeroR == true) && true) && ((bytesB 32 a && true) && true))) := by kernel_rfl
noncomputable def flip (p : Pt) : Nat → Int := put31 (bits .xor .u8 (encP p 31) 128) (encP p)
theorem si_fc (a : Nat → Int) : (mv (siM false) [.ints .u8 32 a]).map (·.1) = some (siC (ptOf a) (flip (ptOf a)) false && (((feq (ptOf a).x zeroR == false) && true) && ((bytesB 32 a && true) && true))) := by kernel_rfl

theorem xor128_all : ∀ a : Fin 256, bits .xor .u8 (a.val : Int) 128 = if (a.val : Int) < 128 then (a.val : Int) + 128 else (a.val : Int) - 128 := by decide +kernel

theorem enc_neg (p : Pt) (h : p.x ≠ 0) : ∀ j, j < 32 → encP (pNeg p) j = flip p j := by
  intro j _
  have hn : pNeg p = p.neg := by rw [pNeg_eq]
  rw [hn]
  have hx : p.neg.x = -p.x := rfl
  have hy : p.neg.y = p.y := rfl
  by_cases hj : j = 31
  · subst hj
    show _ = bits .xor .u8 (encP p 31) 128
    have hb := encP_bd p 31
    have := xor128_all ⟨(encP p 31).toNat, by omega⟩
    simp only [show (((encP p 31).toNat : Nat) : Int) = encP p 31 by omega] at this
    rw [this, encP_31, encP_31, hx, hy, odd_neg h]
    have h1 := bytesF_bd p.y 31
    have h2 := bytesF_31 p.y
    cases oddF p.x <;> simp <;> omega
  · rw [encP_ne _ hj, hy]
    unfold flip put31
    rw [beq_ne hj, cond_false, encP_ne _ hj]

theorem neg_neg (p : Pt) : pNeg (pNeg p) = p := by
  simp only [pNeg_eq]
  refine Pt.ext' ?_ rfl
  show -(-p.x) = p.x
  grobner

theorem neg_same (p : Pt) : pNeg p = p ↔ p.x = 0 := by
  rw [pNeg_eq]
  constructor
  · intro h
    have h1 : -p.x = p.x := congrArg Pt.x h
    have h2 : (2 : F) * p.x = 0 := by grobner
    rcases mul_eq_zero h2 with h3 | h3
    · exact absurd h3 two_ne_zero
    · exact h3
  · intro h
    refine Pt.ext' ?_ rfl
    show -p.x = p.x
    rw [h]
    grobner

theorem Signs_run {a : Nat → Int} (h0 : ∀ i, i < 32 → (Lit.int .u8 (a i)).wf = true) : ∃ M, SoundM Try.prog 10 M ∧ ∃ r, M [.ints .u8 32 a] [] = some r ∧ r.vc = true ∧ r.v = .bool true := by
  have hb := u8_bytes h0
  by_cases hz : (ptOf a).x = 0
  · refine ⟨_, siM_ok true, mv_law (si_tv a) (si_tc a) ?_⟩
    have hn := (neg_same (ptOf a)).2 hz
    have hf : feq (ptOf a).x zeroR = true := by rw [feq_eq, zeroR_eq]; simpa using hz
    unfold siC
    rw [hf, hb, hn, hn, eqN_self, same_self]
    rfl
  · refine ⟨_, siM_ok false, mv_law (si_fv a) (si_fc a) ?_⟩
    have hf : feq (ptOf a).x zeroR = false := by rw [feq_eq, zeroR_eq]; simpa using hz
    have hs : pSame (pNeg (ptOf a)) (ptOf a) = false := by
      cases h : pSame (pNeg (ptOf a)) (ptOf a) with
      | false => rfl
      | true => exact absurd ((neg_same _).1 ((pSame_iff _ _).1 h)) hz
    unfold siC
    rw [hf, hb, neg_neg, same_self, hs, eqN_of (enc_neg _ hz)]
    rfl

end Go.Proofs.Ytiolcdjnmnhcgaa
