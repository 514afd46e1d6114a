/- fardelref07.Mul by its model. No condition. -/
import Derived.Test.YtiolcdjnmnhcgaaK2
namespace Go.Proofs.Ytiolcdjnmnhcgaa
open Go.AE Fardel
set_option maxRecDepth 100000

noncomputable def rmC : Code := bodyC Try.f22
noncomputable def rmX : Code := postC 5 rmC
noncomputable def rmB : Code := cB (cB (cR (cL rmX)))
theorem rmX_eq : postC 5 rmC = .seq (.seq (cL (cL rmX)) (.block 0 (.loop rmB))) (cR rmX) := by kernel_rfl
def rmK : Nat := maskOf [2, 3, 4, 5, 6, 7, 8, 9]
def rmT0 : List T := tmk [(2, .ptr 0 []), (3, .ptr 1 []), (4, .ptr 2 []), (5, .ptr 3 []), (6, .ptr 4 []), (7, .ptr 5 []), (8, .ptr 6 [])] 0 65
def rmT (i : Int) : List T := tmk [(2, .ptr 0 []), (3, .ptr 1 []), (4, .ptr 2 []), (5, .ptr 3 []), (6, .ptr 4 []), (7, .ptr 5 []), (8, .ptr 6 []), (9, .int .i64 i)] 0 65
noncomputable def rmQ (x y : F) : Qd := ⟨x, y, nof 1, fmul x y⟩
noncomputable def rmO : Qd := ⟨nof 0, nof 1, nof 1, nof 0⟩
noncomputable def rmD : F := fadd fd fd
def rpZ : T := .cons z16 (.cons z16 .nil)
noncomputable def rmG (f : Nat → Int) (x y : F) (o : Qd) : Heap := [some (.ints .u8 32 f), some (rpT x y), some rpZ, some (nnA rmD), some (nnA (nof 1)), some (wiT (rmQ x y)), some (wiT o)]
def rmV (f : Nat → Int) (i : Int) : Bool := bits BinOp.and IntKind.u8 (shrI IntKind.u8 (f (IntKind.i64.wrap (i.tdiv 8)).toNat) (IntKind.u64.wrap (i.tmod 8))) 1 == 1
def rmVC (f : Nat → Int) (i : Int) (b : Bool) : Bool :=
  (decide (0 ≤ IntKind.i64.wrap (i.tdiv 8) ∧ IntKind.i64.wrap (i.tdiv 8) < 32) && ((decide ((IntKind.i64.wrap (i.tdiv 8)).toNat < 32) && true) && (decide (0 ≤ IntKind.u64.wrap (i.tmod 8)) && ((rmV f i == b) && true)))) && (((decide (i ≥ 0) == true) && true) && true)

theorem rm_pre (f : Nat → Int) (x y : F) : (evCode Try.prog envR9 40 (preC 5 rmC) (stOf ([.ints .u8 32 f, rpT x y] ++ undefs 63) [])).map (cutP rmK) = some (.normal, true, rmT0, rmG f x y rmO, true) := by kernel_rfl
theorem rm_ini (f : Nat → Int) (x y : F) (o : Qd) : (evCode Try.prog envR9 40 (preC 1 (cL rmX)) (stOf rmT0 (rmG f x y o))).map (cutP rmK) = some (.normal, true, rmT 255, rmG f x y o, true) := by kernel_rfl
theorem rm_one (f : Nat → Int) (x y : F) (o : Qd) (i : Int) (h : rmVC f i true = true) : Tr Try.prog 0 rmB (stOf (rmT i) (rmG f x y o)) .normal (stOf (rmT (IntKind.i64.wrap (i - 1))) (rmG f x y (suQ (suQ o o rmD) (rmQ x y) rmD))) :=
  Tr.ev (n := ⟨1000000, [(32, true), (48, true)]⟩) (N := 7) (keep := rmK) (vc := rmVC f i true) envR9_ok mix (by kernel_rfl) h rfl rfl
theorem rm_nil (f : Nat → Int) (x y : F) (o : Qd) (i : Int) (h : rmVC f i false = true) : Tr Try.prog 0 rmB (stOf (rmT i) (rmG f x y o)) .normal (stOf (rmT (IntKind.i64.wrap (i - 1))) (rmG f x y (suQ o o rmD))) :=
  Tr.ev (n := ⟨1000000, [(32, true), (48, false)]⟩) (N := 7) (keep := rmK) (vc := rmVC f i false) envR9_ok mix (by kernel_rfl) h rfl rfl
theorem rm_end (f : Nat → Int) (x y : F) (o : Qd) : Tr Try.prog 0 rmB (stOf (rmT (-1)) (rmG f x y o)) (.exit 0) (stOf (rmT (-1)) (rmG f x y o)) :=
  Tr.ev (n := 40) (N := 7) (keep := rmK) (vc := true) envR9_ok mix (by kernel_rfl) rfl rfl rfl
noncomputable def rmG9 (f : Nat → Int) (x y : F) (o : Qd) : Heap := [some (.ints .u8 32 f), some (rpT x y), some (rpT (fmul o.x (finv o.z)) (fmul o.y (finv o.z))), some (nnA rmD), some (nnA (nof 1)), some (wiT (rmQ x y)), some (wiT o)]
theorem rm_post (f : Nat → Int) (x y : F) (o : Qd) : Tr Try.prog 0 (cR rmX) (stOf (rmT (-1)) (rmG f x y o)) .ret (stOf (rmT (-1)) (rmG9 f x y o)) :=
  Tr.ev (n := 40) (N := 7) (keep := rmK) (vc := true) envR9_ok mix (by kernel_rfl) rfl rfl rfl

/-! ### Its law -/

theorem rmVC_eq {f : Nat → Int} (hf : bytesB 32 f = true) (k : Nat) (hk : k < 256) : rmVC f (k : Nat) (bitAt f k) = true := by
  have e1 : IntKind.i64.wrap ((k : Int).tdiv 8) = ((k / 8 : Nat) : Int) := by
    rw [Int.tdiv_eq_ediv_of_nonneg (by omega), IntKind.wrap_i64]; omega
  have e2 : IntKind.u64.wrap ((k : Int).tmod 8) = ((k % 8 : Nat) : Int) := by
    rw [Int.tmod_eq_emod_of_nonneg (by omega), IntKind.wrap_u64]; omega
  have hb := bytesB_spec hf (k / 8) (by omega)
  have hv : rmV f (k : Nat) = bitAt f k := by
    unfold rmV bitAt
    rw [e1, e2, Int.toNat_natCast, shrI_u8 _ _ (by omega)]
    obtain ⟨v, hv⟩ := Int.eq_ofNat_of_zero_le hb.1
    have hv' : v < 256 := by omega
    rw [hv, show ((v : Int) / 2 ^ (k % 8)) = ((v / 2 ^ (k % 8) : Nat) : Int) by simp]
    have hd : v / 2 ^ (k % 8) < 256 := Nat.lt_of_le_of_lt (Nat.div_le_self _ _) hv'
    rw [and1_u8 _ hd, Int.toNat_natCast, Bool.eq_iff_iff, beq_iff_eq, decide_eq_true_eq]
    omega
  unfold rmVC
  rw [hv, e1, e2]
  have h1 : (0 : Int) ≤ ((k / 8 : Nat) : Int) ∧ ((k / 8 : Nat) : Int) < 32 := by omega
  have h2 : (((k / 8 : Nat) : Int)).toNat < 32 := by omega
  have h3 : (0 : Int) ≤ ((k % 8 : Nat) : Int) := by omega
  have h4 : ((k : Int) ≥ 0) := by omega
  simp only [h1, h2, h3, h4, and_self, decide_true, Bool.and_true, beq_self_eq_true]

noncomputable def rmN (f : Nat → Int) (x y : F) : Nat → Qd
  | 0 => rmO
  | k + 1 => bif bitAt f (255 - k) then suQ (suQ (rmN f x y k) (rmN f x y k) rmD) (rmQ x y) rmD else suQ (rmN f x y k) (rmN f x y k) rmD

theorem rm_step {f : Nat → Int} (hf : bytesB 32 f = true) (x y : F) (k : Nat) (hk : k < 256) : Tr Try.prog 0 rmB (stOf (rmT ((255 - k : Nat) : Int)) (rmG f x y (rmN f x y k))) .normal (stOf (rmT ((255 - k : Nat) - 1 : Int)) (rmG f x y (rmN f x y (k + 1)))) := by
  have hv := rmVC_eq hf (255 - k) (by omega)
  have e1 : IntKind.i64.wrap (((255 - k : Nat) : Int) - 1) = ((255 - k : Nat) : Int) - 1 := by rw [IntKind.wrap_i64]; omega
  cases hb : bitAt f (255 - k) with
  | true =>
    rw [hb] at hv
    have := rm_one f x y (rmN f x y k) _ hv
    have e2 : rmN f x y (k + 1) = suQ (suQ (rmN f x y k) (rmN f x y k) rmD) (rmQ x y) rmD := by show (bif _ then _ else _) = _; rw [hb]; rfl
    rw [e1] at this
    rw [e2]
    exact this
  | false =>
    rw [hb] at hv
    have := rm_nil f x y (rmN f x y k) _ hv
    have e2 : rmN f x y (k + 1) = suQ (rmN f x y k) (rmN f x y k) rmD := by show (bif _ then _ else _) = _; rw [hb]; rfl
    rw [e1] at this
    rw [e2]
    exact this

theorem rm_loop {f : Nat → Int} (hf : bytesB 32 f = true) (x y : F) : ∀ m, m ≤ 256 →
    TrN Try.prog 0 rmB (m + 1) (stOf (rmT ((m : Nat) - 1 : Int)) (rmG f x y (rmN f x y (256 - m)))) (.exit 0) (stOf (rmT (-1)) (rmG f x y (rmN f x y 256)))
  | 0, _ => TrN.done (rm_end f x y _) (by intro h; cases h)
  | m + 1, h => by
    have hs := rm_step hf x y (256 - (m + 1)) (by omega)
    have e1 : (255 - (256 - (m + 1)) : Nat) = m := by omega
    rw [e1, show 256 - (m + 1) + 1 = 256 - m by omega] at hs
    have e2 : ((m + 1 : Nat) : Int) - 1 = (m : Nat) := by omega
    rw [e2]
    exact TrN.next hs (rm_loop hf x y m (by omega))

theorem rm_tr {f : Nat → Int} (hf : bytesB 32 f = true) (x y : F) : Tr Try.prog 0 rmC (stOf ([.ints .u8 32 f, rpT x y] ++ undefs 63) []) .ret (stOf (rmT (-1)) (rmG9 f x y (rmN f x y 256))) := by
  refine Tr.pre envR9_ok mix 5 rmK (rm_pre f x y) rfl ?_
  rw [rmX_eq]
  refine Tr.seq (s1 := stOf (rmT (-1)) (rmG f x y (rmN f x y 256))) ?_ (rm_post f x y _)
  refine Tr.pre envR9_ok mix 1 rmK (rm_ini f x y _) rfl ?_
  exact Tr.blockX (Tr.loop (rm_loop hf x y 256 (Nat.le_refl _)))

theorem rmN_is (f : Nat → Int) (p : Pt) : ∀ k, (rmN f p.x p.y k).is (p.smul (hi f k))
  | 0 => by
    show Ext (nof 0) (nof 1) (nof 1) (nof 0) Pt.zero
    rw [nof_zero, nof_one]
    exact ext_zero
  | k + 1 => by
    have ih := rmN_is f p k
    have hk : rmD = d + d := by unfold rmD; rw [fadd_eq, fd_eq]
    have hq : (rmQ p.x p.y).is p := by
      unfold Qd.is rmQ
      rw [nof_one, fmul_eq]
      exact ext_of p
    have h2 := suQ_is ih ih hk
    show (bif bitAt f (255 - k) then _ else _ : Qd).is (p.smul (2 * hi f k + (bitAt f (255 - k)).toNat))
    rw [smul_add, Nat.two_mul, smul_add]
    cases bitAt f (255 - k) with
    | true =>
      rw [show Bool.toNat true = 1 from rfl, smul_one]
      exact suQ_is h2 hq hk
    | false =>
      rw [show Bool.toNat false = 0 from rfl, smul_zero, Pt.add_zero]
      exact h2

open Classical in
noncomputable def muPt (f : Nat → Int) (x y : F) : Pt := if h : On x y then pMul f ⟨x, y, h⟩ else .zero
noncomputable def rmx (f : Nat → Int) (x y : F) : F := hid (fun (f : Nat → Int) (x y : F) => (muPt f x y).x) f x y
noncomputable def rmy (f : Nat → Int) (x y : F) : F := hid (fun (f : Nat → Int) (x y : F) => (muPt f x y).y) f x y
theorem muPt_pt (f : Nat → Int) (p : Pt) : muPt f p.x p.y = pMul f p := by unfold muPt; rw [dif_pos p.on]
theorem rmx_pt (f : Nat → Int) (p : Pt) : rmx f p.x p.y = (pMul f p).x := by unfold rmx; rw [hid_eq, muPt_pt]
theorem rmy_pt (f : Nat → Int) (p : Pt) : rmy f p.x p.y = (pMul f p).y := by unfold rmy; rw [hid_eq, muPt_pt]

noncomputable def rMulM : PModel
  | [.ints .u8 32 f, .cons (.abs (.nn x)) (.cons (.abs (.nn y)) .nil)] => some (bytesB 32 f && onB x y, rpT (rmx f x y) (rmy f x y))
  | _ => none

theorem rMul_ok : SoundM Try.prog 22 (pureModel rMulM) := by
  refine SoundM.refineX ?_
  intro args vc v hm hvc ρ xs hargs
  unfold rMulM at hm
  split at hm
  · rename_i f x y
    cases hm
    simp only [Bool.and_eq_true] at hvc
    obtain ⟨hf, ho⟩ := hvc
    have ho := onB_iff.1 ho
    have hx : VLs (fun _ => none) [.ints .u8 32 f, rpT x y] xs := argsOK_VLs rfl hargs
    have his := rmN_is f ⟨x, y, ho⟩ 256
    have hpl := ext_places his
    have e1 : rmx f x y = fmul (rmN f x y 256).x (finv (rmN f x y 256).z) := by
      rw [rmx_pt f ⟨x, y, ho⟩, fmul_eq, finv_eq, hpl.1, pMul_eq]
    have e2 : rmy f x y = fmul (rmN f x y 256).y (finv (rmN f x y 256).z) := by
      rw [rmy_pt f ⟨x, y, ho⟩, fmul_eq, finv_eq, hpl.2, pMul_eq]
    have e : rpT (rmx f x y) (rmy f x y) = rpT (fmul (rmN f x y 256).x (finv (rmN f x y 256).z)) (fmul (rmN f x y 256).y (finv (rmN f x y 256).z)) := by rw [e1, e2]
    refine ⟨pureModel (fun args => open Classical in if args = [.ints .u8 32 f, rpT x y] then some (true, rpT (fmul (rmN f x y 256).x (finv (rmN f x y 256).z)) (fmul (rmN f x y 256).y (finv (rmN f x y 256).z))) else none), ?_, _, hx,
      ⟨true, rpT (fmul (rmN f x y 256).x (finv (rmN f x y 256).z)) (fmul (rmN f x y 256).y (finv (rmN f x y 256).z)), [], 0, 0⟩, by simp [pureModel], rfl, fun ρ' w hw => ?_⟩
    · refine SoundM.of_tr0 (fn := Try.f22) (c := rmC) (by kernel_rfl) (by kernel_rfl) (by kernel_rfl) ?_
      intro args vc v hm hvc
      split at hm
      · rename_i e
        cases hm
        subst e
        exact ⟨rfl, rfl, .ret, _, [rpT (fmul (rmN f x y 256).x (finv (rmN f x y 256).z)) (fmul (rmN f x y 256).y (finv (rmN f x y 256).z))], 4, .inl rfl, rm_tr hf x y, by kernel_rfl, rfl⟩
      · cases hm
    · rw [e]
      exact (noPtr_R (t := rpT _ _) rfl ρ' ρ).2.1 _ hw
  · cases hm

end Go.Proofs.Ytiolcdjnmnhcgaa
