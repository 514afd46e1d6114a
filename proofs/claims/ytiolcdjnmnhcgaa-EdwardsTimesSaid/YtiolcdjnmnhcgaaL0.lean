/- fardellaw07: point and low. No condition. -/
import Derived.Test.YtiolcdjnmnhcgaaK3
import Derived.Test.YtiolcdjnmnhcgaaI1
namespace Go.Proofs.Ytiolcdjnmnhcgaa
open Go.AE Fardel
set_option maxRecDepth 100000

noncomputable def envLw0 : Env := (((((((envLit.set 14 (pureModel rDecodeM)).set 22 (pureModel rMulM)).set 34 (pureModel rBaseM)).set 30 (pureModel (rp1M fun x y => some (true, .bool (onB x y))))).set 26 (pureModel (rp2M fun x y x' y' => some (true, rpT (hsx x y x' y') (hsy x y x' y'))))).set 32 (pureModel (rp1M fun x y => some (true, rpT (fneg x) y)))).set 24 (pureModel rBytesM)).set 18 (pureModel nBytesM)
theorem envLw0_ok : EnvOK Try.prog envLw0 := (((((((envLit_ok.set rDecode_ok).set rMul_ok).set rBase_ok).set rOn_ok).set rAdd_ok).set rNeg_ok).set rBytes_ok).set nBytes_ok

/-- The first two bytes. -/
def two2 (f : Nat → Int) : Nat → Int := fun j => bif Nat.beq j 1 then f 1 else bif Nat.beq j 0 then f 0 else 0
noncomputable def ptOf (f : Nat → Int) : Pt := hid (fun (f : Nat → Int) => bif dOk f then decP f else pMul (two2 f) pB) f
theorem ptOf_eq (f : Nat → Int) : ptOf f = bif dOk f then decP f else pMul (two2 f) pB := by unfold ptOf; rw [hid_eq]
noncomputable def ptM (b : Bool) : Model := evFn Try.prog envLw0 ⟨1000000, [(19, b)]⟩ Try.f21
theorem ptM_ok (b : Bool) : SoundM Try.prog 21 (ptM b) := SoundM.of_ev envLw0_ok mix (by kernel_rfl) (by kernel_rfl) (by kernel_rfl)
theorem pt_t (f : Nat → Int) : mv (ptM true) [.ints .u8 32 f] = some (((decB f == true) && true) && ((bytesB 32 f && true) && ((bytesB 32 f && true) && true)), .tup (.cons (ptA (decP f)) (.cons (rpT (decP f).x (decP f).y) .nil))) := by kernel_rfl
theorem pt_f (f : Nat → Int) : mv (ptM false) [.ints .u8 32 f] = some ((bytesB 32 (two2 f) && ((bytesB 32 (two2 f) && onB pB.x pB.y) && true)) && (((decB f == false) && true) && ((bytesB 32 f && true) && ((bytesB 32 f && true) && true))),
    .tup (.cons (ptA (pMul (two2 f) pB)) (.cons (rpT (rmx (two2 f) pB.x pB.y) (rmy (two2 f) pB.x pB.y)) .nil))) := by kernel_rfl

noncomputable def pointM : PModel
  | [.ints .u8 32 f] => some (bytesB 32 f, .tup (.cons (ptA (ptOf f)) (.cons (rpT (ptOf f).x (ptOf f).y) .nil)))
  | _ => none

theorem two2_bytes {f : Nat → Int} (h : bytesB 32 f = true) : bytesB 32 (two2 f) = true := bytesB_of fun i hi => by
  have hb := bytesB_spec h
  unfold two2
  cases Nat.beq i 1 with
  | true => exact hb 1 (by decide)
  | false =>
    cases Nat.beq i 0 with
    | true => exact hb 0 (by decide)
    | false => show (0 : Int) ≤ 0 ∧ (0 : Int) < 256; decide

theorem point_ok : SoundM Try.prog 21 (pureModel pointM) := by
  refine SoundM.refineX ?_
  intro args vc v hm hvc ρ xs hargs
  unfold pointM at hm
  split at hm
  · rename_i f
    cases hm
    have hx : VLs (fun _ => none) [.ints .u8 32 f] xs := argsOK_VLs rfl hargs
    have run : ∀ {b : Bool} {vc : Bool} {t : T}, mv (ptM b) [.ints .u8 32 f] = some (vc, t) → vc = true → (t = .tup (.cons (ptA (ptOf f)) (.cons (rpT (ptOf f).x (ptOf f).y) .nil))) →
        ∃ M, SoundM Try.prog 21 M ∧ ∃ args2, VLs (fun _ => none) args2 xs ∧ ∃ r, M args2 [] = some r ∧ r.vc = true ∧ ∀ ρ' x, (R ρ' r.v).v x → (R ρ (.tup (.cons (ptA (ptOf f)) (.cons (rpT (ptOf f).x (ptOf f).y) .nil)))).v x := by
      intro b vc t h1 h2 h3
      obtain ⟨r, h4, h5, h6⟩ := mv_some h1
      exact ⟨_, ptM_ok b, _, hx, r, h4, h5.trans h2, fun ρ' w hw => by rw [h6, h3] at hw; exact (noPtr_R rfl ρ' ρ).2.1 _ hw⟩
    cases hd : dOk f with
    | true => exact run (pt_t f) (by rw [decB_eq, hd, hvc]; rfl) (by rw [ptOf_eq, hd]; rfl)
    | false => exact run (pt_f f) (by rw [decB_eq, hd, hvc, two2_bytes hvc, onB_iff.2 pB.on]; rfl) (by rw [ptOf_eq, hd, rmx_pt, rmy_pt]; rfl)
  · cases hm

/-! ### low -/

noncomputable def lowM : PModel
  | [.ints .u8 32 f] => some (true, .ints .u8 32 (rLow f))
  | _ => none
theorem low_mv (f : Nat → Int) : mv (evFn Try.prog env0 10 Try.f36) [.ints .u8 32 f] = some (true, .ints .u8 32 (rLow f)) := by kernel_rfl
theorem low_ok : SoundM Try.prog 36 (pureModel lowM) := by
  refine (SoundM.of_ev (env0_ok _) mix (n := 10) (fn := Try.f36) (by kernel_rfl) (by kernel_rfl) (by kernel_rfl)).pure ?_
  intro args vc v h hvc
  unfold lowM at h
  split at h
  · cases h
    obtain ⟨r, h3, h4, h5⟩ := mv_some (low_mv _)
    exact ⟨rfl, rfl, r, h3, h4, h5⟩
  · cases h

noncomputable def envLw : Env := (envLw0.set 21 (pureModel pointM)).set 36 (pureModel lowM)
theorem envLw_ok : EnvOK Try.prog envLw := (envLw0_ok.set point_ok).set low_ok

/-- A law whose runs, by cases, answer true. -/
theorem law_of {f : FuncId} {args : List T} (hok : argsOK args = true) (h : ∃ M, SoundM Try.prog f M ∧ ∃ r, M args [] = some r ∧ r.vc = true ∧ r.v = .bool true) :
    SoundM Try.prog f (pureModel fun a => open Classical in if a = args then some (true, .bool true) else none) := by
  refine SoundM.refineX ?_
  intro a vc v hm hvc ρ xs hargs
  split at hm
  · rename_i e
    cases hm
    subst e
    obtain ⟨M, hM, r, h1, h2, h3⟩ := h
    exact ⟨M, hM, _, argsOK_VLs hok hargs, r, h1, h2, fun ρ' x hx => by rw [h3] at hx; exact hx⟩
  · cases hm

theorem mv_law {M : Model} {args : List T} {vc : Bool} (h1 : (mv M args).map (·.2) = some (.bool true)) (h2 : (mv M args).map (·.1) = some vc) (h3 : vc = true) : ∃ r, M args [] = some r ∧ r.vc = true ∧ r.v = .bool true := by
  cases hm : mv M args with
  | none => rw [hm] at h1; cases h1
  | some r =>
    obtain ⟨k, t⟩ := r
    rw [hm] at h1 h2
    cases h1
    cases h2
    obtain ⟨r, h4, h5, h6⟩ := mv_some hm
    exact ⟨r, h4, h5.trans h3, h6⟩

theorem u8_bytes {f : Nat → Int} (h : ∀ i, i < 32 → (Lit.int .u8 (f i)).wf = true) : bytesB 32 f = true := bytesB_of fun i hi => u8_wf (h i hi)

end Go.Proofs.Ytiolcdjnmnhcgaa
