/- scalar.MulAdd and Order by their models. No condition. -/
import Derived.Test.YtiolcdjnmnhcgaaN9
import Derived.Test.YtiolcdjnmnhcgaaL0
namespace Go.Proofs.Ytiolcdjnmnhcgaa
open Go.AE Fardel
set_option maxRecDepth 100000

noncomputable def maF (a b c : Nat → Int) : Nat → Int := hid (fun (a b c : Nat → Int) => nbF (dq (maNum a b c) 0) (dq (maNum a b c) 1) (dq (maNum a b c) 2) (dq (maNum a b c) 3)) a b c
theorem maF_eq (a b c : Nat → Int) : maF a b c = nbF (dq (maNum a b c) 0) (dq (maNum a b c) 1) (dq (maNum a b c) 2) (dq (maNum a b c) 3) := by unfold maF; rw [hid_eq]
noncomputable def MulAddP : PModel
  | [.ints .u8 32 a, .ints .u8 32 b, .ints .u8 32 c] => some (bytesB 32 a && (bytesB 32 b && bytesB 32 c), .ints .u8 32 (maF a b c))
  | _ => none
theorem ma_res (a b c X Y Z S : Nat → Int) : evResults Try.prog (stOf (tmk [(6, .ptr 3 [])] 0 98) (maG9 a b c S ++ (maG a b c X Y Z S).drop 4)) Try.f37.results.toList =
    some (true, [.ints .u8 32 (nbF (dq (maV S) 0) (dq (maV S) 1) (dq (maV S) 2) (dq (maV S) 3))], 8) := by kernel_rfl

theorem MulAdd_ok : SoundM Try.prog 37 (pureModel MulAddP) := by
  refine SoundM.refineX ?_
  intro args vc v hm hvc ρ xs hargs
  unfold MulAddP at hm
  split at hm
  · rename_i a b c
    cases hm
    have hx : VLs (fun _ => none) [.ints .u8 32 a, .ints .u8 32 b, .ints .u8 32 c] xs := argsOK_VLs rfl hargs
    have hv := Bool.and_eq_true_iff.1 hvc
    have hv2 := Bool.and_eq_true_iff.1 hv.2
    obtain ⟨S, hS, htr⟩ := ma_tr hv.1 hv2.1 hv2.2
    refine ⟨pureModel (fun args => open Classical in if args = [.ints .u8 32 a, .ints .u8 32 b, .ints .u8 32 c] then some (true, .ints .u8 32 (nbF (dq (maV S) 0) (dq (maV S) 1) (dq (maV S) 2) (dq (maV S) 3))) else none), ?_, _, hx,
      ⟨true, .ints .u8 32 (nbF (dq (maV S) 0) (dq (maV S) 1) (dq (maV S) 2) (dq (maV S) 3)), [], 0, 0⟩, by simp [pureModel], rfl, ?_⟩
    · refine SoundM.of_tr0 (fn := Try.f37) (c := maC) (by kernel_rfl) (by kernel_rfl) (by kernel_rfl) ?_
      intro args vc v hm hvc
      split at hm
      · rename_i e
        cases hm
        subst e
        exact ⟨rfl, rfl, .ret, _, _, 8, .inl rfl, htr, ma_res _ _ _ _ _ _ _, rfl⟩
      · cases hm
    · intro ρ' w hw
      rw [hS, ← maF_eq] at hw
      exact hw
  · cases hm

def ordF : Nat → Int := nbF 6346243789798364141 1503914060200516822 0 1152921504606846976
def OrderP : PModel
  | [] => some (true, .ints .u8 32 ordF)
  | _ => none
theorem Order_mv : mv (evFn Try.prog envN2 40 Try.f38) [] = some (true, .ints .u8 32 ordF) := by kernel_rfl
theorem Order_ok : SoundM Try.prog 38 (pureModel OrderP) := by
  refine (SoundM.of_ev envN2_ok mix (n := 40) (fn := Try.f38) (by kernel_rfl) (by kernel_rfl) (by kernel_rfl)).pure ?_
  intro args vc v h hvc
  unfold OrderP at h
  split at h
  · cases h
    obtain ⟨r, h3, h4, h5⟩ := mv_some Order_mv
    exact ⟨rfl, rfl, r, h3, h4, h5⟩
  · cases h

noncomputable def envTm : Env := (envLw.set 37 (pureModel MulAddP)).set 38 (pureModel OrderP)
theorem envTm_ok : EnvOK Try.prog envTm := (envLw_ok.set MulAdd_ok).set Order_ok

theorem L_val : L = 7237005577332262213973186563042994240857116359379907606001950938285454250989 := rfl
theorem maNum_lt (a b c : Nat → Int) : maNum a b c < L := Nat.mod_lt _ (by decide)
theorem maF_dg (a b c : Nat → Int) (i : Nat) (hi : i < 32) : maF a b c i = dgB 256 (maNum a b c) i := by
  rw [maF_eq]
  refine nbF_eq ?_ i hi
  have := maNum_lt a b c
  rw [L_val] at this
  omega
theorem bytes_dg {f : Nat → Int} {V : Nat} (h : ∀ i, i < 32 → f i = dgB 256 V i) : bytesB 32 f = true := bytesB_of fun i hi => by
  rw [h i hi]
  exact dgB_digs (by decide) V 32 i hi
theorem maF_bytes (a b c : Nat → Int) : bytesB 32 (maF a b c) = true := bytes_dg (maF_dg a b c)
theorem hi_dg {f : Nat → Int} {V : Nat} (h : ∀ i, i < 32 → f i = dgB 256 V i) (hV : V < 115792089237316195423570985008687907853269984665640564039457584007913129639936) : hi f 256 = V := by
  rw [hi_all (bytesB_spec (bytes_dg h)), natN_natB, natB_congr 32 h, natB_dgB]
  exact Nat.mod_eq_of_lt hV
theorem maF_hi (a b c : Nat → Int) : hi (maF a b c) 256 = maNum a b c := hi_dg (maF_dg a b c) (by have := maNum_lt a b c; rw [L_val] at this; omega)
theorem ordF_hi : hi ordF 256 = L := by decide +kernel
theorem ordF_bytes : bytesB 32 ordF = true := by decide +kernel
theorem natB_hi {a : Nat → Int} (h : bytesB 32 a = true) : natB 256 a 32 = hi a 256 := by rw [hi_all (bytesB_spec h), natN_natB]

end Go.Proofs.Ytiolcdjnmnhcgaa
