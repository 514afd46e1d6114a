/- scalar.modulo: the walk. No condition. -/
import Derived.Test.YtiolcdjnmnhcgaaN1
namespace Go.Proofs.Ytiolcdjnmnhcgaa
open Go.AE Fardel
set_option maxRecDepth 100000

def cS : Code → Code
  | .scope c => c
  | c => c
noncomputable def lessM4 : Model := evFn Try.prog envN 10 Try.f83
theorem lessM4_ok : SoundM Try.prog 83 lessM4 := SoundM.of_ev envN_ok mix (by kernel_rfl) (by kernel_rfl) (by kernel_rfl)
def ordP : PModel
  | [] => some (true, ordT)
  | _ => none
theorem ordM_ok : SoundM Try.prog 71 (pureModel ordP) := by
  refine (SoundM.of_ev (env0_ok _) mix (n := 10) (fn := Try.f71) (by kernel_rfl) (by kernel_rfl) (by kernel_rfl)).pure ?_
  intro args vc v h hvc
  unfold ordP at h
  split at h
  · cases h
    obtain ⟨r, h3, h4, h5⟩ := mv_some ord_mv
    exact ⟨rfl, rfl, r, h3, h4, h5⟩
  · cases h
noncomputable def envN1 : Env := (envN.set 83 lessM4).set 71 (pureModel ordP)
theorem envN1_ok : EnvOK Try.prog envN1 := (envN_ok.set lessM4_ok).set ordM_ok

noncomputable def mdC : Code := bodyC Try.f69
noncomputable def mdB : Code := cS (cR mdC)
noncomputable def mdX : Code := cR (postC 2 mdB)
theorem mdC_eq : postC 1 mdC = .scope mdB := by kernel_rfl
theorem mdB_eq : postC 2 mdB = .seq (.label 0) mdX := by kernel_rfl
theorem mdF_eq : findLabel mdB 0 = some (.seq .skip mdX) := by kernel_rfl
def mdK : Nat := maskOf [0, 2, 3, 4]
def mdT0 (off n c : Nat) : List T := tmk [(0, .slice 0 [] off 1 n (some c)), (2, .ptr 1 [])] 0 53
def mdT (off n c : Nat) (i : Int) : List T := tmk [(0, .slice 0 [] off 1 n (some c)), (2, .ptr 1 []), (3, .ptr 2 []), (4, .int .i64 i)] 0 53
def mdG0 (off n : Nat) (f : Nat → Int) : Heap := [some (.abs (.view off .u64 n f)), some (w4 0 0 0 0)]
def mdG (off n : Nat) (f : Nat → Int) (a b c d : Int) : Heap := [some (.abs (.view off .u64 n f)), some (w4 a b c d), some ordT]

def mdQ (i : Int) : Nat := (IntKind.i64.wrap (i.tdiv 64)).toNat
def mdBit (off : Nat) (f : Nat → Int) (i : Int) : Int := bits .and .u64 (shrI .u64 (f (off + mdQ i - off)) (i.tmod 64)) 1
def mdO (x y : Int) : Int := bits .or .u64 (shlI .u64 x 1) y
def L0 : Nat := 6346243789798364141
def L1 : Nat := 1503914060200516822
def L3 : Nat := 1152921504606846976
def mdBelow (a b c d : Int) : Bool := sb3 a.toNat b.toNat c.toNat d.toNat L0 L1 0 L3
def mdVC (off n : Nat) (f : Nat → Int) (a b c d : Int) (i : Int) (t : Bool) : Bool :=
  ((((bif mdBelow (mdO a (mdBit off f i)) (mdO b (shrI .u64 a 63)) (mdO c (shrI .u64 b 63)) (mdO d (shrI .u64 c 63)) then (1 : Int) else 0) == 0) == t) && true) &&
  ((decide (0 ≤ IntKind.i64.wrap (i.tdiv 64) ∧ IntKind.i64.wrap (i.tdiv 64) < n) && ((decide (off ≤ off + mdQ i ∧ off + mdQ i < off + n) && true) && (decide (0 ≤ i.tmod 64) && true))) && (((decide (i < 0) == false) && true) && true))

theorem md_pre (off n c : Nat) (f : Nat → Int) : (evCode Try.prog envN1 1000000 (preC 1 mdC) (stR 1 ([.slice 0 [] off 1 n (some c)] ++ undefs 52) [some (.abs (.view off .u64 n f))])).map (cutPR 1 mdK) = some (.normal, true, mdT0 off n c, mdG0 off n f, true) := by kernel_rfl
theorem md_pre2 (off n c : Nat) (f : Nat → Int) : (evCode Try.prog envN1 1000000 (preC 2 mdB) (stR 1 (mdT0 off n c) (mdG0 off n f))).map (cutPR 1 mdK) = some (.normal, true, mdT off n c (IntKind.i64.wrap (IntKind.i64.wrap (64 * (n : Int)) - 1)), mdG off n f 0 0 0 0, true) := by kernel_rfl
theorem md_lab (off n c : Nat) (f : Nat → Int) (a b cc d : Int) (i : Int) : Tr Try.prog 1 (.label 0) (stR 1 (mdT off n c i) (mdG off n f a b cc d)) .normal (stR 1 (mdT off n c i) (mdG off n f a b cc d)) :=
  Tr.evR (n := 10) (N := 3) (keep := mdK) (vc := true) envN1_ok mix (by kernel_rfl) rfl rfl rfl rfl
theorem md_skip (off n c : Nat) (f : Nat → Int) (a b cc d : Int) (i : Int) : Tr Try.prog 1 .skip (stR 1 (mdT off n c i) (mdG off n f a b cc d)) .normal (stR 1 (mdT off n c i) (mdG off n f a b cc d)) :=
  Tr.evR (n := 10) (N := 3) (keep := mdK) (vc := true) envN1_ok mix (by kernel_rfl) rfl rfl rfl rfl
theorem md_sub (off n c' : Nat) (f : Nat → Int) (a b c d : Int) (i : Int) (h : mdVC off n f a b c d i true = true) : Tr Try.prog 1 mdX (stR 1 (mdT off n c' i) (mdG off n f a b c d)) (.goto 0) (stR 1 (mdT off n c' (IntKind.i64.wrap (i - 1))) (mdG off n f
    (subLo (mdO a (mdBit off f i)).toNat L0 false) (subLo (mdO b (shrI .u64 a 63)).toNat L1 (sb0 (mdO a (mdBit off f i)).toNat L0))
    (subLo (mdO c (shrI .u64 b 63)).toNat 0 (sb1 (mdO a (mdBit off f i)).toNat (mdO b (shrI .u64 a 63)).toNat L0 L1))
    (subLo (mdO d (shrI .u64 c 63)).toNat L3 (sb2 (mdO a (mdBit off f i)).toNat (mdO b (shrI .u64 a 63)).toNat (mdO c (shrI .u64 b 63)).toNat L0 L1 0)))) :=
  Tr.evR (n := ⟨1000000, [(15, false), (49, true)]⟩) (N := 3) (keep := mdK) (vc := mdVC off n f a b c d i true) envN1_ok mix (by kernel_rfl) h rfl rfl rfl
theorem md_keep (off n c' : Nat) (f : Nat → Int) (a b c d : Int) (i : Int) (h : mdVC off n f a b c d i false = true) : Tr Try.prog 1 mdX (stR 1 (mdT off n c' i) (mdG off n f a b c d)) (.goto 0) (stR 1 (mdT off n c' (IntKind.i64.wrap (i - 1))) (mdG off n f
    (mdO a (mdBit off f i)) (mdO b (shrI .u64 a 63)) (mdO c (shrI .u64 b 63)) (mdO d (shrI .u64 c 63)))) :=
  Tr.evR (n := ⟨1000000, [(15, false), (49, false)]⟩) (N := 3) (keep := mdK) (vc := mdVC off n f a b c d i false) envN1_ok mix (by kernel_rfl) h rfl rfl rfl
theorem md_ret (off n c' : Nat) (f : Nat → Int) (a b c d : Int) : Tr Try.prog 1 mdX (stR 1 (mdT off n c' (-1)) (mdG off n f a b c d)) .ret (stR 1 (mdT off n c' (-1)) (mdG off n f a b c d)) :=
  Tr.evR (n := 10) (N := 3) (keep := mdK) (vc := true) envN1_ok mix (by kernel_rfl) rfl rfl rfl rfl

end Go.Proofs.Ytiolcdjnmnhcgaa
