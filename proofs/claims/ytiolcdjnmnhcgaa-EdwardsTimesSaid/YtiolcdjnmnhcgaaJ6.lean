/- fardelref01.Mul: the walk. No condition. -/
import Derived.Test.YtiolcdjnmnhcgaaJ5
namespace Go.Proofs.Ytiolcdjnmnhcgaa
open Go.AE Fardel
set_option maxRecDepth 100000

noncomputable def muC : Code := bodyC Try.f50
noncomputable def muX : Code := postC 2 muC
noncomputable def muRB : Code := cB (cB (cR (cL muX)))
noncomputable def muI : Code := cB (cL (cR muRB))
noncomputable def muB : Code := cB (cB (cR muI))
theorem muX_eq : postC 2 muC = .seq (.seq (cL (cL muX)) (.block 0 (.loop muRB))) (cR muX) := by kernel_rfl
theorem muRB_eq : muRB = .seq (cL muRB) (.seq (.block 1 muI) (cR (cR muRB))) := by kernel_rfl
theorem muI_eq : postC 1 muI = .block 2 (.loop muB) := by kernel_rfl
def muK : Nat := maskOf [2, 3, 4, 5, 6, 7]
def muT0 : List T := tmk [(2, .ptr 0 []), (3, .ptr 1 []), (4, .ptr 2 []), (5, .ptr 3 [])] 0 36
def muA (i : Int) : List T := tmk [(2, .ptr 0 []), (3, .ptr 1 []), (4, .ptr 2 []), (5, .ptr 3 []), (6, .int .i64 i)] 0 36
def muT (i : Nat) (k : Nat) : List T := tmk [(2, .ptr 0 []), (3, .ptr 1 []), (4, .ptr 2 []), (5, .ptr 3 []), (6, .int .i64 (i : Nat)), (7, .int .i64 (k : Nat))] 0 36
def muG (f g l : Nat → Int) : Heap := [some (D16 f), some (D16 g), some z16, some (D32 l)]
def muV (f g l : Nat → Int) (i k : Nat) : Nat → Int := upd l (i + k) (IntKind.u64.wrap (l (i + k) + IntKind.u64.wrap (f i * g k)))

theorem mu_pre (f g : Nat → Int) : (evCode Try.prog env0 10 (preC 2 muC) (stOf ([D16 f, D16 g] ++ undefs 34) [])).map (cutP muK) = some (.normal, true, muT0, muG f g fun _ => 0, true) := by kernel_rfl
theorem mu_ini (f g l : Nat → Int) : (evCode Try.prog env0 10 (preC 1 (cL muX)) (stOf muT0 (muG f g l))).map (cutP muK) = some (.normal, true, muA 0, muG f g l, true) := by kernel_rfl
theorem mu_test (f g l : Nat → Int) : ∀ i, i < 16 → Tr Try.prog 0 (cL muRB) (stOf (muA (i : Nat)) (muG f g l)) .normal (stOf (muA (i : Nat)) (muG f g l))
  | 0, _ => Tr.ev (n := 40) (N := 4) (keep := maskOf [2, 3, 4, 5, 6]) (vc := true) (env0_ok _) mix (by kernel_rfl) rfl rfl rfl
  | 1, _ => Tr.ev (n := 40) (N := 4) (keep := maskOf [2, 3, 4, 5, 6]) (vc := true) (env0_ok _) mix (by kernel_rfl) rfl rfl rfl
  | 2, _ => Tr.ev (n := 40) (N := 4) (keep := maskOf [2, 3, 4, 5, 6]) (vc := true) (env0_ok _) mix (by kernel_rfl) rfl rfl rfl
  | 3, _ => Tr.ev (n := 40) (N := 4) (keep := maskOf [2, 3, 4, 5, 6]) (vc := true) (env0_ok _) mix (by kernel_rfl) rfl rfl rfl
  | 4, _ => Tr.ev (n := 40) (N := 4) (keep := maskOf [2, 3, 4, 5, 6]) (vc := true) (env0_ok _) mix (by kernel_rfl) rfl rfl rfl
  | 5, _ => Tr.ev (n := 40) (N := 4) (keep := maskOf [2, 3, 4, 5, 6]) (vc := true) (env0_ok _) mix (by kernel_rfl) rfl rfl rfl
  | 6, _ => Tr.ev (n := 40) (N := 4) (keep := maskOf [2, 3, 4, 5, 6]) (vc := true) (env0_ok _) mix (by kernel_rfl) rfl rfl rfl
  | 7, _ => Tr.ev (n := 40) (N := 4) (keep := maskOf [2, 3, 4, 5, 6]) (vc := true) (env0_ok _) mix (by kernel_rfl) rfl rfl rfl
  | 8, _ => Tr.ev (n := 40) (N := 4) (keep := maskOf [2, 3, 4, 5, 6]) (vc := true) (env0_ok _) mix (by kernel_rfl) rfl rfl rfl
  | 9, _ => Tr.ev (n := 40) (N := 4) (keep := maskOf [2, 3, 4, 5, 6]) (vc := true) (env0_ok _) mix (by kernel_rfl) rfl rfl rfl
  | 10, _ => Tr.ev (n := 40) (N := 4) (keep := maskOf [2, 3, 4, 5, 6]) (vc := true) (env0_ok _) mix (by kernel_rfl) rfl rfl rfl
  | 11, _ => Tr.ev (n := 40) (N := 4) (keep := maskOf [2, 3, 4, 5, 6]) (vc := true) (env0_ok _) mix (by kernel_rfl) rfl rfl rfl
  | 12, _ => Tr.ev (n := 40) (N := 4) (keep := maskOf [2, 3, 4, 5, 6]) (vc := true) (env0_ok _) mix (by kernel_rfl) rfl rfl rfl
  | 13, _ => Tr.ev (n := 40) (N := 4) (keep := maskOf [2, 3, 4, 5, 6]) (vc := true) (env0_ok _) mix (by kernel_rfl) rfl rfl rfl
  | 14, _ => Tr.ev (n := 40) (N := 4) (keep := maskOf [2, 3, 4, 5, 6]) (vc := true) (env0_ok _) mix (by kernel_rfl) rfl rfl rfl
  | 15, _ => Tr.ev (n := 40) (N := 4) (keep := maskOf [2, 3, 4, 5, 6]) (vc := true) (env0_ok _) mix (by kernel_rfl) rfl rfl rfl
  | k + 16, h => absurd h (by omega)
theorem mu_last (f g l : Nat → Int) : Tr Try.prog 0 muRB (stOf (muA 16) (muG f g l)) (.exit 0) (stOf (muA 16) (muG f g l)) :=
  Tr.ev (n := 40) (N := 4) (keep := maskOf [2, 3, 4, 5, 6]) (vc := true) (env0_ok _) mix (by kernel_rfl) rfl rfl rfl
theorem mu_zero (f g l : Nat → Int) (i : Nat) : (evCode Try.prog env0 10 (preC 1 muI) (stOf (muA (i : Nat)) (muG f g l))).map (cutP muK) = some (.normal, true, muT i 0, muG f g l, true) := by kernel_rfl
theorem mu_end (f g l : Nat → Int) (i : Nat) : Tr Try.prog 0 muB (stOf (muT i 16) (muG f g l)) (.exit 2) (stOf (muT i 16) (muG f g l)) :=
  Tr.ev (n := 40) (N := 4) (keep := muK) (vc := true) (env0_ok _) mix (by kernel_rfl) rfl rfl rfl
theorem mu_next (f g l : Nat → Int) : ∀ i, i < 16 → Tr Try.prog 0 (cR (cR muRB)) (stOf (muT i 16) (muG f g l)) .normal (stOf (muA ((i + 1 : Nat) : Int)) (muG f g l))
  | 0, _ => Tr.ev (n := 40) (N := 4) (keep := maskOf [2, 3, 4, 5, 6]) (vc := true) (env0_ok _) mix (by kernel_rfl) rfl rfl rfl
  | 1, _ => Tr.ev (n := 40) (N := 4) (keep := maskOf [2, 3, 4, 5, 6]) (vc := true) (env0_ok _) mix (by kernel_rfl) rfl rfl rfl
  | 2, _ => Tr.ev (n := 40) (N := 4) (keep := maskOf [2, 3, 4, 5, 6]) (vc := true) (env0_ok _) mix (by kernel_rfl) rfl rfl rfl
  | 3, _ => Tr.ev (n := 40) (N := 4) (keep := maskOf [2, 3, 4, 5, 6]) (vc := true) (env0_ok _) mix (by kernel_rfl) rfl rfl rfl
  | 4, _ => Tr.ev (n := 40) (N := 4) (keep := maskOf [2, 3, 4, 5, 6]) (vc := true) (env0_ok _) mix (by kernel_rfl) rfl rfl rfl
  | 5, _ => Tr.ev (n := 40) (N := 4) (keep := maskOf [2, 3, 4, 5, 6]) (vc := true) (env0_ok _) mix (by kernel_rfl) rfl rfl rfl
  | 6, _ => Tr.ev (n := 40) (N := 4) (keep := maskOf [2, 3, 4, 5, 6]) (vc := true) (env0_ok _) mix (by kernel_rfl) rfl rfl rfl
  | 7, _ => Tr.ev (n := 40) (N := 4) (keep := maskOf [2, 3, 4, 5, 6]) (vc := true) (env0_ok _) mix (by kernel_rfl) rfl rfl rfl
  | 8, _ => Tr.ev (n := 40) (N := 4) (keep := maskOf [2, 3, 4, 5, 6]) (vc := true) (env0_ok _) mix (by kernel_rfl) rfl rfl rfl
  | 9, _ => Tr.ev (n := 40) (N := 4) (keep := maskOf [2, 3, 4, 5, 6]) (vc := true) (env0_ok _) mix (by kernel_rfl) rfl rfl rfl
  | 10, _ => Tr.ev (n := 40) (N := 4) (keep := maskOf [2, 3, 4, 5, 6]) (vc := true) (env0_ok _) mix (by kernel_rfl) rfl rfl rfl
  | 11, _ => Tr.ev (n := 40) (N := 4) (keep := maskOf [2, 3, 4, 5, 6]) (vc := true) (env0_ok _) mix (by kernel_rfl) rfl rfl rfl
  | 12, _ => Tr.ev (n := 40) (N := 4) (keep := maskOf [2, 3, 4, 5, 6]) (vc := true) (env0_ok _) mix (by kernel_rfl) rfl rfl rfl
  | 13, _ => Tr.ev (n := 40) (N := 4) (keep := maskOf [2, 3, 4, 5, 6]) (vc := true) (env0_ok _) mix (by kernel_rfl) rfl rfl rfl
  | 14, _ => Tr.ev (n := 40) (N := 4) (keep := maskOf [2, 3, 4, 5, 6]) (vc := true) (env0_ok _) mix (by kernel_rfl) rfl rfl rfl
  | 15, _ => Tr.ev (n := 40) (N := 4) (keep := maskOf [2, 3, 4, 5, 6]) (vc := true) (env0_ok _) mix (by kernel_rfl) rfl rfl rfl
  | k + 16, h => absurd h (by omega)
theorem mu_step0 (f g l : Nat → Int) : ∀ k, k < 16 → Tr Try.prog 0 muB (stOf (muT 0 k) (muG f g l)) .normal (stOf (muT 0 (k + 1)) (muG f g (muV f g l 0 k)))
  | 0, _ => Tr.ev (n := 40) (N := 4) (keep := muK) (vc := true) (env0_ok _) mix (by kernel_rfl) rfl rfl rfl
  | 1, _ => Tr.ev (n := 40) (N := 4) (keep := muK) (vc := true) (env0_ok _) mix (by kernel_rfl) rfl rfl rfl
  | 2, _ => Tr.ev (n := 40) (N := 4) (keep := muK) (vc := true) (env0_ok _) mix (by kernel_rfl) rfl rfl rfl
  | 3, _ => Tr.ev (n := 40) (N := 4) (keep := muK) (vc := true) (env0_ok _) mix (by kernel_rfl) rfl rfl rfl
  | 4, _ => Tr.ev (n := 40) (N := 4) (keep := muK) (vc := true) (env0_ok _) mix (by kernel_rfl) rfl rfl rfl
  | 5, _ => Tr.ev (n := 40) (N := 4) (keep := muK) (vc := true) (env0_ok _) mix (by kernel_rfl) rfl rfl rfl
  | 6, _ => Tr.ev (n := 40) (N := 4) (keep := muK) (vc := true) (env0_ok _) mix (by kernel_rfl) rfl rfl rfl
  | 7, _ => Tr.ev (n := 40) (N := 4) (keep := muK) (vc := true) (env0_ok _) mix (by kernel_rfl) rfl rfl rfl
  | 8, _ => Tr.ev (n := 40) (N := 4) (keep := muK) (vc := true) (env0_ok _) mix (by kernel_rfl) rfl rfl rfl
  | 9, _ => Tr.ev (n := 40) (N := 4) (keep := muK) (vc := true) (env0_ok _) mix (by kernel_rfl) rfl rfl rfl
  | 10, _ => Tr.ev (n := 40) (N := 4) (keep := muK) (vc := true) (env0_ok _) mix (by kernel_rfl) rfl rfl rfl
  | 11, _ => Tr.ev (n := 40) (N := 4) (keep := muK) (vc := true) (env0_ok _) mix (by kernel_rfl) rfl rfl rfl
  | 12, _ => Tr.ev (n := 40) (N := 4) (keep := muK) (vc := true) (env0_ok _) mix (by kernel_rfl) rfl rfl rfl
  | 13, _ => Tr.ev (n := 40) (N := 4) (keep := muK) (vc := true) (env0_ok _) mix (by kernel_rfl) rfl rfl rfl
  | 14, _ => Tr.ev (n := 40) (N := 4) (keep := muK) (vc := true) (env0_ok _) mix (by kernel_rfl) rfl rfl rfl
  | 15, _ => Tr.ev (n := 40) (N := 4) (keep := muK) (vc := true) (env0_ok _) mix (by kernel_rfl) rfl rfl rfl
  | k + 16, h => absurd h (by omega)
theorem mu_step1 (f g l : Nat → Int) : ∀ k, k < 16 → Tr Try.prog 0 muB (stOf (muT 1 k) (muG f g l)) .normal (stOf (muT 1 (k + 1)) (muG f g (muV f g l 1 k)))
  | 0, _ => Tr.ev (n := 40) (N := 4) (keep := muK) (vc := true) (env0_ok _) mix (by kernel_rfl) rfl rfl rfl
  | 1, _ => Tr.ev (n := 40) (N := 4) (keep := muK) (vc := true) (env0_ok _) mix (by kernel_rfl) rfl rfl rfl
  | 2, _ => Tr.ev (n := 40) (N := 4) (keep := muK) (vc := true) (env0_ok _) mix (by kernel_rfl) rfl rfl rfl
  | 3, _ => Tr.ev (n := 40) (N := 4) (keep := muK) (vc := true) (env0_ok _) mix (by kernel_rfl) rfl rfl rfl
  | 4, _ => Tr.ev (n := 40) (N := 4) (keep := muK) (vc := true) (env0_ok _) mix (by kernel_rfl) rfl rfl rfl
  | 5, _ => Tr.ev (n := 40) (N := 4) (keep := muK) (vc := true) (env0_ok _) mix (by kernel_rfl) rfl rfl rfl
  | 6, _ => Tr.ev (n := 40) (N := 4) (keep := muK) (vc := true) (env0_ok _) mix (by kernel_rfl) rfl rfl rfl
  | 7, _ => Tr.ev (n := 40) (N := 4) (keep := muK) (vc := true) (env0_ok _) mix (by kernel_rfl) rfl rfl rfl
  | 8, _ => Tr.ev (n := 40) (N := 4) (keep := muK) (vc := true) (env0_ok _) mix (by kernel_rfl) rfl rfl rfl
  | 9, _ => Tr.ev (n := 40) (N := 4) (keep := muK) (vc := true) (env0_ok _) mix (by kernel_rfl) rfl rfl rfl
  | 10, _ => Tr.ev (n := 40) (N := 4) (keep := muK) (vc := true) (env0_ok _) mix (by kernel_rfl) rfl rfl rfl
  | 11, _ => Tr.ev (n := 40) (N := 4) (keep := muK) (vc := true) (env0_ok _) mix (by kernel_rfl) rfl rfl rfl
  | 12, _ => Tr.ev (n := 40) (N := 4) (keep := muK) (vc := true) (env0_ok _) mix (by kernel_rfl) rfl rfl rfl
  | 13, _ => Tr.ev (n := 40) (N := 4) (keep := muK) (vc := true) (env0_ok _) mix (by kernel_rfl) rfl rfl rfl
  | 14, _ => Tr.ev (n := 40) (N := 4) (keep := muK) (vc := true) (env0_ok _) mix (by kernel_rfl) rfl rfl rfl
  | 15, _ => Tr.ev (n := 40) (N := 4) (keep := muK) (vc := true) (env0_ok _) mix (by kernel_rfl) rfl rfl rfl
  | k + 16, h => absurd h (by omega)
theorem mu_step2 (f g l : Nat → Int) : ∀ k, k < 16 → Tr Try.prog 0 muB (stOf (muT 2 k) (muG f g l)) .normal (stOf (muT 2 (k + 1)) (muG f g (muV f g l 2 k)))
  | 0, _ => Tr.ev (n := 40) (N := 4) (keep := muK) (vc := true) (env0_ok _) mix (by kernel_rfl) rfl rfl rfl
  | 1, _ => Tr.ev (n := 40) (N := 4) (keep := muK) (vc := true) (env0_ok _) mix (by kernel_rfl) rfl rfl rfl
  | 2, _ => Tr.ev (n := 40) (N := 4) (keep := muK) (vc := true) (env0_ok _) mix (by kernel_rfl) rfl rfl rfl
  | 3, _ => Tr.ev (n := 40) (N := 4) (keep := muK) (vc := true) (env0_ok _) mix (by kernel_rfl) rfl rfl rfl
  | 4, _ => Tr.ev (n := 40) (N := 4) (keep := muK) (vc := true) (env0_ok _) mix (by kernel_rfl) rfl rfl rfl
  | 5, _ => Tr.ev (n := 40) (N := 4) (keep := muK) (vc := true) (env0_ok _) mix (by kernel_rfl) rfl rfl rfl
  | 6, _ => Tr.ev (n := 40) (N := 4) (keep := muK) (vc := true) (env0_ok _) mix (by kernel_rfl) rfl rfl rfl
  | 7, _ => Tr.ev (n := 40) (N := 4) (keep := muK) (vc := true) (env0_ok _) mix (by kernel_rfl) rfl rfl rfl
  | 8, _ => Tr.ev (n := 40) (N := 4) (keep := muK) (vc := true) (env0_ok _) mix (by kernel_rfl) rfl rfl rfl
  | 9, _ => Tr.ev (n := 40) (N := 4) (keep := muK) (vc := true) (env0_ok _) mix (by kernel_rfl) rfl rfl rfl
  | 10, _ => Tr.ev (n := 40) (N := 4) (keep := muK) (vc := true) (env0_ok _) mix (by kernel_rfl) rfl rfl rfl
  | 11, _ => Tr.ev (n := 40) (N := 4) (keep := muK) (vc := true) (env0_ok _) mix (by kernel_rfl) rfl rfl rfl
  | 12, _ => Tr.ev (n := 40) (N := 4) (keep := muK) (vc := true) (env0_ok _) mix (by kernel_rfl) rfl rfl rfl
  | 13, _ => Tr.ev (n := 40) (N := 4) (keep := muK) (vc := true) (env0_ok _) mix (by kernel_rfl) rfl rfl rfl
  | 14, _ => Tr.ev (n := 40) (N := 4) (keep := muK) (vc := true) (env0_ok _) mix (by kernel_rfl) rfl rfl rfl
  | 15, _ => Tr.ev (n := 40) (N := 4) (keep := muK) (vc := true) (env0_ok _) mix (by kernel_rfl) rfl rfl rfl
  | k + 16, h => absurd h (by omega)
theorem mu_step3 (f g l : Nat → Int) : ∀ k, k < 16 → Tr Try.prog 0 muB (stOf (muT 3 k) (muG f g l)) .normal (stOf (muT 3 (k + 1)) (muG f g (muV f g l 3 k)))
  | 0, _ => Tr.ev (n := 40) (N := 4) (keep := muK) (vc := true) (env0_ok _) mix (by kernel_rfl) rfl rfl rfl
  | 1, _ => Tr.ev (n := 40) (N := 4) (keep := muK) (vc := true) (env0_ok _) mix (by kernel_rfl) rfl rfl rfl
  | 2, _ => Tr.ev (n := 40) (N := 4) (keep := muK) (vc := true) (env0_ok _) mix (by kernel_rfl) rfl rfl rfl
  | 3, _ => Tr.ev (n := 40) (N := 4) (keep := muK) (vc := true) (env0_ok _) mix (by kernel_rfl) rfl rfl rfl
  | 4, _ => Tr.ev (n := 40) (N := 4) (keep := muK) (vc := true) (env0_ok _) mix (by kernel_rfl) rfl rfl rfl
  | 5, _ => Tr.ev (n := 40) (N := 4) (keep := muK) (vc := true) (env0_ok _) mix (by kernel_rfl) rfl rfl rfl
  | 6, _ => Tr.ev (n := 40) (N := 4) (keep := muK) (vc := true) (env0_ok _) mix (by kernel_rfl) rfl rfl rfl
  | 7, _ => Tr.ev (n := 40) (N := 4) (keep := muK) (vc := true) (env0_ok _) mix (by kernel_rfl) rfl rfl rfl
  | 8, _ => Tr.ev (n := 40) (N := 4) (keep := muK) (vc := true) (env0_ok _) mix (by kernel_rfl) rfl rfl rfl
  | 9, _ => Tr.ev (n := 40) (N := 4) (keep := muK) (vc := true) (env0_ok _) mix (by kernel_rfl) rfl rfl rfl
  | 10, _ => Tr.ev (n := 40) (N := 4) (keep := muK) (vc := true) (env0_ok _) mix (by kernel_rfl) rfl rfl rfl
  | 11, _ => Tr.ev (n := 40) (N := 4) (keep := muK) (vc := true) (env0_ok _) mix (by kernel_rfl) rfl rfl rfl
  | 12, _ => Tr.ev (n := 40) (N := 4) (keep := muK) (vc := true) (env0_ok _) mix (by kernel_rfl) rfl rfl rfl
  | 13, _ => Tr.ev (n := 40) (N := 4) (keep := muK) (vc := true) (env0_ok _) mix (by kernel_rfl) rfl rfl rfl
  | 14, _ => Tr.ev (n := 40) (N := 4) (keep := muK) (vc := true) (env0_ok _) mix (by kernel_rfl) rfl rfl rfl
  | 15, _ => Tr.ev (n := 40) (N := 4) (keep := muK) (vc := true) (env0_ok _) mix (by kernel_rfl) rfl rfl rfl
  | k + 16, h => absurd h (by omega)
theorem mu_step4 (f g l : Nat → Int) : ∀ k, k < 16 → Tr Try.prog 0 muB (stOf (muT 4 k) (muG f g l)) .normal (stOf (muT 4 (k + 1)) (muG f g (muV f g l 4 k)))
  | 0, _ => Tr.ev (n := 40) (N := 4) (keep := muK) (vc := true) (env0_ok _) mix (by kernel_rfl) rfl rfl rfl
  | 1, _ => Tr.ev (n := 40) (N := 4) (keep := muK) (vc := true) (env0_ok _) mix (by kernel_rfl) rfl rfl rfl
  | 2, _ => Tr.ev (n := 40) (N := 4) (keep := muK) (vc := true) (env0_ok _) mix (by kernel_rfl) rfl rfl rfl
  | 3, _ => Tr.ev (n := 40) (N := 4) (keep := muK) (vc := true) (env0_ok _) mix (by kernel_rfl) rfl rfl rfl
  | 4, _ => Tr.ev (n := 40) (N := 4) (keep := muK) (vc := true) (env0_ok _) mix (by kernel_rfl) rfl rfl rfl
  | 5, _ => Tr.ev (n := 40) (N := 4) (keep := muK) (vc := true) (env0_ok _) mix (by kernel_rfl) rfl rfl rfl
  | 6, _ => Tr.ev (n := 40) (N := 4) (keep := muK) (vc := true) (env0_ok _) mix (by kernel_rfl) rfl rfl rfl
  | 7, _ => Tr.ev (n := 40) (N := 4) (keep := muK) (vc := true) (env0_ok _) mix (by kernel_rfl) rfl rfl rfl
  | 8, _ => Tr.ev (n := 40) (N := 4) (keep := muK) (vc := true) (env0_ok _) mix (by kernel_rfl) rfl rfl rfl
  | 9, _ => Tr.ev (n := 40) (N := 4) (keep := muK) (vc := true) (env0_ok _) mix (by kernel_rfl) rfl rfl rfl
  | 10, _ => Tr.ev (n := 40) (N := 4) (keep := muK) (vc := true) (env0_ok _) mix (by kernel_rfl) rfl rfl rfl
  | 11, _ => Tr.ev (n := 40) (N := 4) (keep := muK) (vc := true) (env0_ok _) mix (by kernel_rfl) rfl rfl rfl
  | 12, _ => Tr.ev (n := 40) (N := 4) (keep := muK) (vc := true) (env0_ok _) mix (by kernel_rfl) rfl rfl rfl
  | 13, _ => Tr.ev (n := 40) (N := 4) (keep := muK) (vc := true) (env0_ok _) mix (by kernel_rfl) rfl rfl rfl
  | 14, _ => Tr.ev (n := 40) (N := 4) (keep := muK) (vc := true) (env0_ok _) mix (by kernel_rfl) rfl rfl rfl
  | 15, _ => Tr.ev (n := 40) (N := 4) (keep := muK) (vc := true) (env0_ok _) mix (by kernel_rfl) rfl rfl rfl
  | k + 16, h => absurd h (by omega)
theorem mu_step5 (f g l : Nat → Int) : ∀ k, k < 16 → Tr Try.prog 0 muB (stOf (muT 5 k) (muG f g l)) .normal (stOf (muT 5 (k + 1)) (muG f g (muV f g l 5 k)))
  | 0, _ => Tr.ev (n := 40) (N := 4) (keep := muK) (vc := true) (env0_ok _) mix (by kernel_rfl) rfl rfl rfl
  | 1, _ => Tr.ev (n := 40) (N := 4) (keep := muK) (vc := true) (env0_ok _) mix (by kernel_rfl) rfl rfl rfl
  | 2, _ => Tr.ev (n := 40) (N := 4) (keep := muK) (vc := true) (env0_ok _) mix (by kernel_rfl) rfl rfl rfl
  | 3, _ => Tr.ev (n := 40) (N := 4) (keep := muK) (vc := true) (env0_ok _) mix (by kernel_rfl) rfl rfl rfl
  | 4, _ => Tr.ev (n := 40) (N := 4) (keep := muK) (vc := true) (env0_ok _) mix (by kernel_rfl) rfl rfl rfl
  | 5, _ => Tr.ev (n := 40) (N := 4) (keep := muK) (vc := true) (env0_ok _) mix (by kernel_rfl) rfl rfl rfl
  | 6, _ => Tr.ev (n := 40) (N := 4) (keep := muK) (vc := true) (env0_ok _) mix (by kernel_rfl) rfl rfl rfl
  | 7, _ => Tr.ev (n := 40) (N := 4) (keep := muK) (vc := true) (env0_ok _) mix (by kernel_rfl) rfl rfl rfl
  | 8, _ => Tr.ev (n := 40) (N := 4) (keep := muK) (vc := true) (env0_ok _) mix (by kernel_rfl) rfl rfl rfl
  | 9, _ => Tr.ev (n := 40) (N := 4) (keep := muK) (vc := true) (env0_ok _) mix (by kernel_rfl) rfl rfl rfl
  | 10, _ => Tr.ev (n := 40) (N := 4) (keep := muK) (vc := true) (env0_ok _) mix (by kernel_rfl) rfl rfl rfl
  | 11, _ => Tr.ev (n := 40) (N := 4) (keep := muK) (vc := true) (env0_ok _) mix (by kernel_rfl) rfl rfl rfl
  | 12, _ => Tr.ev (n := 40) (N := 4) (keep := muK) (vc := true) (env0_ok _) mix (by kernel_rfl) rfl rfl rfl
  | 13, _ => Tr.ev (n := 40) (N := 4) (keep := muK) (vc := true) (env0_ok _) mix (by kernel_rfl) rfl rfl rfl
  | 14, _ => Tr.ev (n := 40) (N := 4) (keep := muK) (vc := true) (env0_ok _) mix (by kernel_rfl) rfl rfl rfl
  | 15, _ => Tr.ev (n := 40) (N := 4) (keep := muK) (vc := true) (env0_ok _) mix (by kernel_rfl) rfl rfl rfl
  | k + 16, h => absurd h (by omega)
theorem mu_step6 (f g l : Nat → Int) : ∀ k, k < 16 → Tr Try.prog 0 muB (stOf (muT 6 k) (muG f g l)) .normal (stOf (muT 6 (k + 1)) (muG f g (muV f g l 6 k)))
  | 0, _ => Tr.ev (n := 40) (N := 4) (keep := muK) (vc := true) (env0_ok _) mix (by kernel_rfl) rfl rfl rfl
  | 1, _ => Tr.ev (n := 40) (N := 4) (keep := muK) (vc := true) (env0_ok _) mix (by kernel_rfl) rfl rfl rfl
  | 2, _ => Tr.ev (n := 40) (N := 4) (keep := muK) (vc := true) (env0_ok _) mix (by kernel_rfl) rfl rfl rfl
  | 3, _ => Tr.ev (n := 40) (N := 4) (keep := muK) (vc := true) (env0_ok _) mix (by kernel_rfl) rfl rfl rfl
  | 4, _ => Tr.ev (n := 40) (N := 4) (keep := muK) (vc := true) (env0_ok _) mix (by kernel_rfl) rfl rfl rfl
  | 5, _ => Tr.ev (n := 40) (N := 4) (keep := muK) (vc := true) (env0_ok _) mix (by kernel_rfl) rfl rfl rfl
  | 6, _ => Tr.ev (n := 40) (N := 4) (keep := muK) (vc := true) (env0_ok _) mix (by kernel_rfl) rfl rfl rfl
  | 7, _ => Tr.ev (n := 40) (N := 4) (keep := muK) (vc := true) (env0_ok _) mix (by kernel_rfl) rfl rfl rfl
  | 8, _ => Tr.ev (n := 40) (N := 4) (keep := muK) (vc := true) (env0_ok _) mix (by kernel_rfl) rfl rfl rfl
  | 9, _ => Tr.ev (n := 40) (N := 4) (keep := muK) (vc := true) (env0_ok _) mix (by kernel_rfl) rfl rfl rfl
  | 10, _ => Tr.ev (n := 40) (N := 4) (keep := muK) (vc := true) (env0_ok _) mix (by kernel_rfl) rfl rfl rfl
  | 11, _ => Tr.ev (n := 40) (N := 4) (keep := muK) (vc := true) (env0_ok _) mix (by kernel_rfl) rfl rfl rfl
  | 12, _ => Tr.ev (n := 40) (N := 4) (keep := muK) (vc := true) (env0_ok _) mix (by kernel_rfl) rfl rfl rfl
  | 13, _ => Tr.ev (n := 40) (N := 4) (keep := muK) (vc := true) (env0_ok _) mix (by kernel_rfl) rfl rfl rfl
  | 14, _ => Tr.ev (n := 40) (N := 4) (keep := muK) (vc := true) (env0_ok _) mix (by kernel_rfl) rfl rfl rfl
  | 15, _ => Tr.ev (n := 40) (N := 4) (keep := muK) (vc := true) (env0_ok _) mix (by kernel_rfl) rfl rfl rfl
  | k + 16, h => absurd h (by omega)
theorem mu_step7 (f g l : Nat → Int) : ∀ k, k < 16 → Tr Try.prog 0 muB (stOf (muT 7 k) (muG f g l)) .normal (stOf (muT 7 (k + 1)) (muG f g (muV f g l 7 k)))
  | 0, _ => Tr.ev (n := 40) (N := 4) (keep := muK) (vc := true) (env0_ok _) mix (by kernel_rfl) rfl rfl rfl
  | 1, _ => Tr.ev (n := 40) (N := 4) (keep := muK) (vc := true) (env0_ok _) mix (by kernel_rfl) rfl rfl rfl
  | 2, _ => Tr.ev (n := 40) (N := 4) (keep := muK) (vc := true) (env0_ok _) mix (by kernel_rfl) rfl rfl rfl
  | 3, _ => Tr.ev (n := 40) (N := 4) (keep := muK) (vc := true) (env0_ok _) mix (by kernel_rfl) rfl rfl rfl
  | 4, _ => Tr.ev (n := 40) (N := 4) (keep := muK) (vc := true) (env0_ok _) mix (by kernel_rfl) rfl rfl rfl
  | 5, _ => Tr.ev (n := 40) (N := 4) (keep := muK) (vc := true) (env0_ok _) mix (by kernel_rfl) rfl rfl rfl
  | 6, _ => Tr.ev (n := 40) (N := 4) (keep := muK) (vc := true) (env0_ok _) mix (by kernel_rfl) rfl rfl rfl
  | 7, _ => Tr.ev (n := 40) (N := 4) (keep := muK) (vc := true) (env0_ok _) mix (by kernel_rfl) rfl rfl rfl
  | 8, _ => Tr.ev (n := 40) (N := 4) (keep := muK) (vc := true) (env0_ok _) mix (by kernel_rfl) rfl rfl rfl
  | 9, _ => Tr.ev (n := 40) (N := 4) (keep := muK) (vc := true) (env0_ok _) mix (by kernel_rfl) rfl rfl rfl
  | 10, _ => Tr.ev (n := 40) (N := 4) (keep := muK) (vc := true) (env0_ok _) mix (by kernel_rfl) rfl rfl rfl
  | 11, _ => Tr.ev (n := 40) (N := 4) (keep := muK) (vc := true) (env0_ok _) mix (by kernel_rfl) rfl rfl rfl
  | 12, _ => Tr.ev (n := 40) (N := 4) (keep := muK) (vc := true) (env0_ok _) mix (by kernel_rfl) rfl rfl rfl
  | 13, _ => Tr.ev (n := 40) (N := 4) (keep := muK) (vc := true) (env0_ok _) mix (by kernel_rfl) rfl rfl rfl
  | 14, _ => Tr.ev (n := 40) (N := 4) (keep := muK) (vc := true) (env0_ok _) mix (by kernel_rfl) rfl rfl rfl
  | 15, _ => Tr.ev (n := 40) (N := 4) (keep := muK) (vc := true) (env0_ok _) mix (by kernel_rfl) rfl rfl rfl
  | k + 16, h => absurd h (by omega)
theorem mu_step8 (f g l : Nat → Int) : ∀ k, k < 16 → Tr Try.prog 0 muB (stOf (muT 8 k) (muG f g l)) .normal (stOf (muT 8 (k + 1)) (muG f g (muV f g l 8 k)))
  | 0, _ => Tr.ev (n := 40) (N := 4) (keep := muK) (vc := true) (env0_ok _) mix (by kernel_rfl) rfl rfl rfl
  | 1, _ => Tr.ev (n := 40) (N := 4) (keep := muK) (vc := true) (env0_ok _) mix (by kernel_rfl) rfl rfl rfl
  | 2, _ => Tr.ev (n := 40) (N := 4) (keep := muK) (vc := true) (env0_ok _) mix (by kernel_rfl) rfl rfl rfl
  | 3, _ => Tr.ev (n := 40) (N := 4) (keep := muK) (vc := true) (env0_ok _) mix (by kernel_rfl) rfl rfl rfl
  | 4, _ => Tr.ev (n := 40) (N := 4) (keep := muK) (vc := true) (env0_ok _) mix (by kernel_rfl) rfl rfl rfl
  | 5, _ => Tr.ev (n := 40) (N := 4) (keep := muK) (vc := true) (env0_ok _) mix (by kernel_rfl) rfl rfl rfl
  | 6, _ => Tr.ev (n := 40) (N := 4) (keep := muK) (vc := true) (env0_ok _) mix (by kernel_rfl) rfl rfl rfl
  | 7, _ => Tr.ev (n := 40) (N := 4) (keep := muK) (vc := true) (env0_ok _) mix (by kernel_rfl) rfl rfl rfl
  | 8, _ => Tr.ev (n := 40) (N := 4) (keep := muK) (vc := true) (env0_ok _) mix (by kernel_rfl) rfl rfl rfl
  | 9, _ => Tr.ev (n := 40) (N := 4) (keep := muK) (vc := true) (env0_ok _) mix (by kernel_rfl) rfl rfl rfl
  | 10, _ => Tr.ev (n := 40) (N := 4) (keep := muK) (vc := true) (env0_ok _) mix (by kernel_rfl) rfl rfl rfl
  | 11, _ => Tr.ev (n := 40) (N := 4) (keep := muK) (vc := true) (env0_ok _) mix (by kernel_rfl) rfl rfl rfl
  | 12, _ => Tr.ev (n := 40) (N := 4) (keep := muK) (vc := true) (env0_ok _) mix (by kernel_rfl) rfl rfl rfl
  | 13, _ => Tr.ev (n := 40) (N := 4) (keep := muK) (vc := true) (env0_ok _) mix (by kernel_rfl) rfl rfl rfl
  | 14, _ => Tr.ev (n := 40) (N := 4) (keep := muK) (vc := true) (env0_ok _) mix (by kernel_rfl) rfl rfl rfl
  | 15, _ => Tr.ev (n := 40) (N := 4) (keep := muK) (vc := true) (env0_ok _) mix (by kernel_rfl) rfl rfl rfl
  | k + 16, h => absurd h (by omega)
theorem mu_step9 (f g l : Nat → Int) : ∀ k, k < 16 → Tr Try.prog 0 muB (stOf (muT 9 k) (muG f g l)) .normal (stOf (muT 9 (k + 1)) (muG f g (muV f g l 9 k)))
  | 0, _ => Tr.ev (n := 40) (N := 4) (keep := muK) (vc := true) (env0_ok _) mix (by kernel_rfl) rfl rfl rfl
  | 1, _ => Tr.ev (n := 40) (N := 4) (keep := muK) (vc := true) (env0_ok _) mix (by kernel_rfl) rfl rfl rfl
  | 2, _ => Tr.ev (n := 40) (N := 4) (keep := muK) (vc := true) (env0_ok _) mix (by kernel_rfl) rfl rfl rfl
  | 3, _ => Tr.ev (n := 40) (N := 4) (keep := muK) (vc := true) (env0_ok _) mix (by kernel_rfl) rfl rfl rfl
  | 4, _ => Tr.ev (n := 40) (N := 4) (keep := muK) (vc := true) (env0_ok _) mix (by kernel_rfl) rfl rfl rfl
  | 5, _ => Tr.ev (n := 40) (N := 4) (keep := muK) (vc := true) (env0_ok _) mix (by kernel_rfl) rfl rfl rfl
  | 6, _ => Tr.ev (n := 40) (N := 4) (keep := muK) (vc := true) (env0_ok _) mix (by kernel_rfl) rfl rfl rfl
  | 7, _ => Tr.ev (n := 40) (N := 4) (keep := muK) (vc := true) (env0_ok _) mix (by kernel_rfl) rfl rfl rfl
  | 8, _ => Tr.ev (n := 40) (N := 4) (keep := muK) (vc := true) (env0_ok _) mix (by kernel_rfl) rfl rfl rfl
  | 9, _ => Tr.ev (n := 40) (N := 4) (keep := muK) (vc := true) (env0_ok _) mix (by kernel_rfl) rfl rfl rfl
  | 10, _ => Tr.ev (n := 40) (N := 4) (keep := muK) (vc := true) (env0_ok _) mix (by kernel_rfl) rfl rfl rfl
  | 11, _ => Tr.ev (n := 40) (N := 4) (keep := muK) (vc := true) (env0_ok _) mix (by kernel_rfl) rfl rfl rfl
  | 12, _ => Tr.ev (n := 40) (N := 4) (keep := muK) (vc := true) (env0_ok _) mix (by kernel_rfl) rfl rfl rfl
  | 13, _ => Tr.ev (n := 40) (N := 4) (keep := muK) (vc := true) (env0_ok _) mix (by kernel_rfl) rfl rfl rfl
  | 14, _ => Tr.ev (n := 40) (N := 4) (keep := muK) (vc := true) (env0_ok _) mix (by kernel_rfl) rfl rfl rfl
  | 15, _ => Tr.ev (n := 40) (N := 4) (keep := muK) (vc := true) (env0_ok _) mix (by kernel_rfl) rfl rfl rfl
  | k + 16, h => absurd h (by omega)
theorem mu_step10 (f g l : Nat → Int) : ∀ k, k < 16 → Tr Try.prog 0 muB (stOf (muT 10 k) (muG f g l)) .normal (stOf (muT 10 (k + 1)) (muG f g (muV f g l 10 k)))
  | 0, _ => Tr.ev (n := 40) (N := 4) (keep := muK) (vc := true) (env0_ok _) mix (by kernel_rfl) rfl rfl rfl
  | 1, _ => Tr.ev (n := 40) (N := 4) (keep := muK) (vc := true) (env0_ok _) mix (by kernel_rfl) rfl rfl rfl
  | 2, _ => Tr.ev (n := 40) (N := 4) (keep := muK) (vc := true) (env0_ok _) mix (by kernel_rfl) rfl rfl rfl
  | 3, _ => Tr.ev (n := 40) (N := 4) (keep := muK) (vc := true) (env0_ok _) mix (by kernel_rfl) rfl rfl rfl
  | 4, _ => Tr.ev (n := 40) (N := 4) (keep := muK) (vc := true) (env0_ok _) mix (by kernel_rfl) rfl rfl rfl
  | 5, _ => Tr.ev (n := 40) (N := 4) (keep := muK) (vc := true) (env0_ok _) mix (by kernel_rfl) rfl rfl rfl
  | 6, _ => Tr.ev (n := 40) (N := 4) (keep := muK) (vc := true) (env0_ok _) mix (by kernel_rfl) rfl rfl rfl
  | 7, _ => Tr.ev (n := 40) (N := 4) (keep := muK) (vc := true) (env0_ok _) mix (by kernel_rfl) rfl rfl rfl
  | 8, _ => Tr.ev (n := 40) (N := 4) (keep := muK) (vc := true) (env0_ok _) mix (by kernel_rfl) rfl rfl rfl
  | 9, _ => Tr.ev (n := 40) (N := 4) (keep := muK) (vc := true) (env0_ok _) mix (by kernel_rfl) rfl rfl rfl
  | 10, _ => Tr.ev (n := 40) (N := 4) (keep := muK) (vc := true) (env0_ok _) mix (by kernel_rfl) rfl rfl rfl
  | 11, _ => Tr.ev (n := 40) (N := 4) (keep := muK) (vc := true) (env0_ok _) mix (by kernel_rfl) rfl rfl rfl
  | 12, _ => Tr.ev (n := 40) (N := 4) (keep := muK) (vc := true) (env0_ok _) mix (by kernel_rfl) rfl rfl rfl
  | 13, _ => Tr.ev (n := 40) (N := 4) (keep := muK) (vc := true) (env0_ok _) mix (by kernel_rfl) rfl rfl rfl
  | 14, _ => Tr.ev (n := 40) (N := 4) (keep := muK) (vc := true) (env0_ok _) mix (by kernel_rfl) rfl rfl rfl
  | 15, _ => Tr.ev (n := 40) (N := 4) (keep := muK) (vc := true) (env0_ok _) mix (by kernel_rfl) rfl rfl rfl
  | k + 16, h => absurd h (by omega)
theorem mu_step11 (f g l : Nat → Int) : ∀ k, k < 16 → Tr Try.prog 0 muB (stOf (muT 11 k) (muG f g l)) .normal (stOf (muT 11 (k + 1)) (muG f g (muV f g l 11 k)))
  | 0, _ => Tr.ev (n := 40) (N := 4) (keep := muK) (vc := true) (env0_ok _) mix (by kernel_rfl) rfl rfl rfl
  | 1, _ => Tr.ev (n := 40) (N := 4) (keep := muK) (vc := true) (env0_ok _) mix (by kernel_rfl) rfl rfl rfl
  | 2, _ => Tr.ev (n := 40) (N := 4) (keep := muK) (vc := true) (env0_ok _) mix (by kernel_rfl) rfl rfl rfl
  | 3, _ => Tr.ev (n := 40) (N := 4) (keep := muK) (vc := true) (env0_ok _) mix (by kernel_rfl) rfl rfl rfl
  | 4, _ => Tr.ev (n := 40) (N := 4) (keep := muK) (vc := true) (env0_ok _) mix (by kernel_rfl) rfl rfl rfl
  | 5, _ => Tr.ev (n := 40) (N := 4) (keep := muK) (vc := true) (env0_ok _) mix (by kernel_rfl) rfl rfl rfl
  | 6, _ => Tr.ev (n := 40) (N := 4) (keep := muK) (vc := true) (env0_ok _) mix (by kernel_rfl) rfl rfl rfl
  | 7, _ => Tr.ev (n := 40) (N := 4) (keep := muK) (vc := true) (env0_ok _) mix (by kernel_rfl) rfl rfl rfl
  | 8, _ => Tr.ev (n := 40) (N := 4) (keep := muK) (vc := true) (env0_ok _) mix (by kernel_rfl) rfl rfl rfl
  | 9, _ => Tr.ev (n := 40) (N := 4) (keep := muK) (vc := true) (env0_ok _) mix (by kernel_rfl) rfl rfl rfl
  | 10, _ => Tr.ev (n := 40) (N := 4) (keep := muK) (vc := true) (env0_ok _) mix (by kernel_rfl) rfl rfl rfl
  | 11, _ => Tr.ev (n := 40) (N := 4) (keep := muK) (vc := true) (env0_ok _) mix (by kernel_rfl) rfl rfl rfl
  | 12, _ => Tr.ev (n := 40) (N := 4) (keep := muK) (vc := true) (env0_ok _) mix (by kernel_rfl) rfl rfl rfl
  | 13, _ => Tr.ev (n := 40) (N := 4) (keep := muK) (vc := true) (env0_ok _) mix (by kernel_rfl) rfl rfl rfl
  | 14, _ => Tr.ev (n := 40) (N := 4) (keep := muK) (vc := true) (env0_ok _) mix (by kernel_rfl) rfl rfl rfl
  | 15, _ => Tr.ev (n := 40) (N := 4) (keep := muK) (vc := true) (env0_ok _) mix (by kernel_rfl) rfl rfl rfl
  | k + 16, h => absurd h (by omega)
theorem mu_step12 (f g l : Nat → Int) : ∀ k, k < 16 → Tr Try.prog 0 muB (stOf (muT 12 k) (muG f g l)) .normal (stOf (muT 12 (k + 1)) (muG f g (muV f g l 12 k)))
  | 0, _ => Tr.ev (n := 40) (N := 4) (keep := muK) (vc := true) (env0_ok _) mix (by kernel_rfl) rfl rfl rfl
  | 1, _ => Tr.ev (n := 40) (N := 4) (keep := muK) (vc := true) (env0_ok _) mix (by kernel_rfl) rfl rfl rfl
  | 2, _ => Tr.ev (n := 40) (N := 4) (keep := muK) (vc := true) (env0_ok _) mix (by kernel_rfl) rfl rfl rfl
  | 3, _ => Tr.ev (n := 40) (N := 4) (keep := muK) (vc := true) (env0_ok _) mix (by kernel_rfl) rfl rfl rfl
  | 4, _ => Tr.ev (n := 40) (N := 4) (keep := muK) (vc := true) (env0_ok _) mix (by kernel_rfl) rfl rfl rfl
  | 5, _ => Tr.ev (n := 40) (N := 4) (keep := muK) (vc := true) (env0_ok _) mix (by kernel_rfl) rfl rfl rfl
  | 6, _ => Tr.ev (n := 40) (N := 4) (keep := muK) (vc := true) (env0_ok _) mix (by kernel_rfl) rfl rfl rfl
  | 7, _ => Tr.ev (n := 40) (N := 4) (keep := muK) (vc := true) (env0_ok _) mix (by kernel_rfl) rfl rfl rfl
  | 8, _ => Tr.ev (n := 40) (N := 4) (keep := muK) (vc := true) (env0_ok _) mix (by kernel_rfl) rfl rfl rfl
  | 9, _ => Tr.ev (n := 40) (N := 4) (keep := muK) (vc := true) (env0_ok _) mix (by kernel_rfl) rfl rfl rfl
  | 10, _ => Tr.ev (n := 40) (N := 4) (keep := muK) (vc := true) (env0_ok _) mix (by kernel_rfl) rfl rfl rfl
  | 11, _ => Tr.ev (n := 40) (N := 4) (keep := muK) (vc := true) (env0_ok _) mix (by kernel_rfl) rfl rfl rfl
  | 12, _ => Tr.ev (n := 40) (N := 4) (keep := muK) (vc := true) (env0_ok _) mix (by kernel_rfl) rfl rfl rfl
  | 13, _ => Tr.ev (n := 40) (N := 4) (keep := muK) (vc := true) (env0_ok _) mix (by kernel_rfl) rfl rfl rfl
  | 14, _ => Tr.ev (n := 40) (N := 4) (keep := muK) (vc := true) (env0_ok _) mix (by kernel_rfl) rfl rfl rfl
  | 15, _ => Tr.ev (n := 40) (N := 4) (keep := muK) (vc := true) (env0_ok _) mix (by kernel_rfl) rfl rfl rfl
  | k + 16, h => absurd h (by omega)
theorem mu_step13 (f g l : Nat → Int) : ∀ k, k < 16 → Tr Try.prog 0 muB (stOf (muT 13 k) (muG f g l)) .normal (stOf (muT 13 (k + 1)) (muG f g (muV f g l 13 k)))
  | 0, _ => Tr.ev (n := 40) (N := 4) (keep := muK) (vc := true) (env0_ok _) mix (by kernel_rfl) rfl rfl rfl
  | 1, _ => Tr.ev (n := 40) (N := 4) (keep := muK) (vc := true) (env0_ok _) mix (by kernel_rfl) rfl rfl rfl
  | 2, _ => Tr.ev (n := 40) (N := 4) (keep := muK) (vc := true) (env0_ok _) mix (by kernel_rfl) rfl rfl rfl
  | 3, _ => Tr.ev (n := 40) (N := 4) (keep := muK) (vc := true) (env0_ok _) mix (by kernel_rfl) rfl rfl rfl
  | 4, _ => Tr.ev (n := 40) (N := 4) (keep := muK) (vc := true) (env0_ok _) mix (by kernel_rfl) rfl rfl rfl
  | 5, _ => Tr.ev (n := 40) (N := 4) (keep := muK) (vc := true) (env0_ok _) mix (by kernel_rfl) rfl rfl rfl
  | 6, _ => Tr.ev (n := 40) (N := 4) (keep := muK) (vc := true) (env0_ok _) mix (by kernel_rfl) rfl rfl rfl
  | 7, _ => Tr.ev (n := 40) (N := 4) (keep := muK) (vc := true) (env0_ok _) mix (by kernel_rfl) rfl rfl rfl
  | 8, _ => Tr.ev (n := 40) (N := 4) (keep := muK) (vc := true) (env0_ok _) mix (by kernel_rfl) rfl rfl rfl
  | 9, _ => Tr.ev (n := 40) (N := 4) (keep := muK) (vc := true) (env0_ok _) mix (by kernel_rfl) rfl rfl rfl
  | 10, _ => Tr.ev (n := 40) (N := 4) (keep := muK) (vc := true) (env0_ok _) mix (by kernel_rfl) rfl rfl rfl
  | 11, _ => Tr.ev (n := 40) (N := 4) (keep := muK) (vc := true) (env0_ok _) mix (by kernel_rfl) rfl rfl rfl
  | 12, _ => Tr.ev (n := 40) (N := 4) (keep := muK) (vc := true) (env0_ok _) mix (by kernel_rfl) rfl rfl rfl
  | 13, _ => Tr.ev (n := 40) (N := 4) (keep := muK) (vc := true) (env0_ok _) mix (by kernel_rfl) rfl rfl rfl
  | 14, _ => Tr.ev (n := 40) (N := 4) (keep := muK) (vc := true) (env0_ok _) mix (by kernel_rfl) rfl rfl rfl
  | 15, _ => Tr.ev (n := 40) (N := 4) (keep := muK) (vc := true) (env0_ok _) mix (by kernel_rfl) rfl rfl rfl
  | k + 16, h => absurd h (by omega)
theorem mu_step14 (f g l : Nat → Int) : ∀ k, k < 16 → Tr Try.prog 0 muB (stOf (muT 14 k) (muG f g l)) .normal (stOf (muT 14 (k + 1)) (muG f g (muV f g l 14 k)))
  | 0, _ => Tr.ev (n := 40) (N := 4) (keep := muK) (vc := true) (env0_ok _) mix (by kernel_rfl) rfl rfl rfl
  | 1, _ => Tr.ev (n := 40) (N := 4) (keep := muK) (vc := true) (env0_ok _) mix (by kernel_rfl) rfl rfl rfl
  | 2, _ => Tr.ev (n := 40) (N := 4) (keep := muK) (vc := true) (env0_ok _) mix (by kernel_rfl) rfl rfl rfl
  | 3, _ => Tr.ev (n := 40) (N := 4) (keep := muK) (vc := true) (env0_ok _) mix (by kernel_rfl) rfl rfl rfl
  | 4, _ => Tr.ev (n := 40) (N := 4) (keep := muK) (vc := true) (env0_ok _) mix (by kernel_rfl) rfl rfl rfl
  | 5, _ => Tr.ev (n := 40) (N := 4) (keep := muK) (vc := true) (env0_ok _) mix (by kernel_rfl) rfl rfl rfl
  | 6, _ => Tr.ev (n := 40) (N := 4) (keep := muK) (vc := true) (env0_ok _) mix (by kernel_rfl) rfl rfl rfl
  | 7, _ => Tr.ev (n := 40) (N := 4) (keep := muK) (vc := true) (env0_ok _) mix (by kernel_rfl) rfl rfl rfl
  | 8, _ => Tr.ev (n := 40) (N := 4) (keep := muK) (vc := true) (env0_ok _) mix (by kernel_rfl) rfl rfl rfl
  | 9, _ => Tr.ev (n := 40) (N := 4) (keep := muK) (vc := true) (env0_ok _) mix (by kernel_rfl) rfl rfl rfl
  | 10, _ => Tr.ev (n := 40) (N := 4) (keep := muK) (vc := true) (env0_ok _) mix (by kernel_rfl) rfl rfl rfl
  | 11, _ => Tr.ev (n := 40) (N := 4) (keep := muK) (vc := true) (env0_ok _) mix (by kernel_rfl) rfl rfl rfl
  | 12, _ => Tr.ev (n := 40) (N := 4) (keep := muK) (vc := true) (env0_ok _) mix (by kernel_rfl) rfl rfl rfl
  | 13, _ => Tr.ev (n := 40) (N := 4) (keep := muK) (vc := true) (env0_ok _) mix (by kernel_rfl) rfl rfl rfl
  | 14, _ => Tr.ev (n := 40) (N := 4) (keep := muK) (vc := true) (env0_ok _) mix (by kernel_rfl) rfl rfl rfl
  | 15, _ => Tr.ev (n := 40) (N := 4) (keep := muK) (vc := true) (env0_ok _) mix (by kernel_rfl) rfl rfl rfl
  | k + 16, h => absurd h (by omega)
theorem mu_step15 (f g l : Nat → Int) : ∀ k, k < 16 → Tr Try.prog 0 muB (stOf (muT 15 k) (muG f g l)) .normal (stOf (muT 15 (k + 1)) (muG f g (muV f g l 15 k)))
  | 0, _ => Tr.ev (n := 40) (N := 4) (keep := muK) (vc := true) (env0_ok _) mix (by kernel_rfl) rfl rfl rfl
  | 1, _ => Tr.ev (n := 40) (N := 4) (keep := muK) (vc := true) (env0_ok _) mix (by kernel_rfl) rfl rfl rfl
  | 2, _ => Tr.ev (n := 40) (N := 4) (keep := muK) (vc := true) (env0_ok _) mix (by kernel_rfl) rfl rfl rfl
  | 3, _ => Tr.ev (n := 40) (N := 4) (keep := muK) (vc := true) (env0_ok _) mix (by kernel_rfl) rfl rfl rfl
  | 4, _ => Tr.ev (n := 40) (N := 4) (keep := muK) (vc := true) (env0_ok _) mix (by kernel_rfl) rfl rfl rfl
  | 5, _ => Tr.ev (n := 40) (N := 4) (keep := muK) (vc := true) (env0_ok _) mix (by kernel_rfl) rfl rfl rfl
  | 6, _ => Tr.ev (n := 40) (N := 4) (keep := muK) (vc := true) (env0_ok _) mix (by kernel_rfl) rfl rfl rfl
  | 7, _ => Tr.ev (n := 40) (N := 4) (keep := muK) (vc := true) (env0_ok _) mix (by kernel_rfl) rfl rfl rfl
  | 8, _ => Tr.ev (n := 40) (N := 4) (keep := muK) (vc := true) (env0_ok _) mix (by kernel_rfl) rfl rfl rfl
  | 9, _ => Tr.ev (n := 40) (N := 4) (keep := muK) (vc := true) (env0_ok _) mix (by kernel_rfl) rfl rfl rfl
  | 10, _ => Tr.ev (n := 40) (N := 4) (keep := muK) (vc := true) (env0_ok _) mix (by kernel_rfl) rfl rfl rfl
  | 11, _ => Tr.ev (n := 40) (N := 4) (keep := muK) (vc := true) (env0_ok _) mix (by kernel_rfl) rfl rfl rfl
  | 12, _ => Tr.ev (n := 40) (N := 4) (keep := muK) (vc := true) (env0_ok _) mix (by kernel_rfl) rfl rfl rfl
  | 13, _ => Tr.ev (n := 40) (N := 4) (keep := muK) (vc := true) (env0_ok _) mix (by kernel_rfl) rfl rfl rfl
  | 14, _ => Tr.ev (n := 40) (N := 4) (keep := muK) (vc := true) (env0_ok _) mix (by kernel_rfl) rfl rfl rfl
  | 15, _ => Tr.ev (n := 40) (N := 4) (keep := muK) (vc := true) (env0_ok _) mix (by kernel_rfl) rfl rfl rfl
  | k + 16, h => absurd h (by omega)
theorem mu_step (f g l : Nat → Int) : ∀ i, i < 16 → ∀ k, k < 16 → Tr Try.prog 0 muB (stOf (muT i k) (muG f g l)) .normal (stOf (muT i (k + 1)) (muG f g (muV f g l i k)))
  | 0, _ => mu_step0 f g l
  | 1, _ => mu_step1 f g l
  | 2, _ => mu_step2 f g l
  | 3, _ => mu_step3 f g l
  | 4, _ => mu_step4 f g l
  | 5, _ => mu_step5 f g l
  | 6, _ => mu_step6 f g l
  | 7, _ => mu_step7 f g l
  | 8, _ => mu_step8 f g l
  | 9, _ => mu_step9 f g l
  | 10, _ => mu_step10 f g l
  | 11, _ => mu_step11 f g l
  | 12, _ => mu_step12 f g l
  | 13, _ => mu_step13 f g l
  | 14, _ => mu_step14 f g l
  | 15, _ => mu_step15 f g l
  | k + 16, h => absurd h (by omega)

def muR (f g l : Nat → Int) (i : Nat) : Nat → Nat → Int
  | 0 => l
  | k + 1 => muV f g (muR f g l i k) i k
def muL (f g : Nat → Int) : Nat → Nat → Int
  | 0 => fun _ => 0
  | i + 1 => muR f g (muL f g i) i 16

theorem mu_round (f g l : Nat → Int) (i : Nat) (hi : i < 16) : Tr Try.prog 0 muRB (stOf (muA (i : Nat)) (muG f g l)) .normal (stOf (muA ((i + 1 : Nat) : Int)) (muG f g (muR f g l i 16))) := by
  rw [muRB_eq]
  refine Tr.seq (mu_test f g l i hi) (Tr.seq (Tr.block (s1 := stOf (muT i 16) (muG f g (muR f g l i 16))) ?_ (by intro i h; cases h)) (mu_next f g _ i hi))
  refine Tr.pre (env0_ok _) mix 1 muK (mu_zero f g l i) rfl ?_
  rw [muI_eq]
  exact Tr.iter (S := fun k => stOf (muT i k) (muG f g (muR f g l i k))) (n := 16) (fun k hk => mu_step f g _ i hi k hk) (mu_end f g _ i)

def muT9 : List T := tmk [(4, .ptr 2 [])] 0 36
noncomputable def muG9 (f g l : Nat → Int) : Heap := [some (D16 f), some (D16 g), some (nnA (foldF l)), some (D32 l)]
theorem mu_post (f g l : Nat → Int) (h : foldB l = true) : Tr Try.prog 0 (cR muX) (stOf (muA 16) (muG f g l)) .ret (stOf muT9 (muG9 f g l)) :=
  Tr.ev (n := 1000000) (N := 4) (keep := maskOf [4]) (vc := (foldB l && true) && true) envR1_ok mix (by kernel_rfl) (by rw [h]; rfl) rfl rfl

theorem mu_tr (f g : Nat → Int) (h : foldB (muL f g 16) = true) : Tr Try.prog 0 muC (stOf ([D16 f, D16 g] ++ undefs 34) []) .ret (stOf muT9 (muG9 f g (muL f g 16))) := by
  refine Tr.pre (env0_ok _) mix 2 muK (mu_pre f g) rfl ?_
  rw [muX_eq]
  refine Tr.seq (s1 := stOf (muA 16) (muG f g (muL f g 16))) ?_ (mu_post f g _ h)
  refine Tr.pre (env0_ok _) mix 1 muK (mu_ini f g _) rfl ?_
  exact Tr.iter (S := fun i => stOf (muA (i : Nat)) (muG f g (muL f g i))) (n := 16) (fun i hi => mu_round f g _ i hi) (mu_last f g _)

end Go.Proofs.Ytiolcdjnmnhcgaa
