/- fardelref01.folded: the walk. No condition. -/
import Derived.Test.YtiolcdjnmnhcgaaJ2
namespace Go.Proofs.Ytiolcdjnmnhcgaa
open Go.AE Fardel
set_option maxRecDepth 100000

noncomputable def envR0 : Env := ((env0.set 78 (pureModel PM)).set 77 (pureModel lessM)).set 84 (pureModel LessM)
theorem envR0_ok : EnvOK Try.prog envR0 := (((env0_ok _).set PM_ok).set lessM_ok).set LessM_ok

noncomputable def fdC : Code := bodyC Try.f76
noncomputable def fdX1 : Code := postC 1 fdC
noncomputable def fdL1 : Code := cL fdX1
noncomputable def fdRest : Code := cR fdX1
noncomputable def fdRB : Code := cB (cB (cR fdL1))
noncomputable def fdI : Code := cB (cL (cR fdRB))
noncomputable def fdJ : Code := cR fdI
noncomputable def fdB1 : Code := cB (cB (cR (cL fdJ)))
noncomputable def fdB2 : Code := cB (cB (cR (cR fdJ)))
noncomputable def fdY : Code := postC 2 fdRest
noncomputable def fdB3 : Code := cB (cB (cR (cL fdY)))
noncomputable def fdZ : Code := cR fdY
noncomputable def fdB4 : Code := cB (cB (cL (cR fdZ)))
theorem fdX1_eq : postC 1 fdC = .seq (.seq (cL fdL1) (.block 0 (.loop fdRB))) fdRest := by kernel_rfl
theorem fdRB_eq : fdRB = .seq (cL fdRB) (.seq (.block 1 fdI) (cR (cR fdRB))) := by kernel_rfl
theorem fdI_eq : postC 1 fdI = .seq (.seq (cL (cL fdJ)) (.block 2 (.loop fdB1))) (.seq (cL (cR fdJ)) (.block 4 (.loop fdB2))) := by kernel_rfl
theorem fdY_eq : postC 2 fdRest = .seq (.seq (cL (cL fdY)) (.block 6 (.loop fdB3))) fdZ := by kernel_rfl
theorem fdZ_eq : postC 1 fdZ = .seq (.block 8 (.loop fdB4)) (cR (cR fdZ)) := by kernel_rfl

abbrev D32 (f : Nat → Int) : T := .ints .u64 32 f
def fdK : Nat := maskOf [1, 2, 3, 4, 5]
def fdK2 : Nat := maskOf [1, 2, 3, 7]
def fdK3 : Nat := maskOf [1, 2, 8, 9, 10]
def fdK4 : Nat := maskOf [1, 2, 9, 12]
def fdT0 : List T := tmk [(1, .ptr 0 []), (2, .ptr 1 [])] 0 75
def fdA (r : Int) : List T := tmk [(1, .ptr 0 []), (2, .ptr 1 []), (3, .int .i64 r)] 0 75
def fdA' (r : Int) : List T := tmk [(1, .ptr 0 []), (2, .ptr 1 []), (3, .int .i64 r), (4, .int .u64 0)] 0 75
def fdB (r c : Int) (i : Nat) : List T := tmk [(1, .ptr 0 []), (2, .ptr 1 []), (3, .int .i64 r), (4, .int .u64 c), (5, .int .i64 (i : Nat))] 0 75
def fdE (r : Int) (i : Nat) : List T := tmk [(1, .ptr 0 []), (2, .ptr 1 []), (3, .int .i64 r), (7, .int .i64 (i : Nat))] 0 75
def fdF : List T := tmk [(1, .ptr 0 []), (2, .ptr 1 []), (8, .int .u64 0), (9, .ptr 2 [])] 0 75
def fdH (c : Int) (i : Nat) : List T := tmk [(1, .ptr 0 []), (2, .ptr 1 []), (8, .int .u64 c), (9, .ptr 2 []), (10, .int .i64 (i : Nat))] 0 75
def fdW : List T := tmk [(1, .ptr 0 []), (2, .ptr 1 []), (9, .ptr 2 []), (12, .ptr 3 [])] 0 75
def fdG (f : Nat → Int) : Heap := [some (D32 f), some z16]
def fdG3 (f o : Nat → Int) : Heap := [some (D32 f), some z16, some (D16 o)]
def fdG4 (f o : Nat → Int) : Heap := [some (D32 f), some z16, some (D16 o), some (D16 pD)]
def fdG5 (f o : Nat → Int) : Heap := [some (D32 f), some (D16 o), some (D16 o), some (D16 pD)]

def cyN (f : Nat → Int) (c : Int) (i : Nat) : Int := IntKind.u64.wrap (f i + c)
def cyC (f : Nat → Int) (c : Int) (i : Nat) : Int := IntKind.u64.wrap ((cyN f c i).tdiv 65536)
def cyD (f : Nat → Int) (c : Int) (i : Nat) : Int := (cyN f c i).tmod 65536
def fo2 (f : Nat → Int) (i : Nat) : Nat → Int := upd (upd f i (IntKind.u64.wrap (f i + IntKind.u64.wrap (38 * f (i + 16))))) (i + 16) 0

theorem fd_pre (f : Nat → Int) : (evCode Try.prog envR0 10 (preC 1 fdC) (stOf ([D32 f] ++ undefs 74) [])).map (cutP fdK) = some (.normal, true, fdT0, fdG f, true) := by kernel_rfl
theorem fd_ini (f : Nat → Int) : (evCode Try.prog envR0 10 (preC 1 fdL1) (stOf fdT0 (fdG f))).map (cutP fdK) = some (.normal, true, fdA 0, fdG f, true) := by kernel_rfl
theorem fd_test (f : Nat → Int) : ∀ r, r < 4 → Tr Try.prog 0 (cL fdRB) (stOf (fdA (r : Nat)) (fdG f)) .normal (stOf (fdA (r : Nat)) (fdG f))
  | 0, _ => Tr.ev (n := 40) (N := 2) (keep := fdK) (vc := true) (env0_ok _) mix (by kernel_rfl) rfl rfl rfl
  | 1, _ => Tr.ev (n := 40) (N := 2) (keep := fdK) (vc := true) (env0_ok _) mix (by kernel_rfl) rfl rfl rfl
  | 2, _ => Tr.ev (n := 40) (N := 2) (keep := fdK) (vc := true) (env0_ok _) mix (by kernel_rfl) rfl rfl rfl
  | 3, _ => Tr.ev (n := 40) (N := 2) (keep := fdK) (vc := true) (env0_ok _) mix (by kernel_rfl) rfl rfl rfl
  | k + 4, h => absurd h (by omega)
theorem fd_last (f : Nat → Int) : Tr Try.prog 0 fdRB (stOf (fdA 4) (fdG f)) (.exit 0) (stOf (fdA 4) (fdG f)) :=
  Tr.ev (n := 40) (N := 2) (keep := fdK) (vc := true) (env0_ok _) mix (by kernel_rfl) rfl rfl rfl
theorem fd_next (f : Nat → Int) : ∀ r, r < 4 → Tr Try.prog 0 (cR (cR fdRB)) (stOf (fdE (r : Nat) 16) (fdG f)) .normal (stOf (fdA ((r + 1 : Nat) : Int)) (fdG f))
  | 0, _ => Tr.ev (n := 40) (N := 2) (keep := fdK) (vc := true) (env0_ok _) mix (by kernel_rfl) rfl rfl rfl
  | 1, _ => Tr.ev (n := 40) (N := 2) (keep := fdK) (vc := true) (env0_ok _) mix (by kernel_rfl) rfl rfl rfl
  | 2, _ => Tr.ev (n := 40) (N := 2) (keep := fdK) (vc := true) (env0_ok _) mix (by kernel_rfl) rfl rfl rfl
  | 3, _ => Tr.ev (n := 40) (N := 2) (keep := fdK) (vc := true) (env0_ok _) mix (by kernel_rfl) rfl rfl rfl
  | k + 4, h => absurd h (by omega)
theorem fd_zero (f : Nat → Int) (r : Int) : (evCode Try.prog envR0 10 (preC 1 fdI) (stOf (fdA r) (fdG f))).map (cutP fdK) = some (.normal, true, fdA' r, fdG f, true) := by kernel_rfl
theorem fd_ini1 (f : Nat → Int) (r : Int) : (evCode Try.prog envR0 10 (preC 1 (cL fdJ)) (stOf (fdA' r) (fdG f))).map (cutP fdK) = some (.normal, true, fdB r 0 0, fdG f, true) := by kernel_rfl
theorem fd_step1 (f : Nat → Int) (r c : Int) : ∀ i, i < 32 → Tr Try.prog 0 fdB1 (stOf (fdB r c i) (fdG f)) .normal (stOf (fdB r (cyC f c i) (i + 1)) (fdG (upd f i (cyD f c i))))
  | 0, _ => Tr.ev (n := 40) (N := 2) (keep := fdK) (vc := true) (env0_ok _) mix (by kernel_rfl) rfl rfl rfl
  | 1, _ => Tr.ev (n := 40) (N := 2) (keep := fdK) (vc := true) (env0_ok _) mix (by kernel_rfl) rfl rfl rfl
  | 2, _ => Tr.ev (n := 40) (N := 2) (keep := fdK) (vc := true) (env0_ok _) mix (by kernel_rfl) rfl rfl rfl
  | 3, _ => Tr.ev (n := 40) (N := 2) (keep := fdK) (vc := true) (env0_ok _) mix (by kernel_rfl) rfl rfl rfl
  | 4, _ => Tr.ev (n := 40) (N := 2) (keep := fdK) (vc := true) (env0_ok _) mix (by kernel_rfl) rfl rfl rfl
  | 5, _ => Tr.ev (n := 40) (N := 2) (keep := fdK) (vc := true) (env0_ok _) mix (by kernel_rfl) rfl rfl rfl
  | 6, _ => Tr.ev (n := 40) (N := 2) (keep := fdK) (vc := true) (env0_ok _) mix (by kernel_rfl) rfl rfl rfl
  | 7, _ => Tr.ev (n := 40) (N := 2) (keep := fdK) (vc := true) (env0_ok _) mix (by kernel_rfl) rfl rfl rfl
  | 8, _ => Tr.ev (n := 40) (N := 2) (keep := fdK) (vc := true) (env0_ok _) mix (by kernel_rfl) rfl rfl rfl
  | 9, _ => Tr.ev (n := 40) (N := 2) (keep := fdK) (vc := true) (env0_ok _) mix (by kernel_rfl) rfl rfl rfl
  | 10, _ => Tr.ev (n := 40) (N := 2) (keep := fdK) (vc := true) (env0_ok _) mix (by kernel_rfl) rfl rfl rfl
  | 11, _ => Tr.ev (n := 40) (N := 2) (keep := fdK) (vc := true) (env0_ok _) mix (by kernel_rfl) rfl rfl rfl
  | 12, _ => Tr.ev (n := 40) (N := 2) (keep := fdK) (vc := true) (env0_ok _) mix (by kernel_rfl) rfl rfl rfl
  | 13, _ => Tr.ev (n := 40) (N := 2) (keep := fdK) (vc := true) (env0_ok _) mix (by kernel_rfl) rfl rfl rfl
  | 14, _ => Tr.ev (n := 40) (N := 2) (keep := fdK) (vc := true) (env0_ok _) mix (by kernel_rfl) rfl rfl rfl
  | 15, _ => Tr.ev (n := 40) (N := 2) (keep := fdK) (vc := true) (env0_ok _) mix (by kernel_rfl) rfl rfl rfl
  | 16, _ => Tr.ev (n := 40) (N := 2) (keep := fdK) (vc := true) (env0_ok _) mix (by kernel_rfl) rfl rfl rfl
  | 17, _ => Tr.ev (n := 40) (N := 2) (keep := fdK) (vc := true) (env0_ok _) mix (by kernel_rfl) rfl rfl rfl
  | 18, _ => Tr.ev (n := 40) (N := 2) (keep := fdK) (vc := true) (env0_ok _) mix (by kernel_rfl) rfl rfl rfl
  | 19, _ => Tr.ev (n := 40) (N := 2) (keep := fdK) (vc := true) (env0_ok _) mix (by kernel_rfl) rfl rfl rfl
  | 20, _ => Tr.ev (n := 40) (N := 2) (keep := fdK) (vc := true) (env0_ok _) mix (by kernel_rfl) rfl rfl rfl
  | 21, _ => Tr.ev (n := 40) (N := 2) (keep := fdK) (vc := true) (env0_ok _) mix (by kernel_rfl) rfl rfl rfl
  | 22, _ => Tr.ev (n := 40) (N := 2) (keep := fdK) (vc := true) (env0_ok _) mix (by kernel_rfl) rfl rfl rfl
  | 23, _ => Tr.ev (n := 40) (N := 2) (keep := fdK) (vc := true) (env0_ok _) mix (by kernel_rfl) rfl rfl rfl
  | 24, _ => Tr.ev (n := 40) (N := 2) (keep := fdK) (vc := true) (env0_ok _) mix (by kernel_rfl) rfl rfl rfl
  | 25, _ => Tr.ev (n := 40) (N := 2) (keep := fdK) (vc := true) (env0_ok _) mix (by kernel_rfl) rfl rfl rfl
  | 26, _ => Tr.ev (n := 40) (N := 2) (keep := fdK) (vc := true) (env0_ok _) mix (by kernel_rfl) rfl rfl rfl
  | 27, _ => Tr.ev (n := 40) (N := 2) (keep := fdK) (vc := true) (env0_ok _) mix (by kernel_rfl) rfl rfl rfl
  | 28, _ => Tr.ev (n := 40) (N := 2) (keep := fdK) (vc := true) (env0_ok _) mix (by kernel_rfl) rfl rfl rfl
  | 29, _ => Tr.ev (n := 40) (N := 2) (keep := fdK) (vc := true) (env0_ok _) mix (by kernel_rfl) rfl rfl rfl
  | 30, _ => Tr.ev (n := 40) (N := 2) (keep := fdK) (vc := true) (env0_ok _) mix (by kernel_rfl) rfl rfl rfl
  | 31, _ => Tr.ev (n := 40) (N := 2) (keep := fdK) (vc := true) (env0_ok _) mix (by kernel_rfl) rfl rfl rfl
  | k + 32, h => absurd h (by omega)
theorem fd_end1 (f : Nat → Int) (r c : Int) : Tr Try.prog 0 fdB1 (stOf (fdB r c 32) (fdG f)) (.exit 2) (stOf (fdB r c 32) (fdG f)) :=
  Tr.ev (n := 40) (N := 2) (keep := fdK) (vc := true) (env0_ok _) mix (by kernel_rfl) rfl rfl rfl
theorem fd_ini2 (f : Nat → Int) (r c : Int) : (evCode Try.prog envR0 10 (preC 1 (cR fdJ)) (stOf (fdB r c 32) (fdG f))).map (cutP fdK2) = some (.normal, true, fdE r 0, fdG f, true) := by kernel_rfl
theorem fd_step2 (f : Nat → Int) (r : Int) : ∀ i, i < 16 → Tr Try.prog 0 fdB2 (stOf (fdE r i) (fdG f)) .normal (stOf (fdE r (i + 1)) (fdG (fo2 f i)))
  | 0, _ => Tr.ev (n := 40) (N := 2) (keep := fdK2) (vc := true) (env0_ok _) mix (by kernel_rfl) rfl rfl rfl
  | 1, _ => Tr.ev (n := 40) (N := 2) (keep := fdK2) (vc := true) (env0_ok _) mix (by kernel_rfl) rfl rfl rfl
  | 2, _ => Tr.ev (n := 40) (N := 2) (keep := fdK2) (vc := true) (env0_ok _) mix (by kernel_rfl) rfl rfl rfl
  | 3, _ => Tr.ev (n := 40) (N := 2) (keep := fdK2) (vc := true) (env0_ok _) mix (by kernel_rfl) rfl rfl rfl
  | 4, _ => Tr.ev (n := 40) (N := 2) (keep := fdK2) (vc := true) (env0_ok _) mix (by kernel_rfl) rfl rfl rfl
  | 5, _ => Tr.ev (n := 40) (N := 2) (keep := fdK2) (vc := true) (env0_ok _) mix (by kernel_rfl) rfl rfl rfl
  | 6, _ => Tr.ev (n := 40) (N := 2) (keep := fdK2) (vc := true) (env0_ok _) mix (by kernel_rfl) rfl rfl rfl
  | 7, _ => Tr.ev (n := 40) (N := 2) (keep := fdK2) (vc := true) (env0_ok _) mix (by kernel_rfl) rfl rfl rfl
  | 8, _ => Tr.ev (n := 40) (N := 2) (keep := fdK2) (vc := true) (env0_ok _) mix (by kernel_rfl) rfl rfl rfl
  | 9, _ => Tr.ev (n := 40) (N := 2) (keep := fdK2) (vc := true) (env0_ok _) mix (by kernel_rfl) rfl rfl rfl
  | 10, _ => Tr.ev (n := 40) (N := 2) (keep := fdK2) (vc := true) (env0_ok _) mix (by kernel_rfl) rfl rfl rfl
  | 11, _ => Tr.ev (n := 40) (N := 2) (keep := fdK2) (vc := true) (env0_ok _) mix (by kernel_rfl) rfl rfl rfl
  | 12, _ => Tr.ev (n := 40) (N := 2) (keep := fdK2) (vc := true) (env0_ok _) mix (by kernel_rfl) rfl rfl rfl
  | 13, _ => Tr.ev (n := 40) (N := 2) (keep := fdK2) (vc := true) (env0_ok _) mix (by kernel_rfl) rfl rfl rfl
  | 14, _ => Tr.ev (n := 40) (N := 2) (keep := fdK2) (vc := true) (env0_ok _) mix (by kernel_rfl) rfl rfl rfl
  | 15, _ => Tr.ev (n := 40) (N := 2) (keep := fdK2) (vc := true) (env0_ok _) mix (by kernel_rfl) rfl rfl rfl
  | k + 16, h => absurd h (by omega)
theorem fd_end2 (f : Nat → Int) (r : Int) : Tr Try.prog 0 fdB2 (stOf (fdE r 16) (fdG f)) (.exit 4) (stOf (fdE r 16) (fdG f)) :=
  Tr.ev (n := 40) (N := 2) (keep := fdK2) (vc := true) (env0_ok _) mix (by kernel_rfl) rfl rfl rfl
theorem fd_pre3 (f : Nat → Int) : (evCode Try.prog envR0 10 (preC 2 fdRest) (stOf (fdA 4) (fdG f))).map (cutP fdK3) = some (.normal, true, fdF, fdG3 f fun _ => 0, true) := by kernel_rfl
theorem fd_ini3 (f o : Nat → Int) : (evCode Try.prog envR0 10 (preC 1 (cL fdY)) (stOf fdF (fdG3 f o))).map (cutP fdK3) = some (.normal, true, fdH 0 0, fdG3 f o, true) := by kernel_rfl
theorem fd_step3 (f o : Nat → Int) (c : Int) : ∀ i, i < 16 → Tr Try.prog 0 fdB3 (stOf (fdH c i) (fdG3 f o)) .normal (stOf (fdH (cyC f c i) (i + 1)) (fdG3 f (upd o i (cyD f c i))))
  | 0, _ => Tr.ev (n := 40) (N := 3) (keep := fdK3) (vc := true) (env0_ok _) mix (by kernel_rfl) rfl rfl rfl
  | 1, _ => Tr.ev (n := 40) (N := 3) (keep := fdK3) (vc := true) (env0_ok _) mix (by kernel_rfl) rfl rfl rfl
  | 2, _ => Tr.ev (n := 40) (N := 3) (keep := fdK3) (vc := true) (env0_ok _) mix (by kernel_rfl) rfl rfl rfl
  | 3, _ => Tr.ev (n := 40) (N := 3) (keep := fdK3) (vc := true) (env0_ok _) mix (by kernel_rfl) rfl rfl rfl
  | 4, _ => Tr.ev (n := 40) (N := 3) (keep := fdK3) (vc := true) (env0_ok _) mix (by kernel_rfl) rfl rfl rfl
  | 5, _ => Tr.ev (n := 40) (N := 3) (keep := fdK3) (vc := true) (env0_ok _) mix (by kernel_rfl) rfl rfl rfl
  | 6, _ => Tr.ev (n := 40) (N := 3) (keep := fdK3) (vc := true) (env0_ok _) mix (by kernel_rfl) rfl rfl rfl
  | 7, _ => Tr.ev (n := 40) (N := 3) (keep := fdK3) (vc := true) (env0_ok _) mix (by kernel_rfl) rfl rfl rfl
  | 8, _ => Tr.ev (n := 40) (N := 3) (keep := fdK3) (vc := true) (env0_ok _) mix (by kernel_rfl) rfl rfl rfl
  | 9, _ => Tr.ev (n := 40) (N := 3) (keep := fdK3) (vc := true) (env0_ok _) mix (by kernel_rfl) rfl rfl rfl
  | 10, _ => Tr.ev (n := 40) (N := 3) (keep := fdK3) (vc := true) (env0_ok _) mix (by kernel_rfl) rfl rfl rfl
  | 11, _ => Tr.ev (n := 40) (N := 3) (keep := fdK3) (vc := true) (env0_ok _) mix (by kernel_rfl) rfl rfl rfl
  | 12, _ => Tr.ev (n := 40) (N := 3) (keep := fdK3) (vc := true) (env0_ok _) mix (by kernel_rfl) rfl rfl rfl
  | 13, _ => Tr.ev (n := 40) (N := 3) (keep := fdK3) (vc := true) (env0_ok _) mix (by kernel_rfl) rfl rfl rfl
  | 14, _ => Tr.ev (n := 40) (N := 3) (keep := fdK3) (vc := true) (env0_ok _) mix (by kernel_rfl) rfl rfl rfl
  | 15, _ => Tr.ev (n := 40) (N := 3) (keep := fdK3) (vc := true) (env0_ok _) mix (by kernel_rfl) rfl rfl rfl
  | k + 16, h => absurd h (by omega)
theorem fd_end3 (f o : Nat → Int) (c : Int) : Tr Try.prog 0 fdB3 (stOf (fdH c 16) (fdG3 f o)) (.exit 6) (stOf (fdH c 16) (fdG3 f o)) :=
  Tr.ev (n := 40) (N := 3) (keep := fdK3) (vc := true) (env0_ok _) mix (by kernel_rfl) rfl rfl rfl
theorem fd_pre4 (f o : Nat → Int) (c : Int) : (evCode Try.prog envR0 10 (preC 1 fdZ) (stOf (fdH c 16) (fdG3 f o))).map (cutP fdK4) = some (.normal, true, fdW, fdG4 f o, true) := by kernel_rfl
theorem fd_more (f o : Nat → Int) (hd : digB o = true) (hl : ltD o pD = false) (hs : leD o pD = true) : Tr Try.prog 0 fdB4 (stOf fdW (fdG4 f o)) .normal (stOf fdW (fdG4 f (suD o pD))) :=
  Tr.ev (n := ⟨1000000, [(70, true)]⟩) (N := 4) (keep := fdK4) (vc := ((digB o && leD o pD) && true) && (((digB o && true) && (((!ltD o pD) == true) && true)) && true)) envR0_ok mix (by kernel_rfl) (by rw [hd, hl, hs]; rfl) rfl rfl
theorem fd_done (f o : Nat → Int) (hd : digB o = true) (hl : ltD o pD = true) : Tr Try.prog 0 fdB4 (stOf fdW (fdG4 f o)) (.exit 8) (stOf fdW (fdG4 f o)) :=
  Tr.ev (n := ⟨1000000, [(70, false)]⟩) (N := 4) (keep := fdK4) (vc := (((digB o && true) && (((!ltD o pD) == false) && true)) && true)) envR0_ok mix (by kernel_rfl) (by rw [hd, hl]; rfl) rfl rfl
theorem fd_post (f o : Nat → Int) : Tr Try.prog 0 (cR (cR fdZ)) (stOf fdW (fdG4 f o)) .ret (stOf fdW (fdG5 f o)) :=
  Tr.ev (n := 40) (N := 4) (keep := fdK4) (vc := true) (env0_ok _) mix (by kernel_rfl) rfl rfl rfl

end Go.Proofs.Ytiolcdjnmnhcgaa
