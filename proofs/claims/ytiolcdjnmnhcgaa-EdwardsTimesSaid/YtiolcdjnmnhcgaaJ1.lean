/- fardelref01: P, less, Less. No condition. -/
import Derived.Test.YtiolcdjnmnhcgaaH1
namespace Go.Proofs.Ytiolcdjnmnhcgaa
open Go.AE Fardel
set_option maxRecDepth 100000

abbrev D16 (f : Nat → Int) : T := .ints .u64 16 f
def z16 : T := .ints .u64 16 fun _ => 0
def pD : Nat → Int := fun j => bif Nat.beq j 0 then 65517 else bif Nat.beq j 15 then 32767 else 65535

/-! ### P -/

def pRaw : Nat → Int
  | 0 => 65517 | 1 => 65535 | 2 => 65535 | 3 => 65535 | 4 => 65535 | 5 => 65535 | 6 => 65535 | 7 => 65535 | 8 => 65535 | 9 => 65535 | 10 => 65535 | 11 => 65535 | 12 => 65535 | 13 => 65535 | 14 => 65535 | _ => 32767
def isD16 (t : T) (f : Nat → Int) : Bool := match t with
  | .ints .u64 n g => Nat.beq n 16 && (List.range 16).all fun i => decide (g i = f i)
  | _ => false
theorem p_mv : (mv (evFn Try.prog env0 40 Try.f78) []).map (fun r => (r.1, isD16 r.2 pD)) = some (true, true) := by kernel_rfl

theorem isD16_R {t : T} {f : Nat → Int} (h : isD16 t f = true) {ρ ρ' : Rho} {x : Value} (hx : (R ρ t).v x) : (R ρ' (D16 f)).v x := by
  unfold isD16 at h
  split at h
  · simp only [Bool.and_eq_true] at h
    obtain ⟨h1, h2⟩ := h
    have := Nat.eq_of_beq_eq_true h1
    subst this
    rw [List.all_eq_true] at h2
    exact ints_congr (fun i hi => by simpa using h2 i (by simpa using hi)) hx
  · cases h

def PM : PModel
  | [] => some (true, D16 pD)
  | _ => none
theorem PM_ok : SoundM Try.prog 78 (pureModel PM) := by
  refine (SoundM.of_ev (env0_ok _) mix (n := 40) (fn := Try.f78) (by kernel_rfl) (by kernel_rfl) (by kernel_rfl)).refine ?_
  intro args vc v hm hvc ρ xs hargs
  unfold PM at hm
  split at hm
  · cases hm
    have h1 := p_mv
    cases hmv : mv (evFn Try.prog env0 40 Try.f78) [] with
    | none => rw [hmv] at h1; cases h1
    | some r =>
      obtain ⟨c, t⟩ := r
      rw [hmv] at h1
      simp only [Option.map_some, Option.some.injEq, Prod.mk.injEq] at h1
      obtain ⟨r, h3, h4, h5⟩ := mv_some hmv
      exact ⟨[], hargs, r, h3, h4.trans h1.1, fun ρ' w hw => by rw [h5] at hw; exact isD16_R h1.2 hw⟩
  · cases hm

/-! ### less -/

noncomputable def lessC : Code := bodyC Try.f77
noncomputable def lessL : Code := cB (cB (cR (cL (postC 3 lessC))))
theorem lessC_eq : postC 3 lessC = .seq (.seq (cL (cL (postC 3 lessC))) (.block 0 (.loop lessL))) (cR (postC 3 lessC)) := by kernel_rfl
def lsK : Nat := maskOf [2, 3, 4, 5, 6, 7]
def lsT0 : List T := tmk [(2, .ptr 0 []), (3, .ptr 1 []), (4, .ptr 2 []), (5, .int .u64 0), (6, .ptr 3 [])] 0 32
def lsT (b : Int) (i : Nat) : List T := tmk [(2, .ptr 0 []), (3, .ptr 1 []), (4, .ptr 2 []), (5, .int .u64 b), (6, .ptr 3 []), (7, .int .i64 (i : Nat))] 0 32
def lsG (f g o : Nat → Int) : Heap := [some (D16 f), some (D16 g), some z16, some (D16 o)]
def lsN (f g : Nat → Int) (b : Int) (i : Nat) : Int := IntKind.u64.wrap (IntKind.u64.wrap (IntKind.u64.wrap (f i + 65536) - g i) - b)
def lsB (f g : Nat → Int) (b : Int) (i : Nat) : Int := IntKind.u64.wrap (1 - IntKind.u64.wrap ((lsN f g b i).tdiv 65536))
def lsO (f g : Nat → Int) (b : Int) (o : Nat → Int) (i : Nat) : Nat → Int := upd o i ((lsN f g b i).tmod 65536)

theorem ls_pre (f g : Nat → Int) : (evCode Try.prog env0 10 (preC 3 lessC) (stOf ([D16 f, D16 g] ++ undefs 30) [])).map (cutP lsK) = some (.normal, true, lsT0, lsG f g fun _ => 0, true) := by kernel_rfl
theorem ls_ini (f g o : Nat → Int) : (evCode Try.prog env0 10 (preC 1 (cL (postC 3 lessC))) (stOf lsT0 (lsG f g o))).map (cutP lsK) = some (.normal, true, lsT 0 0, lsG f g o, true) := by kernel_rfl
theorem ls_step (f g o : Nat → Int) (b : Int) : ∀ i, i < 16 → Tr Try.prog 0 lessL (stOf (lsT b i) (lsG f g o)) .normal (stOf (lsT (lsB f g b i) (i + 1)) (lsG f g (lsO f g b o i)))
  | 0, _ => Tr.ev (n := 10) (N := 4) (keep := lsK) (vc := true) (env0_ok _) mix (by kernel_rfl) rfl rfl rfl
  | 1, _ => Tr.ev (n := 10) (N := 4) (keep := lsK) (vc := true) (env0_ok _) mix (by kernel_rfl) rfl rfl rfl
  | 2, _ => Tr.ev (n := 10) (N := 4) (keep := lsK) (vc := true) (env0_ok _) mix (by kernel_rfl) rfl rfl rfl
  | 3, _ => Tr.ev (n := 10) (N := 4) (keep := lsK) (vc := true) (env0_ok _) mix (by kernel_rfl) rfl rfl rfl
  | 4, _ => Tr.ev (n := 10) (N := 4) (keep := lsK) (vc := true) (env0_ok _) mix (by kernel_rfl) rfl rfl rfl
  | 5, _ => Tr.ev (n := 10) (N := 4) (keep := lsK) (vc := true) (env0_ok _) mix (by kernel_rfl) rfl rfl rfl
  | 6, _ => Tr.ev (n := 10) (N := 4) (keep := lsK) (vc := true) (env0_ok _) mix (by kernel_rfl) rfl rfl rfl
  | 7, _ => Tr.ev (n := 10) (N := 4) (keep := lsK) (vc := true) (env0_ok _) mix (by kernel_rfl) rfl rfl rfl
  | 8, _ => Tr.ev (n := 10) (N := 4) (keep := lsK) (vc := true) (env0_ok _) mix (by kernel_rfl) rfl rfl rfl
  | 9, _ => Tr.ev (n := 10) (N := 4) (keep := lsK) (vc := true) (env0_ok _) mix (by kernel_rfl) rfl rfl rfl
  | 10, _ => Tr.ev (n := 10) (N := 4) (keep := lsK) (vc := true) (env0_ok _) mix (by kernel_rfl) rfl rfl rfl
  | 11, _ => Tr.ev (n := 10) (N := 4) (keep := lsK) (vc := true) (env0_ok _) mix (by kernel_rfl) rfl rfl rfl
  | 12, _ => Tr.ev (n := 10) (N := 4) (keep := lsK) (vc := true) (env0_ok _) mix (by kernel_rfl) rfl rfl rfl
  | 13, _ => Tr.ev (n := 10) (N := 4) (keep := lsK) (vc := true) (env0_ok _) mix (by kernel_rfl) rfl rfl rfl
  | 14, _ => Tr.ev (n := 10) (N := 4) (keep := lsK) (vc := true) (env0_ok _) mix (by kernel_rfl) rfl rfl rfl
  | 15, _ => Tr.ev (n := 10) (N := 4) (keep := lsK) (vc := true) (env0_ok _) mix (by kernel_rfl) rfl rfl rfl
  | k + 16, h => absurd h (by omega)
theorem ls_end (f g o : Nat → Int) (b : Int) : Tr Try.prog 0 lessL (stOf (lsT b 16) (lsG f g o)) (.exit 0) (stOf (lsT b 16) (lsG f g o)) :=
  Tr.ev (n := 10) (N := 4) (keep := lsK) (vc := true) (env0_ok _) mix (by kernel_rfl) rfl rfl rfl
def lsG' (f g o : Nat → Int) : Heap := [some (D16 f), some (D16 g), some (D16 o), some (D16 o)]
theorem ls_post (f g o : Nat → Int) (b : Int) : Tr Try.prog 0 (cR (postC 3 lessC)) (stOf (lsT b 16) (lsG f g o)) .ret (stOf (lsT b 16) (lsG' f g o)) :=
  Tr.ev (n := 10) (N := 4) (keep := lsK) (vc := true) (env0_ok _) mix (by kernel_rfl) rfl rfl rfl

def lsS (f g : Nat → Int) : Nat → Int × (Nat → Int)
  | 0 => (0, fun _ => 0)
  | i + 1 => (lsB f g (lsS f g i).1 i, lsO f g (lsS f g i).1 (lsS f g i).2 i)

theorem ls_tr (f g : Nat → Int) : Tr Try.prog 0 lessC (stOf ([D16 f, D16 g] ++ undefs 30) []) .ret (stOf (lsT (lsS f g 16).1 16) (lsG' f g (lsS f g 16).2)) := by
  refine Tr.pre (env0_ok _) mix 3 lsK (ls_pre f g) rfl ?_
  rw [lessC_eq]
  refine Tr.seq (s1 := stOf (lsT (lsS f g 16).1 16) (lsG f g (lsS f g 16).2)) ?_ (ls_post f g _ _)
  refine Tr.pre (env0_ok _) mix 1 lsK (ls_ini f g _) rfl ?_
  exact Tr.iter (S := fun i => stOf (lsT (lsS f g i).1 i) (lsG f g (lsS f g i).2)) (n := 16) (fun i hi => ls_step f g _ _ i hi) (ls_end f g _ _)

end Go.Proofs.Ytiolcdjnmnhcgaa
