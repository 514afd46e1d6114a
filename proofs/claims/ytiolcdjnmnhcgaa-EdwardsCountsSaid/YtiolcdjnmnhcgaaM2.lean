/- fardellaw07.EdwardsCounts: always true. No condition. -/
import Derived.Test.YtiolcdjnmnhcgaaM1
namespace Go.Proofs.Ytiolcdjnmnhcgaa
open Go.AE Fardel
set_option maxRecDepth 100000

noncomputable def ctC : Code := bodyC Try.f7
noncomputable def ctX : Code := postC 4 ctC
noncomputable def ctB : Code := cB (cB (cR (cL ctX)))
theorem ctX_eq : postC 4 ctC = .seq (.seq (cL (cL ctX)) (.block 0 (.loop ctB))) (cR ctX) := by kernel_rfl
def ctK : Nat := maskOf [2, 3, 4, 5, 6, 7, 8, 9]
def ctT0 : List T := tmk [(2, .ptr 0 []), (3, .ptr 1 []), (4, .bool false), (5, .bool true), (6, .ptr 2 []), (7, .ptr 3 []), (8, .ptr 4 [])] 0 62
def ctT (i : Nat) : List T := tmk [(2, .ptr 0 []), (3, .ptr 1 []), (4, .bool false), (5, .bool true), (6, .ptr 2 []), (7, .ptr 3 []), (8, .ptr 4 []), (9, .int .i64 (i : Nat))] 0 62
def ctT9 : List T := tmk [(4, .bool true)] 0 62
def ctG (a t : Nat → Int) (p : Pt) (m : Nat → Int) : Heap := [some (.ints .u8 32 a), some (.ints .u8 32 t), some (ptA p), some (rpT p.x p.y), some (.ints .u8 32 m)]
def ctI (m : Nat → Int) (i : Nat) : Int := IntKind.u8.wrap (m i + 1)

theorem ct_pre (a t : Nat → Int) : (evCode Try.prog envLw 1000000 (preC 4 ctC) (stOf ([.ints .u8 32 a, .ints .u8 32 t] ++ undefs 60) [])).map (cutP ctK) = some (.normal, ((bytesB 32 a && true) && true), ctT0, ctG a t (ptOf a) t, true) := by kernel_rfl
theorem ct_ini (a t : Nat → Int) (p : Pt) (m : Nat → Int) : (evCode Try.prog envLw 10 (preC 1 (cL ctX)) (stOf ctT0 (ctG a t p m))).map (cutP ctK) = some (.normal, true, ctT 0, ctG a t p m, true) := by kernel_rfl
theorem ct_go (a t : Nat → Int) (p : Pt) (m : Nat → Int) : ∀ i, i < 32 → (ctI m i == 0) = true → Tr Try.prog 0 ctB (stOf (ctT i) (ctG a t p m)) .normal (stOf (ctT (i + 1)) (ctG a t p (upd m i (ctI m i))))
  | 0, _, h => Tr.ev (n := ⟨1000000, [(32, false)]⟩) (N := 5) (keep := ctK) (vc := (((!(ctI m 0 == 0)) == false) && true) && true) (env0_ok _) mix (by kernel_rfl) (by rw [h]; rfl) rfl rfl
  | 1, _, h => Tr.ev (n := ⟨1000000, [(32, false)]⟩) (N := 5) (keep := ctK) (vc := (((!(ctI m 1 == 0)) == false) && true) && true) (env0_ok _) mix (by kernel_rfl) (by rw [h]; rfl) rfl rfl
  | 2, _, h => Tr.ev (n := ⟨1000000, [(32, false)]⟩) (N := 5) (keep := ctK) (vc := (((!(ctI m 2 == 0)) == false) && true) && true) (env0_ok _) mix (by kernel_rfl) (by rw [h]; rfl) rfl rfl
  | 3, _, h => Tr.ev (n := ⟨1000000, [(32, false)]⟩) (N := 5) (keep := ctK) (vc := (((!(ctI m 3 == 0)) == false) && true) && true) (env0_ok _) mix (by kernel_rfl) (by rw [h]; rfl) rfl rfl
  | 4, _, h => Tr.ev (n := ⟨1000000, [(32, false)]⟩) (N := 5) (keep := ctK) (vc := (((!(ctI m 4 == 0)) == false) && true) && true) (env0_ok _) mix (by kernel_rfl) (by rw [h]; rfl) rfl rfl
  | 5, _, h => Tr.ev (n := ⟨1000000, [(32, false)]⟩) (N := 5) (keep := ctK) (vc := (((!(ctI m 5 == 0)) == false) && true) && true) (env0_ok _) mix (by kernel_rfl) (by rw [h]; rfl) rfl rfl
  | 6, _, h => Tr.ev (n := ⟨1000000, [(32, false)]⟩) (N := 5) (keep := ctK) (vc := (((!(ctI m 6 == 0)) == false) && true) && true) (env0_ok _) mix (by kernel_rfl) (by rw [h]; rfl) rfl rfl
  | 7, _, h => Tr.ev (n := ⟨1000000, [(32, false)]⟩) (N := 5) (keep := ctK) (vc := (((!(ctI m 7 == 0)) == false) && true) && true) (env0_ok _) mix (by kernel_rfl) (by rw [h]; rfl) rfl rfl
  | 8, _, h => Tr.ev (n := ⟨1000000, [(32, false)]⟩) (N := 5) (keep := ctK) (vc := (((!(ctI m 8 == 0)) == false) && true) && true) (env0_ok _) mix (by kernel_rfl) (by rw [h]; rfl) rfl rfl
  | 9, _, h => Tr.ev (n := ⟨1000000, [(32, false)]⟩) (N := 5) (keep := ctK) (vc := (((!(ctI m 9 == 0)) == false) && true) && true) (env0_ok _) mix (by kernel_rfl) (by rw [h]; rfl) rfl rfl
  | 10, _, h => Tr.ev (n := ⟨1000000, [(32, false)]⟩) (N := 5) (keep := ctK) (vc := (((!(ctI m 10 == 0)) == false) && true) && true) (env0_ok _) mix (by kernel_rfl) (by rw [h]; rfl) rfl rfl
  | 11, _, h => Tr.ev (n := ⟨1000000, [(32, false)]⟩) (N := 5) (keep := ctK) (vc := (((!(ctI m 11 == 0)) == false) && true) && true) (env0_ok _) mix (by kernel_rfl) (by rw [h]; rfl) rfl rfl
  | 12, _, h => Tr.ev (n := ⟨1000000, [(32, false)]⟩) (N := 5) (keep := ctK) (vc := (((!(ctI m 12 == 0)) == false) && true) && true) (env0_ok _) mix (by kernel_rfl) (by rw [h]; rfl) rfl rfl
  | 13, _, h => Tr.ev (n := ⟨1000000, [(32, false)]⟩) (N := 5) (keep := ctK) (vc := (((!(ctI m 13 == 0)) == false) && true) && true) (env0_ok _) mix (by kernel_rfl) (by rw [h]; rfl) rfl rfl
  | 14, _, h => Tr.ev (n := ⟨1000000, [(32, false)]⟩) (N := 5) (keep := ctK) (vc := (((!(ctI m 14 == 0)) == false) && true) && true) (env0_ok _) mix (by kernel_rfl) (by rw [h]; rfl) rfl rfl
  | 15, _, h => Tr.ev (n := ⟨1000000, [(32, false)]⟩) (N := 5) (keep := ctK) (vc := (((!(ctI m 15 == 0)) == false) && true) && true) (env0_ok _) mix (by kernel_rfl) (by rw [h]; rfl) rfl rfl
  | 16, _, h => Tr.ev (n := ⟨1000000, [(32, false)]⟩) (N := 5) (keep := ctK) (vc := (((!(ctI m 16 == 0)) == false) && true) && true) (env0_ok _) mix (by kernel_rfl) (by rw [h]; rfl) rfl rfl
  | 17, _, h => Tr.ev (n := ⟨1000000, [(32, false)]⟩) (N := 5) (keep := ctK) (vc := (((!(ctI m 17 == 0)) == false) && true) && true) (env0_ok _) mix (by kernel_rfl) (by rw [h]; rfl) rfl rfl
  | 18, _, h => Tr.ev (n := ⟨1000000, [(32, false)]⟩) (N := 5) (keep := ctK) (vc := (((!(ctI m 18 == 0)) == false) && true) && true) (env0_ok _) mix (by kernel_rfl) (by rw [h]; rfl) rfl rfl
  | 19, _, h => Tr.ev (n := ⟨1000000, [(32, false)]⟩) (N := 5) (keep := ctK) (vc := (((!(ctI m 19 == 0)) == false) && true) && true) (env0_ok _) mix (by kernel_rfl) (by rw [h]; rfl) rfl rfl
  | 20, _, h => Tr.ev (n := ⟨1000000, [(32, false)]⟩) (N := 5) (keep := ctK) (vc := (((!(ctI m 20 == 0)) == false) && true) && true) (env0_ok _) mix (by kernel_rfl) (by rw [h]; rfl) rfl rfl
  | 21, _, h => Tr.ev (n := ⟨1000000, [(32, false)]⟩) (N := 5) (keep := ctK) (vc := (((!(ctI m 21 == 0)) == false) && true) && true) (env0_ok _) mix (by kernel_rfl) (by rw [h]; rfl) rfl rfl
  | 22, _, h => Tr.ev (n := ⟨1000000, [(32, false)]⟩) (N := 5) (keep := ctK) (vc := (((!(ctI m 22 == 0)) == false) && true) && true) (env0_ok _) mix (by kernel_rfl) (by rw [h]; rfl) rfl rfl
  | 23, _, h => Tr.ev (n := ⟨1000000, [(32, false)]⟩) (N := 5) (keep := ctK) (vc := (((!(ctI m 23 == 0)) == false) && true) && true) (env0_ok _) mix (by kernel_rfl) (by rw [h]; rfl) rfl rfl
  | 24, _, h => Tr.ev (n := ⟨1000000, [(32, false)]⟩) (N := 5) (keep := ctK) (vc := (((!(ctI m 24 == 0)) == false) && true) && true) (env0_ok _) mix (by kernel_rfl) (by rw [h]; rfl) rfl rfl
  | 25, _, h => Tr.ev (n := ⟨1000000, [(32, false)]⟩) (N := 5) (keep := ctK) (vc := (((!(ctI m 25 == 0)) == false) && true) && true) (env0_ok _) mix (by kernel_rfl) (by rw [h]; rfl) rfl rfl
  | 26, _, h => Tr.ev (n := ⟨1000000, [(32, false)]⟩) (N := 5) (keep := ctK) (vc := (((!(ctI m 26 == 0)) == false) && true) && true) (env0_ok _) mix (by kernel_rfl) (by rw [h]; rfl) rfl rfl
  | 27, _, h => Tr.ev (n := ⟨1000000, [(32, false)]⟩) (N := 5) (keep := ctK) (vc := (((!(ctI m 27 == 0)) == false) && true) && true) (env0_ok _) mix (by kernel_rfl) (by rw [h]; rfl) rfl rfl
  | 28, _, h => Tr.ev (n := ⟨1000000, [(32, false)]⟩) (N := 5) (keep := ctK) (vc := (((!(ctI m 28 == 0)) == false) && true) && true) (env0_ok _) mix (by kernel_rfl) (by rw [h]; rfl) rfl rfl
  | 29, _, h => Tr.ev (n := ⟨1000000, [(32, false)]⟩) (N := 5) (keep := ctK) (vc := (((!(ctI m 29 == 0)) == false) && true) && true) (env0_ok _) mix (by kernel_rfl) (by rw [h]; rfl) rfl rfl
  | 30, _, h => Tr.ev (n := ⟨1000000, [(32, false)]⟩) (N := 5) (keep := ctK) (vc := (((!(ctI m 30 == 0)) == false) && true) && true) (env0_ok _) mix (by kernel_rfl) (by rw [h]; rfl) rfl rfl
  | 31, _, h => Tr.ev (n := ⟨1000000, [(32, false)]⟩) (N := 5) (keep := ctK) (vc := (((!(ctI m 31 == 0)) == false) && true) && true) (env0_ok _) mix (by kernel_rfl) (by rw [h]; rfl) rfl rfl
  | k + 32, h, _ => absurd h (by omega)
theorem ct_stop (a t : Nat → Int) (p : Pt) (m : Nat → Int) : ∀ i, i < 32 → (ctI m i == 0) = false → Tr Try.prog 0 ctB (stOf (ctT i) (ctG a t p m)) (.exit 0) (stOf ctT0 (ctG a t p (upd m i (ctI m i))))
  | 0, _, h => Tr.ev (n := ⟨1000000, [(32, true)]⟩) (N := 5) (keep := maskOf [2, 3, 4, 5, 6, 7, 8]) (vc := (((!(ctI m 0 == 0)) == true) && true) && true) (env0_ok _) mix (by kernel_rfl) (by rw [h]; rfl) rfl rfl
  | 1, _, h => Tr.ev (n := ⟨1000000, [(32, true)]⟩) (N := 5) (keep := maskOf [2, 3, 4, 5, 6, 7, 8]) (vc := (((!(ctI m 1 == 0)) == true) && true) && true) (env0_ok _) mix (by kernel_rfl) (by rw [h]; rfl) rfl rfl
  | 2, _, h => Tr.ev (n := ⟨1000000, [(32, true)]⟩) (N := 5) (keep := maskOf [2, 3, 4, 5, 6, 7, 8]) (vc := (((!(ctI m 2 == 0)) == true) && true) && true) (env0_ok _) mix (by kernel_rfl) (by rw [h]; rfl) rfl rfl
  | 3, _, h => Tr.ev (n := ⟨1000000, [(32, true)]⟩) (N := 5) (keep := maskOf [2, 3, 4, 5, 6, 7, 8]) (vc := (((!(ctI m 3 == 0)) == true) && true) && true) (env0_ok _) mix (by kernel_rfl) (by rw [h]; rfl) rfl rfl
  | 4, _, h => Tr.ev (n := ⟨1000000, [(32, true)]⟩) (N := 5) (keep := maskOf [2, 3, 4, 5, 6, 7, 8]) (vc := (((!(ctI m 4 == 0)) == true) && true) && true) (env0_ok _) mix (by kernel_rfl) (by rw [h]; rfl) rfl rfl
  | 5, _, h => Tr.ev (n := ⟨1000000, [(32, true)]⟩) (N := 5) (keep := maskOf [2, 3, 4, 5, 6, 7, 8]) (vc := (((!(ctI m 5 == 0)) == true) && true) && true) (env0_ok _) mix (by kernel_rfl) (by rw [h]; rfl) rfl rfl
  | 6, _, h => Tr.ev (n := ⟨1000000, [(32, true)]⟩) (N := 5) (keep := maskOf [2, 3, 4, 5, 6, 7, 8]) (vc := (((!(ctI m 6 == 0)) == true) && true) && true) (env0_ok _) mix (by kernel_rfl) (by rw [h]; rfl) rfl rfl
  | 7, _, h => Tr.ev (n := ⟨1000000, [(32, true)]⟩) (N := 5) (keep := maskOf [2, 3, 4, 5, 6, 7, 8]) (vc := (((!(ctI m 7 == 0)) == true) && true) && true) (env0_ok _) mix (by kernel_rfl) (by rw [h]; rfl) rfl rfl
  | 8, _, h => Tr.ev (n := ⟨1000000, [(32, true)]⟩) (N := 5) (keep := maskOf [2, 3, 4, 5, 6, 7, 8]) (vc := (((!(ctI m 8 == 0)) == true) && true) && true) (env0_ok _) mix (by kernel_rfl) (by rw [h]; rfl) rfl rfl
  | 9, _, h => Tr.ev (n := ⟨1000000, [(32, true)]⟩) (N := 5) (keep := maskOf [2, 3, 4, 5, 6, 7, 8]) (vc := (((!(ctI m 9 == 0)) == true) && true) && true) (env0_ok _) mix (by kernel_rfl) (by rw [h]; rfl) rfl rfl
  | 10, _, h => Tr.ev (n := ⟨1000000, [(32, true)]⟩) (N := 5) (keep := maskOf [2, 3, 4, 5, 6, 7, 8]) (vc := (((!(ctI m 10 == 0)) == true) && true) && true) (env0_ok _) mix (by kernel_rfl) (by rw [h]; rfl) rfl rfl
  | 11, _, h => Tr.ev (n := ⟨1000000, [(32, true)]⟩) (N := 5) (keep := maskOf [2, 3, 4, 5, 6, 7, 8]) (vc := (((!(ctI m 11 == 0)) == true) && true) && true) (env0_ok _) mix (by kernel_rfl) (by rw [h]; rfl) rfl rfl
  | 12, _, h => Tr.ev (n := ⟨1000000, [(32, true)]⟩) (N := 5) (keep := maskOf [2, 3, 4, 5, 6, 7, 8]) (vc := (((!(ctI m 12 == 0)) == true) && true) && true) (env0_ok _) mix (by kernel_rfl) (by rw [h]; rfl) rfl rfl
  | 13, _, h => Tr.ev (n := ⟨1000000, [(32, true)]⟩) (N := 5) (keep := maskOf [2, 3, 4, 5, 6, 7, 8]) (vc := (((!(ctI m 13 == 0)) == true) && true) && true) (env0_ok _) mix (by kernel_rfl) (by rw [h]; rfl) rfl rfl
  | 14, _, h => Tr.ev (n := ⟨1000000, [(32, true)]⟩) (N := 5) (keep := maskOf [2, 3, 4, 5, 6, 7, 8]) (vc := (((!(ctI m 14 == 0)) == true) && true) && true) (env0_ok _) mix (by kernel_rfl) (by rw [h]; rfl) rfl rfl
  | 15, _, h => Tr.ev (n := ⟨1000000, [(32, true)]⟩) (N := 5) (keep := maskOf [2, 3, 4, 5, 6, 7, 8]) (vc := (((!(ctI m 15 == 0)) == true) && true) && true) (env0_ok _) mix (by kernel_rfl) (by rw [h]; rfl) rfl rfl
  | 16, _, h => Tr.ev (n := ⟨1000000, [(32, true)]⟩) (N := 5) (keep := maskOf [2, 3, 4, 5, 6, 7, 8]) (vc := (((!(ctI m 16 == 0)) == true) && true) && true) (env0_ok _) mix (by kernel_rfl) (by rw [h]; rfl) rfl rfl
  | 17, _, h => Tr.ev (n := ⟨1000000, [(32, true)]⟩) (N := 5) (keep := maskOf [2, 3, 4, 5, 6, 7, 8]) (vc := (((!(ctI m 17 == 0)) == true) && true) && true) (env0_ok _) mix (by kernel_rfl) (by rw [h]; rfl) rfl rfl
  | 18, _, h => Tr.ev (n := ⟨1000000, [(32, true)]⟩) (N := 5) (keep := maskOf [2, 3, 4, 5, 6, 7, 8]) (vc := (((!(ctI m 18 == 0)) == true) && true) && true) (env0_ok _) mix (by kernel_rfl) (by rw [h]; rfl) rfl rfl
  | 19, _, h => Tr.ev (n := ⟨1000000, [(32, true)]⟩) (N := 5) (keep := maskOf [2, 3, 4, 5, 6, 7, 8]) (vc := (((!(ctI m 19 == 0)) == true) && true) && true) (env0_ok _) mix (by kernel_rfl) (by rw [h]; rfl) rfl rfl
  | 20, _, h => Tr.ev (n := ⟨1000000, [(32, true)]⟩) (N := 5) (keep := maskOf [2, 3, 4, 5, 6, 7, 8]) (vc := (((!(ctI m 20 == 0)) == true) && true) && true) (env0_ok _) mix (by kernel_rfl) (by rw [h]; rfl) rfl rfl
  | 21, _, h => Tr.ev (n := ⟨1000000, [(32, true)]⟩) (N := 5) (keep := maskOf [2, 3, 4, 5, 6, 7, 8]) (vc := (((!(ctI m 21 == 0)) == true) && true) && true) (env0_ok _) mix (by kernel_rfl) (by rw [h]; rfl) rfl rfl
  | 22, _, h => Tr.ev (n := ⟨1000000, [(32, true)]⟩) (N := 5) (keep := maskOf [2, 3, 4, 5, 6, 7, 8]) (vc := (((!(ctI m 22 == 0)) == true) && true) && true) (env0_ok _) mix (by kernel_rfl) (by rw [h]; rfl) rfl rfl
  | 23, _, h => Tr.ev (n := ⟨1000000, [(32, true)]⟩) (N := 5) (keep := maskOf [2, 3, 4, 5, 6, 7, 8]) (vc := (((!(ctI m 23 == 0)) == true) && true) && true) (env0_ok _) mix (by kernel_rfl) (by rw [h]; rfl) rfl rfl
  | 24, _, h => Tr.ev (n := ⟨1000000, [(32, true)]⟩) (N := 5) (keep := maskOf [2, 3, 4, 5, 6, 7, 8]) (vc := (((!(ctI m 24 == 0)) == true) && true) && true) (env0_ok _) mix (by kernel_rfl) (by rw [h]; rfl) rfl rfl
  | 25, _, h => Tr.ev (n := ⟨1000000, [(32, true)]⟩) (N := 5) (keep := maskOf [2, 3, 4, 5, 6, 7, 8]) (vc := (((!(ctI m 25 == 0)) == true) && true) && true) (env0_ok _) mix (by kernel_rfl) (by rw [h]; rfl) rfl rfl
  | 26, _, h => Tr.ev (n := ⟨1000000, [(32, true)]⟩) (N := 5) (keep := maskOf [2, 3, 4, 5, 6, 7, 8]) (vc := (((!(ctI m 26 == 0)) == true) && true) && true) (env0_ok _) mix (by kernel_rfl) (by rw [h]; rfl) rfl rfl
  | 27, _, h => Tr.ev (n := ⟨1000000, [(32, true)]⟩) (N := 5) (keep := maskOf [2, 3, 4, 5, 6, 7, 8]) (vc := (((!(ctI m 27 == 0)) == true) && true) && true) (env0_ok _) mix (by kernel_rfl) (by rw [h]; rfl) rfl rfl
  | 28, _, h => Tr.ev (n := ⟨1000000, [(32, true)]⟩) (N := 5) (keep := maskOf [2, 3, 4, 5, 6, 7, 8]) (vc := (((!(ctI m 28 == 0)) == true) && true) && true) (env0_ok _) mix (by kernel_rfl) (by rw [h]; rfl) rfl rfl
  | 29, _, h => Tr.ev (n := ⟨1000000, [(32, true)]⟩) (N := 5) (keep := maskOf [2, 3, 4, 5, 6, 7, 8]) (vc := (((!(ctI m 29 == 0)) == true) && true) && true) (env0_ok _) mix (by kernel_rfl) (by rw [h]; rfl) rfl rfl
  | 30, _, h => Tr.ev (n := ⟨1000000, [(32, true)]⟩) (N := 5) (keep := maskOf [2, 3, 4, 5, 6, 7, 8]) (vc := (((!(ctI m 30 == 0)) == true) && true) && true) (env0_ok _) mix (by kernel_rfl) (by rw [h]; rfl) rfl rfl
  | 31, _, h => Tr.ev (n := ⟨1000000, [(32, true)]⟩) (N := 5) (keep := maskOf [2, 3, 4, 5, 6, 7, 8]) (vc := (((!(ctI m 31 == 0)) == true) && true) && true) (env0_ok _) mix (by kernel_rfl) (by rw [h]; rfl) rfl rfl
  | k + 32, h, _ => absurd h (by omega)
theorem ct_end (a t : Nat → Int) (p : Pt) (m : Nat → Int) : Tr Try.prog 0 ctB (stOf (ctT 32) (ctG a t p m)) (.exit 0) (stOf ctT0 (ctG a t p m)) :=
  Tr.ev (n := 10) (N := 5) (keep := maskOf [2, 3, 4, 5, 6, 7, 8]) (vc := true) (env0_ok _) mix (by kernel_rfl) rfl rfl rfl

/-- One more, from place i on. -/
def ctN (m : Nat → Int) : Nat → Nat → Nat → Int
  | _, 0 => m
  | i, n + 1 => bif ctI m i == 0 then ctN (upd m i (ctI m i)) (i + 1) n else upd m i (ctI m i)

theorem ct_loop (a t : Nat → Int) (p : Pt) : ∀ (n : Nat) (m : Nat → Int) (i : Nat), i + n = 32 → TrN Try.prog 0 ctB (n + 1) (stOf (ctT i) (ctG a t p m)) (.exit 0) (stOf ctT0 (ctG a t p (ctN m i n)))
  | 0, m, i, h => by
    have : i = 32 := by omega
    subst this
    exact TrN.done (ct_end a t p m) (by intro h; cases h)
  | n + 1, m, i, h => by
    unfold ctN
    cases hb : (ctI m i == 0) with
    | true => exact TrN.next (ct_go a t p m i (by omega) hb) (ct_loop a t p n _ (i + 1) (by omega))
    | false => exact TrN.done (ct_stop a t p m i (by omega) hb) (by intro h; cases h)

def zero32' : Nat → Int := fun _ => 0
theorem ct_zero (a t : Nat → Int) (p : Pt) (m : Nat → Int) (h : eqN 32 m zero32' = true) : Tr Try.prog 0 (cR ctX) (stOf ctT0 (ctG a t p m)) .ret (stOf ctT9 (ctG a t p m)) :=
  Tr.ev (n := ⟨1000000, [(35, true)]⟩) (N := 5) (keep := maskOf [4]) (vc := (((eqN 32 m zero32') == true) && true) && true) envLw_ok mix (by kernel_rfl) (by rw [h]; rfl) rfl rfl
noncomputable def ctV (t : Nat → Int) (p : Pt) (m : Nat → Int) : Bool :=
  (bytesB 32 m && (((pSame (pMul m p) (pAdd (pMul t p) p) == true) || false) && (((pSame (pMul t (pAdd p p)) (pAdd (pMul t p) (pMul t p)) == true) || false) && true))) && ((bytesB 32 t && true) && ((bytesB 32 t && true) && ((((eqN 32 m zero32') == false) && true) && true)))
theorem ct_some (a t : Nat → Int) (p : Pt) (m : Nat → Int) (h : ctV t p m = true) : Tr Try.prog 0 (cR ctX) (stOf ctT0 (ctG a t p m)) .ret (stOf ctT9 (ctG a t p m)) :=
  Tr.ev (n := ⟨1000000, [(35, false), (53, true), (60, true)]⟩) (N := 5) (keep := maskOf [4]) (vc := ctV t p m) envLw_ok mix (by kernel_rfl) h rfl rfl

theorem ct_tr {a t : Nat → Int} (ha : bytesB 32 a = true) (h : eqN 32 (ctN t 0 32) zero32' = true ∨ ctV t (ptOf a) (ctN t 0 32) = true) : Tr Try.prog 0 ctC (stOf ([.ints .u8 32 a, .ints .u8 32 t] ++ undefs 60) []) .ret (stOf ctT9 (ctG a t (ptOf a) (ctN t 0 32))) := by
  refine Tr.pre envLw_ok mix 4 ctK (ct_pre a t) (by rw [ha]; rfl) ?_
  rw [ctX_eq]
  refine Tr.seq (s1 := stOf ctT0 (ctG a t (ptOf a) (ctN t 0 32))) ?_ ?_
  · refine Tr.pre envLw_ok mix 1 ctK (ct_ini a t _ _) rfl ?_
    exact Tr.blockX (Tr.loop (ct_loop a t _ 32 t 0 rfl))
  · rcases h with h | h
    · exact ct_zero a t _ _ h
    · exact ct_some a t _ _ h

/-! ### Its law -/

theorem natB_set (B : Nat) {l : Nat → Int} {p : Nat} {v : Int} : ∀ n, p < n → natB B (upd l p v) n + B ^ p * (l p).toNat = natB B l n + B ^ p * v.toNat
  | 0, h => by omega
  | n + 1, h => by
    unfold natB
    by_cases hp : p = n
    · subst hp
      rw [natB_upd p (Nat.le_refl _), upd_same]
      omega
    · have := natB_set B (l := l) (p := p) (v := v) n (by omega)
      rw [upd_ne (by omega)]
      omega

theorem ctI_eq {m : Nat → Int} {i : Nat} (h : 0 ≤ m i ∧ m i < 256) : ctI m i = if m i = 255 then 0 else m i + 1 := by
  unfold ctI
  have hw : ∀ n : Int, 0 ≤ n → n ≤ 256 → IntKind.u8.wrap n = n % 256 := fun n _ _ => by simp [IntKind.wrap, IntKind.bits, IntKind.signed]
  rw [hw _ (by omega) (by omega)]
  split <;> omega

theorem ctN_val : ∀ (n : Nat) (m : Nat → Int) (i : Nat), i + n = 32 → digs 256 32 m → digs 256 32 (ctN m i n) ∧ (natB 256 (ctN m i n) 32 = natB 256 m 32 + 256 ^ i ∨ natB 256 (ctN m i n) 32 + 256 ^ 32 = natB 256 m 32 + 256 ^ i)
  | 0, m, i, h, hm => by
    have : i = 32 := by omega
    subst this
    exact ⟨hm, .inr rfl⟩
  | n + 1, m, i, h, hm => by
    have hi := hm i (by omega)
    have he := ctI_eq hi
    have hs := natB_set 256 (l := m) (p := i) (v := ctI m i) 32 (by omega)
    have hd : digs 256 32 (upd m i (ctI m i)) := fun j hj => by
      by_cases h1 : j = i
      · subst h1
        rw [upd_same, he]
        split <;> omega
      · rw [upd_ne h1]; exact hm j hj
    unfold ctN
    by_cases hc : m i = 255
    · have hz : ctI m i = 0 := by rw [he, if_pos hc]
      have : (ctI m i == 0) = true := by rw [hz]; rfl
      rw [this, cond_true]
      obtain ⟨k1, k2⟩ := ctN_val n (upd m i (ctI m i)) (i + 1) (by omega) hd
      refine ⟨k1, ?_⟩
      rw [hz, hc] at hs
      simp only [show (255 : Int).toNat = 255 from rfl, show (0 : Int).toNat = 0 from rfl, Nat.mul_zero, Nat.add_zero] at hs
      rw [Nat.pow_succ, hz] at k2
      rw [hz]
      omega
    · have hz : ctI m i = m i + 1 := by rw [he, if_neg hc]
      have : (ctI m i == 0) = false := by rw [hz, beq_eq_false_iff_ne]; omega
      rw [this, cond_false]
      refine ⟨hd, .inl ?_⟩
      have e : (m i + 1).toNat = (m i).toNat + 1 := by omega
      rw [hz, e, Nat.mul_add, Nat.mul_one] at hs
      rw [hz]
      omega

theorem Counts_run {a t : Nat → Int} (h0 : ∀ i, i < 32 → (Lit.int .u8 (a i)).wf = true) (h1 : ∀ i, i < 32 → (Lit.int .u8 (t i)).wf = true) :
    ∃ M, SoundM Try.prog 7 M ∧ ∃ r, M [.ints .u8 32 a, .ints .u8 32 t] [] = some r ∧ r.vc = true ∧ r.v = .bool true := by
  have ha := u8_bytes h0
  have ht := u8_bytes h1
  have htd : digs 256 32 t := bytesB_spec ht
  obtain ⟨k1, k2⟩ := ctN_val 32 t 0 rfl htd
  have key : eqN 32 (ctN t 0 32) zero32' = true ∨ ctV t (ptOf a) (ctN t 0 32) = true := by
    cases hz : eqN 32 (ctN t 0 32) zero32' with
    | true => exact .inl rfl
    | false =>
      right
      have hlt := natB_lt 32 htd
      have hv : natB 256 (ctN t 0 32) 32 = natB 256 t 32 + 1 := by
        rcases k2 with h | h
        · exact h
        · exfalso
          have h0' : natB 256 (ctN t 0 32) 32 = 0 := by omega
          have : eqN 32 (ctN t 0 32) zero32' = true := eqN_of fun i hi => by
            have := dgB_of (by decide) k1 hi
            rw [h0'] at this
            rw [this]
            unfold dgB
            rw [Nat.zero_div]
            rfl
          rw [hz] at this
          cases this
      have e1 : hi (ctN t 0 32) 256 = hi t 256 + 1 := by rw [hi_all k1, hi_all htd, natN_natB, natN_natB, hv]
      have e2 : pMul (ctN t 0 32) (ptOf a) = pAdd (pMul t (ptOf a)) (ptOf a) := by rw [pMul_eq, pMul_eq, pAdd_eq, e1, smul_succ]
      have e3 : pMul t (pAdd (ptOf a) (ptOf a)) = pAdd (pMul t (ptOf a)) (pMul t (ptOf a)) := by rw [pMul_eq, pMul_eq, pAdd_eq, pAdd_eq, smul_dist]
      unfold ctV
      rw [hz, e2, e3, same_self, same_self, ht, bytesB_of k1]
      rfl
  refine ⟨pureModel (fun args => open Classical in if args = [.ints .u8 32 a, .ints .u8 32 t] then some (true, .bool true) else none), ?_, ⟨true, .bool true, [], 0, 0⟩, by simp [pureModel], rfl, rfl⟩
  refine SoundM.of_tr0 (fn := Try.f7) (c := ctC) (by kernel_rfl) (by kernel_rfl) (by kernel_rfl) ?_
  intro args vc v hm hvc
  split at hm
  · rename_i e
    cases hm
    subst e
    exact ⟨rfl, rfl, .ret, _, [.bool true], 0, .inl rfl, ct_tr ha key, by kernel_rfl, rfl⟩
  · cases hm

end Go.Proofs.Ytiolcdjnmnhcgaa
