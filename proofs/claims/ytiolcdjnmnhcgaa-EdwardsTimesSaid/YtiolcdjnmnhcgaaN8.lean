/- scalar.MulAdd: the walk. No condition. -/
import Derived.Test.YtiolcdjnmnhcgaaN7
namespace Go.Proofs.Ytiolcdjnmnhcgaa
open Go.AE Fardel
set_option maxRecDepth 100000

noncomputable def envN2 : Env := ((envN1.set 66 wdM).set 69 modM).set 70 (pureModel nbP)
theorem envN2_ok : EnvOK Try.prog envN2 := ((envN1_ok.set wd_ok).set mod_ok).set nb_ok

noncomputable def maC : Code := bodyC Try.f37
noncomputable def maX : Code := postC 3 maC
noncomputable def maB : Code := cB (cB (cR (cL maX)))
noncomputable def maJ : Code := cB (cL (postC 2 maB))
noncomputable def maIL : Code := cL (postC 2 maJ)
noncomputable def maI : Code := cB (cB (cR maIL))
noncomputable def maOL : Code := cR (postC 2 maJ)
noncomputable def maO : Code := cB (cB (cR maOL))
theorem maX_eq : postC 3 maC = .seq (.seq (cL (cL maX)) (.block 0 (.loop maB))) (cR maX) := by kernel_rfl
theorem maB_eq : postC 2 maB = .seq (.block 1 maJ) (cR (postC 2 maB)) := by kernel_rfl
theorem maJ_eq : postC 2 maJ = .seq maIL maOL := by kernel_rfl
theorem maIL_eq : postC 1 maIL = .block 2 (.loop maI) := by kernel_rfl
theorem maOL_eq : postC 1 maOL = .block 4 (.loop maO) := by kernel_rfl
theorem maL_eq : postC 1 (.seq (cL (cL maX)) (.block 0 (.loop maB))) = .block 0 (.loop maB) := by kernel_rfl

def maG (a b c X Y Z S : Nat → Int) : Heap := [some (.ints .u8 32 a), some (.ints .u8 32 b), some (.ints .u8 32 c), some (.ints .u8 32 fun _ => 0), some (.ints .u64 4 X), some (.ints .u64 4 Y), some (.ints .u64 4 Z), some (.ints .u64 5 (updN 5 fun _ => 0)), some (.ints .u64 9 S)]
def sl4 : T := .slice 4 [] 0 1 4 (some 4)
def sl5 : T := .slice 5 [] 0 1 4 (some 4)
def sl9 : T := .slice 8 [] 0 1 9 none
def maT0 : List T := tmk [(6, .ptr 3 []), (7, sl4), (8, sl5), (9, sl9)] 0 98
def maA (i : Int) : List T := tmk [(6, .ptr 3 []), (7, sl4), (8, sl5), (9, sl9), (28, sl4), (29, .int .i64 4), (30, .int .i64 i)] 0 98
def maT (i k : Nat) (x o : Int) : List T := tmk [(6, .ptr 3 []), (7, sl4), (8, sl5), (9, sl9), (10, .int .i64 i), (11, .int .u64 x), (12, .int .u64 o), (28, sl4), (29, .int .i64 4), (30, .int .i64 i), (35, sl5), (36, .int .i64 4), (37, .int .i64 k)] 0 98
def maU (i j : Nat) (o : Int) : List T := tmk [(6, .ptr 3 []), (7, sl4), (8, sl5), (9, sl9), (12, .int .u64 o), (19, .int .i64 j), (28, sl4), (29, .int .i64 4), (30, .int .i64 i)] 0 98
def maT1 (i : Nat) (x o : Int) : List T := tmk [(6, .ptr 3 []), (7, sl4), (8, sl5), (9, sl9), (10, .int .i64 i), (11, .int .u64 x), (12, .int .u64 o), (28, sl4), (29, .int .i64 4), (30, .int .i64 i)] 0 98
def maK0 : Nat := maskOf [6, 7, 8, 9]
def maKA : Nat := maskOf [6, 7, 8, 9, 28, 29, 30]
def maKB : Nat := maskOf [6, 7, 8, 9, 10, 11, 12, 28, 29, 30]
def maKT : Nat := maskOf [6, 7, 8, 9, 10, 11, 12, 28, 29, 30, 35, 36, 37]
def maKU : Nat := maskOf [6, 7, 8, 9, 12, 19, 28, 29, 30]

def sh0 (f : Nat → Int) : Nat → Int := fun j => f (0 + j)
def maZ (c : Nat → Int) : Nat → Int := catF 4 (sh0 (wdF (sh0 c) 32)) (sh0 (updN 5 fun _ => 0))
def maVC0 (a b c : Nat → Int) : Bool := (bytesB 32 (sh0 c) && true) && ((bytesB 32 (sh0 a) && (bytesB 32 (sh0 b) && true)) && true)
theorem ma_pre (a b c : Nat → Int) : (evCode Try.prog envN2 1000000 (preC 3 maC) (stOf ([.ints .u8 32 a, .ints .u8 32 b, .ints .u8 32 c] ++ undefs 95) [])).map (cutP maK0) =
    some (.normal, maVC0 a b c, maT0, maG a b c (wdF (sh0 a) 32) (wdF (sh0 b) 32) (wdF (sh0 c) 32) (maZ c), true) := by kernel_rfl

def maLw (X Y : Nat → Int) (i k : Nat) : Nat := (IntKind.u64.wrap (X i * Y k)).toNat % 18446744073709551616
def maLo (X Y : Nat → Int) (i k : Nat) (o : Int) : Int := addLo (maLw X Y i k) o.toNat
def maN (X Y S : Nat → Int) (i k : Nat) (o : Int) : Int :=
  IntKind.u64.wrap (IntKind.u64.wrap (((mulHi (X i) (Y k)).toNat % 18446744073709551616 : Nat) + addHi (maLw X Y i k) o.toNat) + addHi (S (i + k)).toNat (maLo X Y i k o).toNat)
def maS (X Y S : Nat → Int) (i k : Nat) (o : Int) : Nat → Int := upd S (i + k) (addLo (S (i + k)).toNat (maLo X Y i k o).toNat)
section
variable (a b c X Y Z S : Nat → Int) (o : Int)
theorem ma_ini : (evCode Try.prog envN2 40 (preC 1 (.seq (cL (cL maX)) (.block 0 (.loop maB)))) (stOf maT0 (maG a b c X Y Z S))).map (cutP maKA) = some (.normal, true, maA 0, maG a b c X Y Z S, true) := by kernel_rfl
theorem ma_test : ∀ i, i < 4 → (evCode Try.prog envN2 40 (preC 2 maB) (stOf (maA (i : Nat)) (maG a b c X Y Z S))).map (cutP maKA) = some (.normal, true, maA (i : Nat), maG a b c X Y Z S, true)
  | 0, _ => by kernel_rfl
  | 1, _ => by kernel_rfl
  | 2, _ => by kernel_rfl
  | 3, _ => by kernel_rfl
  | k + 4, h => absurd h (by omega)
theorem ma_begin : ∀ i, i < 4 → (evCode Try.prog envN2 40 (preC 2 maJ) (stOf (maA (i : Nat)) (maG a b c X Y Z S))).map (cutP maKB) = some (.normal, true, maT1 i (X i) 0, maG a b c X Y Z S, true)
  | 0, _ => by kernel_rfl
  | 1, _ => by kernel_rfl
  | 2, _ => by kernel_rfl
  | 3, _ => by kernel_rfl
  | k + 4, h => absurd h (by omega)
theorem ma_zero : ∀ i, i < 4 → (evCode Try.prog envN2 40 (preC 1 maIL) (stOf (maT1 i (X i) o) (maG a b c X Y Z S))).map (cutP maKT) = some (.normal, true, maT i 0 (X i) o, maG a b c X Y Z S, true)
  | 0, _ => by kernel_rfl
  | 1, _ => by kernel_rfl
  | 2, _ => by kernel_rfl
  | 3, _ => by kernel_rfl
  | k + 4, h => absurd h (by omega)
theorem ma_step0 : ∀ k, k < 4 → Tr Try.prog 0 maI (stOf (maT 0 k (X 0) o) (maG a b c X Y Z S)) .normal (stOf (maT 0 (k + 1) (X 0) (maN X Y S 0 k o)) (maG a b c X Y Z (maS X Y S 0 k o)))
  | 0, _ => Tr.ev (n := 40) (N := 9) (keep := maKT) (vc := true) envN2_ok mix (by kernel_rfl) rfl rfl rfl
  | 1, _ => Tr.ev (n := 40) (N := 9) (keep := maKT) (vc := true) envN2_ok mix (by kernel_rfl) rfl rfl rfl
  | 2, _ => Tr.ev (n := 40) (N := 9) (keep := maKT) (vc := true) envN2_ok mix (by kernel_rfl) rfl rfl rfl
  | 3, _ => Tr.ev (n := 40) (N := 9) (keep := maKT) (vc := true) envN2_ok mix (by kernel_rfl) rfl rfl rfl
  | k + 4, h => absurd h (by omega)
theorem ma_step1 : ∀ k, k < 4 → Tr Try.prog 0 maI (stOf (maT 1 k (X 1) o) (maG a b c X Y Z S)) .normal (stOf (maT 1 (k + 1) (X 1) (maN X Y S 1 k o)) (maG a b c X Y Z (maS X Y S 1 k o)))
  | 0, _ => Tr.ev (n := 40) (N := 9) (keep := maKT) (vc := true) envN2_ok mix (by kernel_rfl) rfl rfl rfl
  | 1, _ => Tr.ev (n := 40) (N := 9) (keep := maKT) (vc := true) envN2_ok mix (by kernel_rfl) rfl rfl rfl
  | 2, _ => Tr.ev (n := 40) (N := 9) (keep := maKT) (vc := true) envN2_ok mix (by kernel_rfl) rfl rfl rfl
  | 3, _ => Tr.ev (n := 40) (N := 9) (keep := maKT) (vc := true) envN2_ok mix (by kernel_rfl) rfl rfl rfl
  | k + 4, h => absurd h (by omega)
theorem ma_step2 : ∀ k, k < 4 → Tr Try.prog 0 maI (stOf (maT 2 k (X 2) o) (maG a b c X Y Z S)) .normal (stOf (maT 2 (k + 1) (X 2) (maN X Y S 2 k o)) (maG a b c X Y Z (maS X Y S 2 k o)))
  | 0, _ => Tr.ev (n := 40) (N := 9) (keep := maKT) (vc := true) envN2_ok mix (by kernel_rfl) rfl rfl rfl
  | 1, _ => Tr.ev (n := 40) (N := 9) (keep := maKT) (vc := true) envN2_ok mix (by kernel_rfl) rfl rfl rfl
  | 2, _ => Tr.ev (n := 40) (N := 9) (keep := maKT) (vc := true) envN2_ok mix (by kernel_rfl) rfl rfl rfl
  | 3, _ => Tr.ev (n := 40) (N := 9) (keep := maKT) (vc := true) envN2_ok mix (by kernel_rfl) rfl rfl rfl
  | k + 4, h => absurd h (by omega)
theorem ma_step3 : ∀ k, k < 4 → Tr Try.prog 0 maI (stOf (maT 3 k (X 3) o) (maG a b c X Y Z S)) .normal (stOf (maT 3 (k + 1) (X 3) (maN X Y S 3 k o)) (maG a b c X Y Z (maS X Y S 3 k o)))
  | 0, _ => Tr.ev (n := 40) (N := 9) (keep := maKT) (vc := true) envN2_ok mix (by kernel_rfl) rfl rfl rfl
  | 1, _ => Tr.ev (n := 40) (N := 9) (keep := maKT) (vc := true) envN2_ok mix (by kernel_rfl) rfl rfl rfl
  | 2, _ => Tr.ev (n := 40) (N := 9) (keep := maKT) (vc := true) envN2_ok mix (by kernel_rfl) rfl rfl rfl
  | 3, _ => Tr.ev (n := 40) (N := 9) (keep := maKT) (vc := true) envN2_ok mix (by kernel_rfl) rfl rfl rfl
  | k + 4, h => absurd h (by omega)
theorem ma_step : ∀ i, i < 4 → ∀ k, k < 4 → Tr Try.prog 0 maI (stOf (maT i k (X i) o) (maG a b c X Y Z S)) .normal (stOf (maT i (k + 1) (X i) (maN X Y S i k o)) (maG a b c X Y Z (maS X Y S i k o)))
  | 0, _ => ma_step0 a b c X Y Z S o
  | 1, _ => ma_step1 a b c X Y Z S o
  | 2, _ => ma_step2 a b c X Y Z S o
  | 3, _ => ma_step3 a b c X Y Z S o
  | k + 4, h => absurd h (by omega)
theorem ma_end : ∀ i, i < 4 → Tr Try.prog 0 maI (stOf (maT i 4 (X i) o) (maG a b c X Y Z S)) (.exit 2) (stOf (maT i 4 (X i) o) (maG a b c X Y Z S))
  | 0, _ => Tr.ev (n := 40) (N := 9) (keep := maKT) (vc := true) envN2_ok mix (by kernel_rfl) rfl rfl rfl
  | 1, _ => Tr.ev (n := 40) (N := 9) (keep := maKT) (vc := true) envN2_ok mix (by kernel_rfl) rfl rfl rfl
  | 2, _ => Tr.ev (n := 40) (N := 9) (keep := maKT) (vc := true) envN2_ok mix (by kernel_rfl) rfl rfl rfl
  | 3, _ => Tr.ev (n := 40) (N := 9) (keep := maKT) (vc := true) envN2_ok mix (by kernel_rfl) rfl rfl rfl
  | k + 4, h => absurd h (by omega)
theorem ma_mid : ∀ i, i < 4 → (evCode Try.prog envN2 40 (preC 1 maOL) (stOf (maT i 4 (X i) o) (maG a b c X Y Z S))).map (cutP maKU) = some (.normal, true, maU i (i + 4) o, maG a b c X Y Z S, true)
  | 0, _ => by kernel_rfl
  | 1, _ => by kernel_rfl
  | 2, _ => by kernel_rfl
  | 3, _ => by kernel_rfl
  | k + 4, h => absurd h (by omega)
theorem ma_over (h : o > 0) : ∀ i, i < 4 → Tr Try.prog 0 maO (stOf (maU i (i + 4) o) (maG a b c X Y Z S)) .normal (stOf (maU i (i + 5) (addHi (S (i + 4)).toNat o.toNat)) (maG a b c X Y Z (upd S (i + 4) (addLo (S (i + 4)).toNat o.toNat))))
  | 0, _ => Tr.ev (n := ⟨1000000, [(79, true)]⟩) (N := 9) (keep := maKU) (vc := (decide (o > 0) == true && true) && true) envN2_ok mix (by kernel_rfl) (by rw [decide_eq_true h]; rfl) rfl rfl
  | 1, _ => Tr.ev (n := ⟨1000000, [(79, true)]⟩) (N := 9) (keep := maKU) (vc := (decide (o > 0) == true && true) && true) envN2_ok mix (by kernel_rfl) (by rw [decide_eq_true h]; rfl) rfl rfl
  | 2, _ => Tr.ev (n := ⟨1000000, [(79, true)]⟩) (N := 9) (keep := maKU) (vc := (decide (o > 0) == true && true) && true) envN2_ok mix (by kernel_rfl) (by rw [decide_eq_true h]; rfl) rfl rfl
  | 3, _ => Tr.ev (n := ⟨1000000, [(79, true)]⟩) (N := 9) (keep := maKU) (vc := (decide (o > 0) == true && true) && true) envN2_ok mix (by kernel_rfl) (by rw [decide_eq_true h]; rfl) rfl rfl
  | k + 4, h => absurd h (by omega)
theorem ma_out (h : ¬ o > 0) (d : Nat) (hd : d < 2) : ∀ i, i < 4 → Tr Try.prog 0 maO (stOf (maU i (i + 4 + d) o) (maG a b c X Y Z S)) (.exit 4) (stOf (maA (i : Nat)) (maG a b c X Y Z S))
  | 0, _ => by
    match d, hd with
    | 0, _ => exact Tr.ev (n := ⟨1000000, [(79, false)]⟩) (N := 9) (keep := maKA) (vc := (decide (o > 0) == false && true) && true) envN2_ok mix (by kernel_rfl) (by rw [decide_eq_false h]; rfl) rfl rfl
    | 1, _ => exact Tr.ev (n := ⟨1000000, [(79, false)]⟩) (N := 9) (keep := maKA) (vc := (decide (o > 0) == false && true) && true) envN2_ok mix (by kernel_rfl) (by rw [decide_eq_false h]; rfl) rfl rfl
    | d + 2, h => exact absurd h (by omega)
  | 1, _ => by
    match d, hd with
    | 0, _ => exact Tr.ev (n := ⟨1000000, [(79, false)]⟩) (N := 9) (keep := maKA) (vc := (decide (o > 0) == false && true) && true) envN2_ok mix (by kernel_rfl) (by rw [decide_eq_false h]; rfl) rfl rfl
    | 1, _ => exact Tr.ev (n := ⟨1000000, [(79, false)]⟩) (N := 9) (keep := maKA) (vc := (decide (o > 0) == false && true) && true) envN2_ok mix (by kernel_rfl) (by rw [decide_eq_false h]; rfl) rfl rfl
    | d + 2, h => exact absurd h (by omega)
  | 2, _ => by
    match d, hd with
    | 0, _ => exact Tr.ev (n := ⟨1000000, [(79, false)]⟩) (N := 9) (keep := maKA) (vc := (decide (o > 0) == false && true) && true) envN2_ok mix (by kernel_rfl) (by rw [decide_eq_false h]; rfl) rfl rfl
    | 1, _ => exact Tr.ev (n := ⟨1000000, [(79, false)]⟩) (N := 9) (keep := maKA) (vc := (decide (o > 0) == false && true) && true) envN2_ok mix (by kernel_rfl) (by rw [decide_eq_false h]; rfl) rfl rfl
    | d + 2, h => exact absurd h (by omega)
  | 3, _ => by
    match d, hd with
    | 0, _ => exact Tr.ev (n := ⟨1000000, [(79, false)]⟩) (N := 9) (keep := maKA) (vc := (decide (o > 0) == false && true) && true) envN2_ok mix (by kernel_rfl) (by rw [decide_eq_false h]; rfl) rfl rfl
    | 1, _ => exact Tr.ev (n := ⟨1000000, [(79, false)]⟩) (N := 9) (keep := maKA) (vc := (decide (o > 0) == false && true) && true) envN2_ok mix (by kernel_rfl) (by rw [decide_eq_false h]; rfl) rfl rfl
    | d + 2, h => exact absurd h (by omega)
  | k + 4, h => absurd h (by omega)
theorem ma_next : ∀ i, i < 4 → Tr Try.prog 0 (cR (postC 2 maB)) (stOf (maA (i : Nat)) (maG a b c X Y Z S)) .normal (stOf (maA ((i + 1 : Nat) : Int)) (maG a b c X Y Z S))
  | 0, _ => Tr.ev (n := 40) (N := 9) (keep := maKA) (vc := true) envN2_ok mix (by kernel_rfl) rfl rfl rfl
  | 1, _ => Tr.ev (n := 40) (N := 9) (keep := maKA) (vc := true) envN2_ok mix (by kernel_rfl) rfl rfl rfl
  | 2, _ => Tr.ev (n := 40) (N := 9) (keep := maKA) (vc := true) envN2_ok mix (by kernel_rfl) rfl rfl rfl
  | 3, _ => Tr.ev (n := 40) (N := 9) (keep := maKA) (vc := true) envN2_ok mix (by kernel_rfl) rfl rfl rfl
  | k + 4, h => absurd h (by omega)
theorem ma_last : Tr Try.prog 0 maB (stOf (maA (4 : Nat)) (maG a b c X Y Z S)) (.exit 0) (stOf (maA (4 : Nat)) (maG a b c X Y Z S)) :=
  Tr.ev (n := 40) (N := 9) (keep := maKA) (vc := true) envN2_ok mix (by kernel_rfl) rfl rfl rfl
def maV (S : Nat → Int) : Nat := natB 18446744073709551616 (fun j => S (0 + j)) 9 % L
noncomputable def maG9 : Heap := [some (.ints .u8 32 a), some (.ints .u8 32 b), some (.ints .u8 32 c), some (.ints .u8 32 (nbF (dq (maV S) 0) (dq (maV S) 1) (dq (maV S) 2) (dq (maV S) 3)))]
theorem ma_post (h : wordsB 9 (fun j => S (0 + j)) = true) : Tr Try.prog 0 (cR maX) (stOf (maA 4) (maG a b c X Y Z S)) .ret (stOf (tmk [(6, .ptr 3 [])] 0 98) (maG9 a b c S ++ (maG a b c X Y Z S).drop 4)) :=
  Tr.ev (n := 1000000) (N := 9) (keep := maskOf [6]) (vc := (wordsB 9 (fun j => S (0 + j)) && true) && true) envN2_ok mix (by kernel_rfl) (by rw [h]; rfl) rfl rfl
end
end Go.Proofs.Ytiolcdjnmnhcgaa
