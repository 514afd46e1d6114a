/- Part 7 of the proof. No condition. -/
import Derived.Test.YtjianphppcappaaQHuffPuts6
set_option linter.unusedVariables false
set_option linter.unusedSimpArgs false
set_option linter.unusedSectionVars false

/-! fardelref13.Take: its parts. No condition. -/
namespace Go.Proofs.Ytjianphppcappaa
open Go.AE
set_option maxRecDepth 100000
noncomputable def tcC : Code := bodyC Try.f30
noncomputable def tcB : Code := cB (cB (cR (cL (cR (cR tcC)))))
noncomputable def tcY : Code := cB (cL (cR tcB))
noncomputable def tcW : Code := cR (cR (cR tcY))
noncomputable def tcI : Code := cB (cB (cR (cL tcW)))
noncomputable def envTC : Env := (env0.set 16 (lift 0 RefRoomV)).set 46 (liftL reach BTakeM)
theorem envTC_ok : EnvOK Try.prog envTC := ((env0_ok _).set (RefRoom_ok.lift 0)).set (BTake_ok.lift reach)
section
variable (N : Nat) (c w : Nat → Int) (cp cq : Option Nat) (x l i : Int)
def tcA : List (Nat × T) := [(0, .ptr 0 []), (1, .fsi .i64 N c cp), (2, .fsi .u32 N w cq)]
def tcX : List (Nat × T) := [(0, .ptr 0 []), (1, .fsi .i64 N c cp), (2, .fsi .u32 N w cq), (8, .int .u32 x)]
def tcT : List (Nat × T) := [(0, .ptr 0 []), (1, .fsi .i64 N c cp), (2, .fsi .u32 N w cq), (8, .int .u32 x), (9, .num l)]
def tcT5 (v e : Int) : List (Nat × T) := [(0, .ptr 0 []), (1, .fsi .i64 N c cp), (2, .fsi .u32 N w cq), (8, .int .u32 x), (9, .num l), (10, .int .u64 v), (11, .int .i64 e)]
def tcTi : List (Nat × T) := [(0, .ptr 0 []), (1, .fsi .i64 N c cp), (2, .fsi .u32 N w cq), (8, .int .u32 x), (9, .num l), (12, .num i)]
end

theorem tc_0 (N : Nat) (c w : Nat → Int) (cp cq : Option Nat) (m : Nat) (a : Int) (b : Nat → Int) : Tr Try.prog 2 (cL tcC) (stW 2 3 (tmk (tcA N c w cp cq) 0 58) (xP m a b)) (.normal) (stW 2 3 (tmk (tcA N c w cp cq) 0 58) (xP m a b)) :=
  Tr.evW (n := ⟨1000000, []⟩) (N := 2) (keep := maskOf [0, 1, 2]) (nm := maskOf []) (vc := true) envTC_ok mix (by kernel_rfl) rfl rfl rfl (hk_c rfl (hk_r (fun _ => rfl) rfl))

theorem tc_1 (N : Nat) (c w : Nat → Int) (cp cq : Option Nat) (m : Nat) (a : Int) (b : Nat → Int) : Tr Try.prog 2 (cL (cR tcC)) (stW 2 3 (tmk (tcA N c w cp cq) 0 58) (xP m a b)) (.normal) (stW 2 3 (tmk (tcX N c w cp cq 0) 0 58) (xP m a b)) :=
  Tr.evW (n := ⟨1000000, []⟩) (N := 2) (keep := maskOf [0, 1, 2, 8]) (nm := maskOf []) (vc := true) envTC_ok mix (by kernel_rfl) rfl rfl rfl (hk_c rfl (hk_r (fun _ => rfl) rfl))

theorem tc_2 (N : Nat) (c w : Nat → Int) (cp cq : Option Nat) (m : Nat) (a : Int) (b : Nat → Int) : Tr Try.prog 2 (cL (cL (cR (cR tcC)))) (stW 2 3 (tmk (tcX N c w cp cq 0) 0 58) (xP m a b)) (.normal) (stW 2 3 (tmk (tcT N c w cp cq 0 1) 0 58) (xP m a b)) :=
  Tr.evW (n := ⟨1000000, []⟩) (N := 2) (keep := maskOf [0, 1, 2, 8, 9]) (nm := maskOf [9]) (vc := true) envTC_ok mix (by kernel_rfl) rfl rfl rfl (hk_c rfl (hk_r (fun _ => rfl) rfl))

noncomputable def tc_3V (N : Nat) (c w : Nat → Int) (cp cq : Option Nat) (x l : Int) (m : Nat) (a : Int) (b : Nat → Int) : Bool := (decide (l ≤ 15) == true && true && true)
theorem tc_3 (N : Nat) (c w : Nat → Int) (cp cq : Option Nat) (x l : Int) (m : Nat) (a : Int) (b : Nat → Int) (hv : tc_3V N c w cp cq x l m a b = true) : Tr Try.prog 2 (cL tcB) (stW 2 3 (tmk (tcT N c w cp cq x l) 0 58) (xP m a b)) (.normal) (stW 2 3 (tmk (tcT N c w cp cq x l) 0 58) (xP m a b)) :=
  Tr.evW (n := ⟨1000000, [(14, true)]⟩) (N := 2) (keep := maskOf [0, 1, 2, 8, 9]) (nm := maskOf [9]) (vc := tc_3V N c w cp cq x l m a b) envTC_ok mix (by kernel_rfl) hv rfl rfl (hk_c rfl (hk_r (fun _ => rfl) rfl))

noncomputable def tc_3xV (N : Nat) (c w : Nat → Int) (cp cq : Option Nat) (x l : Int) (m : Nat) (a : Int) (b : Nat → Int) : Bool := (decide (l ≤ 15) == false && true && true)
theorem tc_3x (N : Nat) (c w : Nat → Int) (cp cq : Option Nat) (x l : Int) (m : Nat) (a : Int) (b : Nat → Int) (hv : tc_3xV N c w cp cq x l m a b = true) : Tr Try.prog 2 (tcB) (stW 2 3 (tmk (tcT N c w cp cq x l) 0 58) (xP m a b)) (.exit 0) (stW 2 3 (tmk ([]) 0 58) (xP m a b)) :=
  Tr.evW (n := ⟨1000000, [(14, false)]⟩) (N := 2) (keep := maskOf []) (nm := maskOf []) (vc := tc_3xV N c w cp cq x l m a b) envTC_ok mix (by kernel_rfl) hv rfl rfl (hk_c rfl (hk_r (fun _ => rfl) rfl))

noncomputable def tc_5V (N : Nat) (c w : Nat → Int) (cp cq : Option Nat) (x l : Int) (m : Nat) (a : Int) (b : Nat → Int) : Bool := ((holds (BtIn m m (bo b) a) && (allN (fun j => idsL [0, 1] (bo b j)) m && true)) && true && true)
theorem tc_5 (N : Nat) (c w : Nat → Int) (cp cq : Option Nat) (x l : Int) (m : Nat) (a : Int) (b : Nat → Int) (hv : tc_5V N c w cp cq x l m a b = true) : Tr Try.prog 2 (cL tcY) (stW 2 3 (tmk (tcT N c w cp cq x l) 0 58) (xP m a b)) (.normal) (stW 2 3 (tmk (tcT5 N c w cp cq x l (btV m (boOf (bo b)) a) (btE m a)) 0 58) (xP m (btA m a) (boOf (bo b)))) :=
  Tr.evW (n := ⟨1000000, []⟩) (N := 2) (keep := maskOf [0, 1, 2, 8, 9, 10, 11]) (nm := maskOf [9]) (vc := tc_5V N c w cp cq x l m a b) envTC_ok mix (by kernel_rfl) hv rfl rfl (hk_c rfl (hk_r (fun _ => rfl) rfl))

noncomputable def tc_6eV (N : Nat) (c w : Nat → Int) (cp cq : Option Nat) (x l v e : Int) (m : Nat) (a : Int) (b : Nat → Int) : Bool := ((!e == 0) == true && true && true)
theorem tc_6e (N : Nat) (c w : Nat → Int) (cp cq : Option Nat) (x l v e : Int) (m : Nat) (a : Int) (b : Nat → Int) (hv : tc_6eV N c w cp cq x l v e m a b = true) : Tr Try.prog 2 (cL (cR tcY)) (stW 2 3 (tmk (tcT5 N c w cp cq x l v e) 0 58) (xP m a b)) (.ret) (stW 2 3 (tmk ([(6, .int .i64 0), (7, .int .i64 e)]) 0 58) (xP m a b)) :=
  Tr.evW (n := ⟨1000000, [(23, true)]⟩) (N := 2) (keep := maskOf [6, 7]) (nm := maskOf []) (vc := tc_6eV N c w cp cq x l v e m a b) envTC_ok mix (by kernel_rfl) hv rfl rfl (hk_c rfl (hk_r (fun _ => rfl) rfl))

noncomputable def tc_6V (N : Nat) (c w : Nat → Int) (cp cq : Option Nat) (x l v e : Int) (m : Nat) (a : Int) (b : Nat → Int) : Bool := ((!e == 0) == false && true && true)
theorem tc_6 (N : Nat) (c w : Nat → Int) (cp cq : Option Nat) (x l v e : Int) (m : Nat) (a : Int) (b : Nat → Int) (hv : tc_6V N c w cp cq x l v e m a b = true) : Tr Try.prog 2 (cL (cR tcY)) (stW 2 3 (tmk (tcT5 N c w cp cq x l v e) 0 58) (xP m a b)) (.normal) (stW 2 3 (tmk (tcT5 N c w cp cq x l v e) 0 58) (xP m a b)) :=
  Tr.evW (n := ⟨1000000, [(23, false)]⟩) (N := 2) (keep := maskOf [0, 1, 2, 8, 9, 10, 11]) (nm := maskOf [9]) (vc := tc_6V N c w cp cq x l v e m a b) envTC_ok mix (by kernel_rfl) hv rfl rfl (hk_c rfl (hk_r (fun _ => rfl) rfl))

theorem tc_8 (N : Nat) (c w : Nat → Int) (cp cq : Option Nat) (x l v e : Int) (m : Nat) (a : Int) (b : Nat → Int) : Tr Try.prog 2 (cL (cR (cR tcY))) (stW 2 3 (tmk (tcT5 N c w cp cq x l v e) 0 58) (xP m a b)) (.normal) (stW 2 3 (tmk (tcT N c w cp cq (IntKind.u32.wrap (IntKind.u32.wrap (2 * x) + IntKind.u32.wrap v)) l) 0 58) (xP m a b)) :=
  Tr.evW (n := ⟨1000000, []⟩) (N := 2) (keep := maskOf [0, 1, 2, 8, 9]) (nm := maskOf [9]) (vc := true) envTC_ok mix (by kernel_rfl) rfl rfl rfl (hk_c rfl (hk_r (fun _ => rfl) rfl))

theorem tc_9 (N : Nat) (c w : Nat → Int) (cp cq : Option Nat) (x l : Int) (m : Nat) (a : Int) (b : Nat → Int) : Tr Try.prog 2 (cL (cL tcW)) (stW 2 3 (tmk (tcT N c w cp cq x l) 0 58) (xP m a b)) (.normal) (stW 2 3 (tmk (tcTi N c w cp cq x l 0) 0 58) (xP m a b)) :=
  Tr.evW (n := ⟨1000000, []⟩) (N := 2) (keep := maskOf [0, 1, 2, 8, 9, 12]) (nm := maskOf [9, 12]) (vc := true) envTC_ok mix (by kernel_rfl) rfl rfl rfl (hk_c rfl (hk_r (fun _ => rfl) rfl))

noncomputable def tc_12aV (N : Nat) (c w : Nat → Int) (cp cq : Option Nat) (x l i : Int) (m : Nat) (a : Int) (b : Nat → Int) : Bool := (decide (-9223372036854775808 ≤ i + 1 ∧ i + 1 ≤ 9223372036854775807) && true && (decide (0 ≤ i ∧ i < (↑N : Int)) && ((c i.toNat == l) == false && true) && (decide (i < (↑N : Int)) == true && true && true)))
theorem tc_12a (N : Nat) (c w : Nat → Int) (cp cq : Option Nat) (x l i : Int) (m : Nat) (a : Int) (b : Nat → Int) (hv : tc_12aV N c w cp cq x l i m a b = true) : Tr Try.prog 2 (tcI) (stW 2 3 (tmk (tcTi N c w cp cq x l i) 0 58) (xP m a b)) (.normal) (stW 2 3 (tmk (tcTi N c w cp cq x l (i + 1)) 0 58) (xP m a b)) :=
  Tr.evW (n := ⟨1000000, [(33, true), (41, false)]⟩) (N := 2) (keep := maskOf [0, 1, 2, 8, 9, 12]) (nm := maskOf [9, 12]) (vc := tc_12aV N c w cp cq x l i m a b) envTC_ok mix (by kernel_rfl) hv rfl rfl (hk_c rfl (hk_r (fun _ => rfl) rfl))

noncomputable def tc_12bV (N : Nat) (c w : Nat → Int) (cp cq : Option Nat) (x l i : Int) (m : Nat) (a : Int) (b : Nat → Int) : Bool := (decide (-9223372036854775808 ≤ i + 1 ∧ i + 1 ≤ 9223372036854775807) && true && (decide (0 ≤ i ∧ i < (↑N : Int)) && ((c i.toNat == l) == true && ((false || decide (0 ≤ i ∧ i < (↑N : Int))) && (((w i.toNat == x) == false || false) && true))) && (decide (i < (↑N : Int)) == true && true && true)))
theorem tc_12b (N : Nat) (c w : Nat → Int) (cp cq : Option Nat) (x l i : Int) (m : Nat) (a : Int) (b : Nat → Int) (hv : tc_12bV N c w cp cq x l i m a b = true) : Tr Try.prog 2 (tcI) (stW 2 3 (tmk (tcTi N c w cp cq x l i) 0 58) (xP m a b)) (.normal) (stW 2 3 (tmk (tcTi N c w cp cq x l (i + 1)) 0 58) (xP m a b)) :=
  Tr.evW (n := ⟨1000000, [(33, true), (41, true), (48, false)]⟩) (N := 2) (keep := maskOf [0, 1, 2, 8, 9, 12]) (nm := maskOf [9, 12]) (vc := tc_12bV N c w cp cq x l i m a b) envTC_ok mix (by kernel_rfl) hv rfl rfl (hk_c rfl (hk_r (fun _ => rfl) rfl))

noncomputable def tc_12hV (N : Nat) (c w : Nat → Int) (cp cq : Option Nat) (x l i : Int) (m : Nat) (a : Int) (b : Nat → Int) : Bool := (decide (0 ≤ i ∧ i < (↑N : Int)) && ((c i.toNat == l) == true && ((false || decide (0 ≤ i ∧ i < (↑N : Int))) && (((w i.toNat == x) == true || false) && true))) && (decide (i < (↑N : Int)) == true && true && true))
theorem tc_12h (N : Nat) (c w : Nat → Int) (cp cq : Option Nat) (x l i : Int) (m : Nat) (a : Int) (b : Nat → Int) (hv : tc_12hV N c w cp cq x l i m a b = true) : Tr Try.prog 2 (tcI) (stW 2 3 (tmk (tcTi N c w cp cq x l i) 0 58) (xP m a b)) (.ret) (stW 2 3 (tmk ([(6, .num i), (7, .int .i64 0)]) 0 58) (xP m a b)) :=
  Tr.evW (n := ⟨1000000, [(33, true), (41, true), (48, true)]⟩) (N := 2) (keep := maskOf [6, 7]) (nm := maskOf [6]) (vc := tc_12hV N c w cp cq x l i m a b) envTC_ok mix (by kernel_rfl) hv rfl rfl (hk_c rfl (hk_r (fun _ => rfl) rfl))

noncomputable def tc_12xV (N : Nat) (c w : Nat → Int) (cp cq : Option Nat) (x l i : Int) (m : Nat) (a : Int) (b : Nat → Int) : Bool := (decide (i < (↑N : Int)) == false && true && true)
theorem tc_12x (N : Nat) (c w : Nat → Int) (cp cq : Option Nat) (x l i : Int) (m : Nat) (a : Int) (b : Nat → Int) (hv : tc_12xV N c w cp cq x l i m a b = true) : Tr Try.prog 2 (tcI) (stW 2 3 (tmk (tcTi N c w cp cq x l i) 0 58) (xP m a b)) (.exit 2) (stW 2 3 (tmk (tcT N c w cp cq x l) 0 58) (xP m a b)) :=
  Tr.evW (n := ⟨1000000, [(33, false)]⟩) (N := 2) (keep := maskOf [0, 1, 2, 8, 9]) (nm := maskOf [9]) (vc := tc_12xV N c w cp cq x l i m a b) envTC_ok mix (by kernel_rfl) hv rfl rfl (hk_c rfl (hk_r (fun _ => rfl) rfl))

noncomputable def tc_14aV (N : Nat) (c w : Nat → Int) (cp cq : Option Nat) (x l : Int) (m : Nat) (a : Int) (b : Nat → Int) : Bool := ((l == 1) == false && true && true)
theorem tc_14a (N : Nat) (c w : Nat → Int) (cp cq : Option Nat) (x l : Int) (m : Nat) (a : Int) (b : Nat → Int) (hv : tc_14aV N c w cp cq x l m a b = true) : Tr Try.prog 2 (cR tcW) (stW 2 3 (tmk (tcT N c w cp cq x l) 0 58) (xP m a b)) (.normal) (stW 2 3 (tmk (tcT N c w cp cq x l) 0 58) (xP m a b)) :=
  Tr.evW (n := ⟨1000000, [(52, false)]⟩) (N := 2) (keep := maskOf [0, 1, 2, 8, 9]) (nm := maskOf [9]) (vc := tc_14aV N c w cp cq x l m a b) envTC_ok mix (by kernel_rfl) hv rfl rfl (hk_c rfl (hk_r (fun _ => rfl) rfl))

noncomputable def tc_14bV (N : Nat) (c w : Nat → Int) (cp cq : Option Nat) (x l : Int) (m : Nat) (a : Int) (b : Nat → Int) : Bool := ((l == 1) == true && ((false || holds (N ≤ 100000 ∧ lenOK N c) && true) && (((rmI c N == 16384) == false || false) && true)) && true)
theorem tc_14b (N : Nat) (c w : Nat → Int) (cp cq : Option Nat) (x l : Int) (m : Nat) (a : Int) (b : Nat → Int) (hv : tc_14bV N c w cp cq x l m a b = true) : Tr Try.prog 2 (cR tcW) (stW 2 3 (tmk (tcT N c w cp cq x l) 0 58) (xP m a b)) (.normal) (stW 2 3 (tmk (tcT N c w cp cq x l) 0 58) (xP m a b)) :=
  Tr.evW (n := ⟨1000000, [(52, true), (56, false)]⟩) (N := 2) (keep := maskOf [0, 1, 2, 8, 9]) (nm := maskOf [9]) (vc := tc_14bV N c w cp cq x l m a b) envTC_ok mix (by kernel_rfl) hv rfl rfl (hk_c rfl (hk_r (fun _ => rfl) rfl))

noncomputable def tc_14cV (N : Nat) (c w : Nat → Int) (cp cq : Option Nat) (x l : Int) (m : Nat) (a : Int) (b : Nat → Int) : Bool := ((l == 1) == true && ((false || holds (N ≤ 100000 ∧ lenOK N c) && true) && (((rmI c N == 16384) == true || false) && true)) && true)
theorem tc_14c (N : Nat) (c w : Nat → Int) (cp cq : Option Nat) (x l : Int) (m : Nat) (a : Int) (b : Nat → Int) (hv : tc_14cV N c w cp cq x l m a b = true) : Tr Try.prog 2 (cR tcW) (stW 2 3 (tmk (tcT N c w cp cq x l) 0 58) (xP m a b)) (.ret) (stW 2 3 (tmk ([(6, .int .i64 0), (7, .int .i64 130)]) 0 58) (xP m a b)) :=
  Tr.evW (n := ⟨1000000, [(52, true), (56, true)]⟩) (N := 2) (keep := maskOf [6, 7]) (nm := maskOf []) (vc := tc_14cV N c w cp cq x l m a b) envTC_ok mix (by kernel_rfl) hv rfl rfl (hk_c rfl (hk_r (fun _ => rfl) rfl))

noncomputable def tc_4V (N : Nat) (c w : Nat → Int) (cp cq : Option Nat) (x l : Int) (m : Nat) (a : Int) (b : Nat → Int) : Bool := (decide (-9223372036854775808 ≤ l + 1 ∧ l + 1 ≤ 9223372036854775807) && true && true)
theorem tc_4 (N : Nat) (c w : Nat → Int) (cp cq : Option Nat) (x l : Int) (m : Nat) (a : Int) (b : Nat → Int) (hv : tc_4V N c w cp cq x l m a b = true) : Tr Try.prog 2 (cR (cR tcB)) (stW 2 3 (tmk (tcT N c w cp cq x l) 0 58) (xP m a b)) (.normal) (stW 2 3 (tmk (tcT N c w cp cq x (l + 1)) 0 58) (xP m a b)) :=
  Tr.evW (n := ⟨1000000, []⟩) (N := 2) (keep := maskOf [0, 1, 2, 8, 9]) (nm := maskOf [9]) (vc := tc_4V N c w cp cq x l m a b) envTC_ok mix (by kernel_rfl) hv rfl rfl (hk_c rfl (hk_r (fun _ => rfl) rfl))

theorem tc_16 (m : Nat) (a : Int) (b : Nat → Int) : Tr Try.prog 2 (cR (cR (cR tcC))) (stW 2 3 (tmk ([]) 0 58) (xP m a b)) (.ret) (stW 2 3 (tmk ([(6, .int .i64 0), (7, .int .i64 130)]) 0 58) (xP m a b)) :=
  Tr.evW (n := ⟨1000000, []⟩) (N := 2) (keep := maskOf [6, 7]) (nm := maskOf []) (vc := true) envTC_ok mix (by kernel_rfl) rfl rfl rfl (hk_c rfl (hk_r (fun _ => rfl) rfl))

theorem tcC_eq : tcC = .seq (cL tcC) (.seq (cL (cR tcC)) (.seq (.seq (cL (cL (cR (cR tcC)))) (.block 0 (.loop tcB))) (cR (cR (cR tcC))))) := by kernel_rfl
theorem tcB_eq : tcB = .seq (cL tcB) (.seq (.block 1 (.seq (cL tcY) (.seq (cL (cR tcY)) (.seq (cL (cR (cR tcY))) tcW)))) (cR (cR tcB))) := by kernel_rfl
theorem tcW_eq : tcW = .seq (.seq (cL (cL tcW)) (.block 2 (.loop tcI))) (cR tcW) := by kernel_rfl
end Go.Proofs.Ytjianphppcappaa

/-! bytes.Clone of what is told by a name: its parts. No condition. -/
namespace Go.Proofs.Ytjianphppcappaa
open Go.AE
set_option maxRecDepth 100000
noncomputable def bcC : Code := bodyC Try.f45

theorem bc_0 (n : Nat) (f : Nat → Int) : Tr Try.prog 1 (bcC) (stW 1 0 (tmk ([(0, .nilslice)]) 0 8) ([some (.ints .u8 n f)])) (.ret) (stW 1 0 (tmk ([(2, .nilslice)]) 0 8) ([some (.ints .u8 n f)])) :=
  Tr.evW (n := ⟨1000000, []⟩) (N := 1) (keep := maskOf [2]) (nm := maskOf []) (vc := true) (env0_ok _) mix (by kernel_rfl) rfl rfl rfl (rfl)

noncomputable def bc_1V (n : Nat) (f : Nat → Int) : Bool := (decide (0 + n ≤ n) && (((0 + n) * Try.prog.types[5].bytes).ble 140737488355328 && (0 + n).ble 9223372036854775807) && true && (decide (0 < n) && true && true && true))
theorem bc_1 (n : Nat) (f : Nat → Int) (hv : bc_1V n f = true) : Tr Try.prog 1 (bcC) (stW 1 0 (tmk ([(0, .slice 0 [] 0 1 n none)]) 0 8) ([some (.ints .u8 n f)])) (.ret) (stW 1 0 (tmk ([(2, .slice 2 [] 0 1 (0 + n) none)]) 0 8) ([some (.ints .u8 n f), none, some (.ints .u8 (0 + n) (catF 0 (fun _ => 0) fun j => f (0 + j)))])) :=
  Tr.evW (n := ⟨1000000, [(4, false)]⟩) (N := 3) (keep := maskOf [2]) (nm := maskOf []) (vc := bc_1V n f) (env0_ok _) mix (by kernel_rfl) hv rfl rfl (rfl)

theorem bc_2 (n q c : Nat) (f : Nat → Int) : Tr Try.prog 1 (cL bcC) (stW 1 0 (tmk ([(0, .slice 0 [] q 1 0 (some c))]) 0 8) ([some (.ints .u8 n f)])) (.normal) (stW 1 0 (tmk ([(0, .slice 0 [] q 1 0 (some c))]) 0 8) ([some (.ints .u8 n f)])) :=
  Tr.evW (n := ⟨1000000, []⟩) (N := 1) (keep := maskOf [0]) (nm := maskOf []) (vc := true) (env0_ok _) mix (by kernel_rfl) rfl rfl rfl (rfl)

theorem bc_3 (n q c : Nat) (f : Nat → Int) : Tr Try.prog 1 (cL (cR bcC)) (stW 1 0 (tmk ([(0, .slice 0 [] q 1 0 (some c))]) 0 8) ([some (.ints .u8 n f)])) (.normal) (stW 1 0 (tmk ([(0, .slice 0 [] q 1 0 (some c))]) 0 8) ([some (.ints .u8 n f)])) :=
  Tr.evW (n := ⟨1000000, []⟩) (N := 1) (keep := maskOf [0]) (nm := maskOf []) (vc := true) (env0_ok _) mix (by kernel_rfl) rfl rfl rfl (rfl)

theorem bc_4 (n c : Nat) (f : Nat → Int) : Tr Try.prog 1 (cR (cR bcC)) (stW 1 0 (tmk ([(0, .fsi .u8 0 (fun _ => 0) (some c))]) 0 8) ([some (.ints .u8 n f)])) (.ret) (stW 1 0 (tmk ([(2, .slice 2 [] 0 1 0 none)]) 0 8) ([some (.ints .u8 n f), none, some (.ints .u8 0 (catF 0 (fun _ => 0) fun _ => 0))])) :=
  Tr.evW (n := ⟨1000000, []⟩) (N := 3) (keep := maskOf [2]) (nm := maskOf []) (vc := true) (env0_ok _) mix (by kernel_rfl) rfl rfl rfl (rfl)

theorem bcC_eq : bcC = .seq (cL bcC) (.seq (cL (cR bcC)) (cR (cR bcC))) := by kernel_rfl
end Go.Proofs.Ytjianphppcappaa

/-! bytes.Clone of what is told by a name, by its model. No condition. -/
namespace Go.AE
open Go
/-- A temporary's value is looked at: what it is in each case. -/
theorem Tr.byVal {P : Program} {n0 : Nat} {c : Code} {s s2 : St} {e : Ex} (i : Nat) {t0 : T} (w : Tr P n0 c ⟨tset s.tm i t0, s.G, s.vc, s.t, s.w⟩ e s2) (hi : i < s.tm.length)
    (h : ∀ ρ x, (R ρ (tget s.tm i)).v x → ∃ t', (R ρ t').v x ∧ Tr P n0 c ⟨tset s.tm i t', s.G, s.vc, s.t, s.w⟩ e s2) : Tr P n0 c s e s2 := by
  refine ⟨w.len, w.t, by rw [w.tm]; exact tset_len _ _ _, fun K ρ0 G0 w0 dS m hG g1 g2 a w hR => ?_⟩
  obtain ⟨⟨ρ, hp, htm, hsim⟩, hsz, hdfr, hst, hlen⟩ := hR
  obtain ⟨t', h1, h2⟩ := h ρ _ (htm i)
  refine h2.run K ρ0 G0 w0 dS m hG g1 g2 a w ⟨⟨ρ, hp, fun t => ?_, hsim⟩, hsz, hdfr, hst, by rw [← hlen]; exact tset_len _ _ _⟩
  by_cases hti : t = i
  · subst hti
    rw [tget_tset_same _ hi]; exact h1
  · rw [tget_tset_ne _ hti]; exact htm t
end Go.AE
namespace Go.Proofs.Ytjianphppcappaa
open Go.AE
set_option maxRecDepth 100000
noncomputable def CloneB : Model
  | [.slice 0 [] 0 1 n none], [some (.ints .u8 n' f)] => some ⟨decide (n' = n ∧ n ≤ 140737488355328), .slice 1 [] 0 1 n none, [some (.ints .u8 n' f), some (.ints .u8 n f)], 1, 0⟩
  | _, _ => none
theorem cb_some {n : Nat} {f : Nat → Int} (h0 : 0 < n) (hn : n ≤ 140737488355328) : Tr Try.prog 1 bcC (stW 1 0 (tmk [(0, .slice 0 [] 0 1 n none)] 0 8) [some (.ints .u8 n f)]) .ret (stW 1 0 (tmk [(2, .slice 1 [] 0 1 n none)] 0 8) [some (.ints .u8 n f), some (.ints .u8 n f)]) := by
  have hb : Try.prog.types[5].bytes = 1 := by kernel_rfl
  have h := bc_1 n f (by
    unfold bc_1V
    rw [hb]
    simp only [Bool.and_true, Bool.and_eq_true, decide_eq_true_eq, Nat.ble_eq]
    omega)
  have h2 := Tr.pick [0, 2] (maskOf [2]) h (tm' := tmk [(2, .slice 1 [] 0 1 (0 + n) none)] 0 8) (G' := [some (.ints .u8 n f), some (.ints .u8 (0 + n) (catF 0 (fun _ => 0) fun j => f (0 + j)))]) (by kernel_rfl) (by kernel_rfl) (by kernel_rfl) trivial (by kernel_rfl) (by kernel_rfl)
  rw [Nat.zero_add] at h2
  refine h2.weak (St.leL (LeL.refl _) ⟨⟨rfl, fun _ _ h => h⟩, ints_le (fun j hj => ?_), trivial⟩ fun j hj hw => ?_)
  · unfold catF
    rw [show Nat.blt j 0 = false from by cases hb : Nat.blt j 0 with | false => rfl | true => simp at hb]
    show f (0 + (j - 0)) = f j
    rw [Nat.sub_zero, Nat.zero_add]
  · rcases (show j = 0 from by have hj' : j < 1 := hj; omega) with rfl
    rfl
theorem cb_nil (f : Nat → Int) : Tr Try.prog 1 bcC (stW 1 0 (tmk [(0, .nilslice)] 0 8) [some (.ints .u8 0 f)]) .ret (stW 1 0 (tmk [(2, .slice 1 [] 0 1 0 none)] 0 8) [some (.ints .u8 0 f), some (.ints .u8 0 f)]) := by
  have h := Tr.vac (bc_0 0 f) (.ints .u8 0 f) rfl
  exact h.weak (St.leL ⟨rfl, fun ρ x hx => nil_slice hx, trivial⟩ (LeG.refl _) fun _ _ _ => rfl)
theorem cb_emp (q c : Nat) (f : Nat → Int) : Tr Try.prog 1 bcC (stW 1 0 (tmk [(0, .slice 0 [] q 1 0 (some c))] 0 8) [some (.ints .u8 0 f)]) .ret (stW 1 0 (tmk [(2, .slice 1 [] 0 1 0 none)] 0 8) [some (.ints .u8 0 f), some (.ints .u8 0 f)]) := by
  rw [bcC_eq]
  have h := bc_4 0 c f
  have h2 := Tr.pick [0, 2] (maskOf [2]) h (tm' := tmk [(2, .slice 1 [] 0 1 0 none)] 0 8) (G' := [some (.ints .u8 0 f), some (.ints .u8 0 (catF 0 (fun _ => 0) fun _ => 0))]) (by kernel_rfl) (by kernel_rfl) (by kernel_rfl) trivial (by kernel_rfl) (by kernel_rfl)
  have h3 := h2.weak (s2 := stW 1 0 (tmk [(2, .slice 1 [] 0 1 0 none)] 0 8) [some (.ints .u8 0 f), some (.ints .u8 0 f)]) (St.leL (LeL.refl _) ⟨⟨rfl, fun _ _ h => h⟩, ints_le (fun j hj => absurd hj (Nat.not_lt_zero _)), trivial⟩ fun j hj hw => by
    rcases (show j = 0 from by have hj' : j < 1 := hj; omega) with rfl
    rfl)
  refine Tr.seq (bc_2 0 q c f) (Tr.seq (bc_3 0 q c f) (Tr.weak0 h3 (St.leL ⟨rfl, fun ρ x hx => ?_, trivial⟩ (LeG.refl _) fun _ _ _ => rfl)))
  obtain ⟨b, sz, h1, h2⟩ := sliceR_some hx
  exact ⟨_, _, h2, Nat.zero_le _, fun c' h => Option.some.inj h, fun h => absurd h (Nat.lt_irrefl _)⟩
theorem cb_all {n : Nat} {f : Nat → Int} (hn : n ≤ 140737488355328) : Tr Try.prog 1 bcC (stW 1 0 (tmk [(0, .slice 0 [] 0 1 n none)] 0 8) [some (.ints .u8 n f)]) .ret (stW 1 0 (tmk [(2, .slice 1 [] 0 1 n none)] 0 8) [some (.ints .u8 n f), some (.ints .u8 n f)]) := by
  rcases Nat.eq_zero_or_pos n with rfl | h0
  · refine Tr.byVal 0 (t0 := .nilslice) (cb_nil f) (show 0 < 8 by decide) fun ρ x hx => ?_
    rcases hx with ⟨b, sz, h1, _, _, h2 | ⟨_, a, rfl, ha⟩⟩ | ⟨_, _, _, h⟩
    · obtain ⟨c, rfl, _, _⟩ := h2
      exact ⟨.slice 0 [] 0 1 0 (some c), .inl ⟨b, sz, h1, rfl⟩, cb_emp 0 c f⟩
    · cases a with
      | none => exact ⟨.nilslice, rfl, cb_nil f⟩
      | some a' =>
        obtain ⟨hb, q, h⟩ := ha a' rfl
        subst hb
        refine ⟨.slice 0 [] q 1 0 (some 0), .inl ⟨_, sz, h1, ?_⟩, cb_emp q 0 f⟩
        rw [h]
        show Value.slice (some ⟨_, q * 1, none⟩) 0 0 = .slice (some ⟨_, 0 + q * 1, none⟩) 0 0
        rw [Nat.zero_add]
    · exact ⟨.nilslice, h, cb_nil f⟩
  · exact cb_some h0 hn
theorem CloneB_ok : SoundL Try.prog 45 CloneB := by
  refine SoundL.of_tr (fn := Try.f45) (c := bcC) (by kernel_rfl) (by kernel_rfl) (by kernel_rfl) (fun args G r hm => ?_) fun args G r hm hvc => ?_
  · unfold CloneB at hm
    split at hm
    · cases hm
      refine ⟨Nat.le_succ _, fun k hk hw => ?_, fun k hk hw => ?_⟩
      · exact absurd (show Nat.testBit 0 k = true from hw) (by simp)
      · rcases (show k = 0 from by have hk' : k < 1 := hk; omega) with rfl
        rfl
    · cases hm
  · unfold CloneB at hm
    split at hm
    · cases hm
      obtain ⟨rfl, hn⟩ := of_decide_eq_true hvc
      exact ⟨.ret, _, [.slice 1 [] 0 1 _ none], 0, .inl rfl, cb_all hn, rfl, rfl, rfl, rfl⟩
    · cases hm
end Go.Proofs.Ytjianphppcappaa

/-! bits.Writer.Bytes: its parts. No condition. -/
namespace Go.Proofs.Ytjianphppcappaa
open Go.AE
set_option maxRecDepth 100000
noncomputable def wbC : Code := bodyC Try.f27
noncomputable def envWB : Env := env0.set 45 (liftL reach CloneB)
theorem envWB_ok : EnvOK Try.prog envWB := (env0_ok _).set (CloneB_ok.lift reach)
def wbG (k : Nat) (la n : Int) (f : Nat → Int) : Heap := [some (wS 1 k la n), some (.ints .u8 k f)]

noncomputable def wb_0V (k : Nat) (la n : Int) (f : Nat → Int) : Bool := (decide (n > 0) == false && true && (decide (k = k ∧ k ≤ 140737488355328) && true && true && true))
theorem wb_0 (k : Nat) (la n : Int) (f : Nat → Int) (hv : wb_0V k la n f = true) : Tr Try.prog 2 (wbC) (stW 2 3 (tmk ([(0, .ptr 0 [])]) 0 25) (wbG k la n f)) (.ret) (stW 2 3 (tmk ([(2, .slice 2 [] 0 1 k none)]) 0 25) (wbG k la n f ++ [some (.ints .u8 k f)])) :=
  Tr.evW (n := ⟨1000000, [(15, false)]⟩) (N := 3) (keep := maskOf [2]) (nm := maskOf []) (vc := wb_0V k la n f) envWB_ok mix (by kernel_rfl) hv rfl rfl (rfl)

noncomputable def wb_1V (k : Nat) (la n : Int) (f : Nat → Int) : Bool := (decide (k ≤ k) && ((((k + 1).mul 0).add k).ble 140737488355327 && k.ble 9223372036854775806) && true && (decide (n > 0) == true && true && (decide (k = k ∧ k ≤ 140737488355328) && true && true && true)))
theorem wb_1 (k : Nat) (la n : Int) (f : Nat → Int) (hv : wb_1V k la n f = true) : Tr Try.prog 2 (wbC) (stW 2 3 (tmk ([(0, .ptr 0 [])]) 0 25) (wbG k la n f)) (.ret) (stW 2 3 (tmk ([(2, .slice 4 [] 0 1 (k + 1) none)]) 0 25) (wbG k la n f ++ [none, some (.ints .u8 1 (fo8 (IntKind.u8.wrap la))), some (.ints .u8 (k + 1) (catF k f (one1 (IntKind.u8.wrap la))))])) :=
  Tr.evW (n := ⟨1000000, [(15, true)]⟩) (N := 5) (keep := maskOf [2]) (nm := maskOf []) (vc := wb_1V k la n f) envWB_ok mix (by kernel_rfl) hv rfl rfl (rfl)

end Go.Proofs.Ytjianphppcappaa

/-! bits.Writer.Bytes by its model. No condition. -/
namespace Go.Proofs.Ytjianphppcappaa
open Go.AE
set_option maxRecDepth 100000
/-- How many bytes a writer's bits are. -/
def byN (k : Nat) (n : Int) : Nat := if 0 < n then k + 1 else k
def byF (k : Nat) (la : Int) (f : Nat → Int) (j : Nat) : Int := if j < k then f j else la
noncomputable def BytesM : Model
  | [.ptr 0 []], [some (.cons (.slice 1 [] 0 1 k none) (.cons (.int .u64 la) (.cons (.int .i64 n) .nil))), some (.ints .u8 k' f)] => some ⟨holds (k' = k ∧ WrIn k la n f), .slice 2 [] 0 1 (byN k n) none, [some (wS 1 k la n), some (.ints .u8 k' f), some (.ints .u8 (byN k n) (byF k la f))], 3, 3⟩
  | _, _ => none
theorem wb_all {k : Nat} {la n : Int} {f : Nat → Int} (h : WrIn k la n f) : Tr Try.prog 2 wbC (stW 2 3 (tmk [(0, .ptr 0 [])] 0 25) (wbG k la n f)) .ret (stW 2 3 (tmk [(2, .slice 2 [] 0 1 (byN k n) none)] 0 25) (wbG k la n f ++ [some (.ints .u8 (byN k n) (byF k la f))])) := by
  have hk := h.room
  unfold byN
  by_cases hn : 0 < n
  · rw [if_pos hn]
    have h1 := wb_1 k la n f (by
      unfold wb_1V
      rw [show (k + 1).mul 0 = 0 from rfl, Nat.add_eq, Nat.zero_add, decide_eq_true (show n > 0 from hn), decide_eq_true (show k = k ∧ k ≤ 140737488355328 from ⟨rfl, by omega⟩), decide_eq_true (Nat.le_refl k), Nat.ble_eq_true_of_le (show k ≤ 140737488355327 by omega), Nat.ble_eq_true_of_le (show k ≤ 9223372036854775806 by omega)]; rfl)
    have h2 := Tr.pick [0, 1, 4] (maskOf [2]) h1 (tm' := tmk [(2, .slice 2 [] 0 1 (k + 1) none)] 0 25) (G' := wbG k la n f ++ [some (.ints .u8 (k + 1) (catF k f (one1 (IntKind.u8.wrap la))))]) (by kernel_rfl) (by kernel_rfl) (by kernel_rfl) trivial (by kernel_rfl) (by kernel_rfl)
    refine h2.weak (St.leL (LeL.refl _) ⟨⟨rfl, fun _ _ h => h⟩, ⟨rfl, fun _ _ h => h⟩, ints_le (fun j hj => ?_), trivial⟩ fun j hj hw => ?_)
    · have hla : IntKind.u8.wrap la = la := by
        have h3 := h.last
        have h4 : (2 : Int) ^ n.toNat ≤ 2 ^ 8 := by
          have := h.num
          exact_mod_cast Nat.pow_le_pow_right (show 0 < 2 by decide) (show n.toNat ≤ 8 by omega)
        rw [IntKind.wrap_u8]; omega
      unfold catF byF
      rw [hla]
      by_cases h5 : j < k
      · rw [show Nat.blt j k = true by simpa using h5, if_pos h5]
        rfl
      · rw [show Nat.blt j k = false from by
          cases hb : Nat.blt j k with
          | false => rfl
          | true => simp at hb; omega, if_neg h5, show j - k = 0 by omega]
        rfl
    · rcases (show j = 0 ∨ j = 1 from by have hj' : j < 2 := hj; omega) with rfl | rfl
      · exact absurd hw (by decide)
      · exact absurd hw (by decide)
  · rw [if_neg hn]
    have h1 := wb_0 k la n f (by
      unfold wb_0V
      rw [decide_eq_false (show ¬ n > 0 from hn), decide_eq_true (show k = k ∧ k ≤ 140737488355328 from ⟨rfl, by omega⟩)]; rfl)
    refine h1.weak (St.leL (LeL.refl _) ⟨⟨rfl, fun _ _ h => h⟩, ⟨rfl, fun _ _ h => h⟩, ints_le (fun j hj => ?_), trivial⟩ fun j hj hw => ?_)
    · unfold byF
      rw [if_pos hj]
    · rcases (show j = 0 ∨ j = 1 from by have hj' : j < 2 := hj; omega) with rfl | rfl
      · exact absurd hw (by decide)
      · exact absurd hw (by decide)
theorem Bytes_ok : SoundL Try.prog 27 BytesM := by
  refine SoundL.of_tr (fn := Try.f27) (c := wbC) (by kernel_rfl) (by kernel_rfl) (by kernel_rfl) (fun args G r hm => ?_) fun args G r hm hvc => ?_
  · unfold BytesM at hm
    split at hm
    · cases hm
      exact stat2 (Nat.le_succ _)
    · cases hm
  · unfold BytesM at hm
    split at hm
    · cases hm
      obtain ⟨rfl, hn⟩ := of_holds hvc
      exact ⟨.ret, _, [.slice 2 [] 0 1 _ none], 0, .inl rfl, Tr.widen0 (W := 3) (wb_all hn) (fun j _ h => by simp at h) (fun j hj h => mask_bit hj), rfl, rfl, rfl, rfl⟩
    · cases hm
end Go.Proofs.Ytjianphppcappaa

/-! HuffOrder: its parts. No condition. -/
namespace Go.Proofs.Ytjianphppcappaa
open Go.AE
set_option maxRecDepth 100000
section
variable (N : Nat) (c : Nat → Int) (m a : Int)
end





















end Go.Proofs.Ytjianphppcappaa

/-! HuffOrder. No condition. -/
namespace Go.Proofs.Ytjianphppcappaa
open Go.AE Go.Pm
set_option maxRecDepth 100000
end Go.Proofs.Ytjianphppcappaa

/-! HuffBack: the plain law. No condition. -/
namespace Go.Proofs.Ytjianphppcappaa
open Go.AE Go.Pm
set_option maxRecDepth 100000
/-- Where the words of symbols stand, and all their bits. -/
def offF (l : Nat → Int) (s : Nat → Nat) : Nat → Nat
  | 0 => 0
  | i + 1 => offF l s i + (l (s i)).toNat
def bitsF (l w : Nat → Int) (s : Nat → Nat) : Nat → Nat → Int
  | 0, _ => 0
  | i + 1, p => if p < offF l s i then bitsF l w s i p else w (s i) / 2 ^ ((l (s i)).toNat - 1 - (p - offF l s i)) % 2
theorem bitsF_bits (l w : Nat → Int) (s : Nat → Nat) : ∀ i, Bits (bitsF l w s i)
  | 0, _ => .inl rfl
  | i + 1, p => by
    rw [bitsF]
    split
    · exact bitsF_bits l w s i p
    · omega
theorem off_mono (l : Nat → Int) (s : Nat → Nat) {i n : Nat} (h : i ≤ n) : offF l s i ≤ offF l s n := by
  obtain ⟨k, rfl⟩ := Nat.exists_eq_add_of_le h
  induction k with
  | zero => exact Nat.le_refl _
  | succ k ih =>
    have := ih (by omega)
    show _ ≤ offF l s (i + k) + _
    omega
theorem bitsF_at {l w : Nat → Int} {s : Nat → Nat} {i t : Nat} (ht : t < (l (s i)).toNat) : ∀ n, i < n → bitsF l w s n (offF l s i + t) = w (s i) / 2 ^ ((l (s i)).toNat - 1 - t) % 2
  | n + 1, h => by
    rw [bitsF]
    by_cases e : i = n
    · subst e
      rw [if_neg (by omega), show offF l s i + t - offF l s i = t by omega]
    · have := off_mono l s (show i + 1 ≤ n by omega)
      rw [offF] at this
      rw [if_pos (by omega), bitsF_at ht n (by omega)]
theorem off_bnd {l : Nat → Int} {s : Nat → Nat} : ∀ n, (∀ i, i < n → 0 ≤ l (s i) ∧ l (s i) ≤ 15) → offF l s n ≤ 15 * n
  | 0, _ => Nat.le_refl _
  | n + 1, h => by
    have ih := off_bnd n fun i hi => h i (by omega)
    have := h n (by omega)
    rw [offF]; omega
theorem pk_bit {b : Nat → Int} (hb : Bits b) {o i : Nat} : ∀ t, i < t → pk b o t / 2 ^ i % 2 = b (o + i)
  | t + 1, h => by
    have hp := pk_bnd hb o t
    have h2 := hb (o + t)
    rw [pk]
    by_cases e : i = t
    · subst e
      have hq : (0 : Int) < 2 ^ i := Int.pow_pos (by decide)
      rw [Int.add_mul_ediv_right _ _ (Int.ne_of_gt hq), Int.ediv_eq_zero_of_lt hp.1 hp.2]
      omega
    · have ih := pk_bit hb (o := o) t (show i < t by omega)
      have hq : (0 : Int) < 2 ^ i := Int.pow_pos (by decide)
      have e2 : (2 : Int) ^ t = 2 ^ (t - i - 1) * 2 * 2 ^ i := by
        rw [Int.mul_assoc, ← Int.pow_succ', ← Int.pow_add]
        congr 1; omega
      rw [e2, ← Int.mul_assoc, Int.add_mul_ediv_right _ _ (Int.ne_of_gt hq), ← Int.mul_assoc, Int.add_mul_emod_self_right]
      exact ih
theorem by_bit {b : Nat → Int} (hb : Bits b) (p : Nat) : bitF (byB b) p = b p := by
  unfold bitF byB
  rw [pk_bit hb 8 (Nat.mod_lt _ (by decide)), Nat.div_add_mod]
theorem pk_wr {b : Nat → Int} (hb : Bits b) {m : Nat} (hm : m ≤ 1000000) : WrIn (m / 8) (pk b (8 * (m / 8)) (m % 8)) (m % 8 : Nat) (byB b) := by
  refine ⟨by omega, by omega, ?_, fun i _ => ?_⟩
  · rw [Int.toNat_natCast]
    exact pk_bnd hb _ _
  · have := pk_bnd hb (8 * i) 8
    rw [show (2 : Int) ^ 8 = 256 by decide] at this
    exact this
theorem bW_eq {b : Nat → Int} (hb : Bits b) {m l : Nat} {x : Int} (hx : ∀ t, t < l → b (m + t) = x / 2 ^ (l - 1 - t) % 2) {p : Nat} (hp : p < m + l) : bW (m / 8) (pk b (8 * (m / 8)) (m % 8)) (m % 8) (byB b) x l p = b p := by
  unfold bW
  by_cases h1 : p < 8 * (m / 8)
  · rw [if_pos h1, by_bit hb]
  · rw [if_neg h1]
    by_cases h2 : p < 8 * (m / 8) + m % 8
    · rw [if_pos h2, pk_bit hb _ (by omega), show 8 * (m / 8) + (p - 8 * (m / 8)) = p by omega]
    · rw [if_neg h2, ← hx _ (by omega), show m + (p - 8 * (m / 8) - m % 8) = p by omega]
theorem byN_eq (m : Nat) : byN (m / 8) (m % 8 : Nat) = (m + 7) / 8 := by
  unfold byN
  split <;> omega
end Go.Proofs.Ytjianphppcappaa

/-! fardelref13.Take by its model. No condition. -/
namespace Go.Proofs.Ytjianphppcappaa
open Go.AE
set_option maxRecDepth 100000
open Classical in
/-- As tkF, of bits. -/
noncomputable def tkB (C : Cd) (m : Nat) (b : Nat → Int) : Nat → Nat → Int → Nat → Int × Int × Nat
  | 0, _, _, a => (0, 130, a)
  | d + 1, j, x, a => if m ≤ a then (0, 120, a) else
    if C.hit (j + 1) (2 * x + b a) then (C.g (j + 1) (2 * x + b a - C.F (j + 1)).toNat, 0, a + 1) else
    if C.stop (2 * x + b a) then (0, 130, a + 1) else tkB C m b d (j + 1) (2 * x + b a) (a + 1)
theorem tkB_eq (C : Cd) (n : Nat) (f : Nat → Int) : ∀ d j x a, tkB C (8 * n) (bitF f) d j x a = tkF C n f d j x a
  | 0, _, _, _ => rfl
  | d + 1, j, x, a => by rw [tkB, tkF, tkB_eq C n f d]
theorem find_cnt {c : Nat → Int} {l : Nat} {q : Int} (h0 : 0 ≤ q) : ∀ N, q < cntF c N l → ∃ s, s < N ∧ c s = l ∧ cntF c s l = q
  | 0, h => by rw [cntF] at h; omega
  | n + 1, h => by
    by_cases h1 : q < cntF c n l
    · obtain ⟨s, a, b, d⟩ := find_cnt h0 n h1
      exact ⟨s, by omega, b, d⟩
    · rw [cntF] at h
      by_cases h2 : c n = l
      · rw [if_pos h2] at h
        exact ⟨n, by omega, h2, by omega⟩
      · rw [if_neg h2] at h
        omega
theorem sums_F {c : Nat → Int} : ∀ n, (∀ i, i < n → 0 ≤ c i ∧ c i ≤ 15) → 16384 * cntF c n 1 ≤ rmI c n ∧ cntF c n 0 + cntF c n 1 ≤ n ∧ (cntF c n 0 + cntF c n 1 = n → rmI c n = 16384 * cntF c n 1) ∧ smI c n = n - cntF c n 0 ∧
    (smI c n = 0 → rmI c n = 0) ∧ (smI c n = 1 → rmI c n = 16384 → cntF c n 1 = 1)
  | 0, _ => by simp [rmI, smI, cntF]
  | n + 1, h => by
    obtain ⟨h1, h2, h3, h4, h5, h6⟩ := sums_F n fun i hi => h i (by omega)
    have hc := h n (by omega)
    have hr := rmI_bnd c n
    have hcn := cntF_bnd c 1 n
    have hc0 := cntF_bnd c 0 n
    obtain ⟨k, hk⟩ := Int.eq_ofNat_of_zero_le hc.1
    rw [rmI, smI, cntF, cntF]
    by_cases e0 : k = 0
    · rw [if_neg (show ¬ c n > 0 by omega), if_neg (show ¬ c n > 0 by omega), if_pos (show c n = ((0 : Nat) : Int) by omega), if_neg (show ¬ c n = ((1 : Nat) : Int) by omega)]
      refine ⟨by omega, by omega, fun _ => by omega, by omega, fun _ => by omega, fun a b => ?_⟩
      have := h6 (by omega) (by omega)
      omega
    · rw [if_pos (show c n > 0 by omega), if_pos (show c n > 0 by omega), if_neg (show ¬ c n = ((0 : Nat) : Int) by omega)]
      have hp := pow15 (k := 15 - (c n).toNat) (by omega)
      by_cases e1 : k = 1
      · rw [if_pos (show c n = ((1 : Nat) : Int) by omega), hk, e1]
        have : (2 : Int) ^ (15 - (((1 : Nat) : Int)).toNat) = 16384 := by decide
        rw [this]
        refine ⟨by omega, by omega, fun _ => by omega, by omega, fun _ => by omega, fun a b => ?_⟩
        omega
      · rw [if_neg (show ¬ c n = ((1 : Nat) : Int) by omega)]
        refine ⟨by omega, by omega, fun _ => by omega, by omega, fun _ => by omega, fun a b => ?_⟩
        have h7 := h5 (by omega)
        have h8 : (2 : Int) ^ (15 - (c n).toNat) ≤ 2 ^ 13 := by exact_mod_cast Nat.pow_le_pow_right (show 0 < 2 by decide) (show 15 - (c n).toNat ≤ 13 by omega)
        rw [show (2 : Int) ^ 13 = 8192 by decide] at h8
        omega
section
variable {N : Nat} {c : Nat → Int} (h : WoIn N c)
include h
theorem cd_k (q : Nat) : (((foCd N c).k q : Nat) : Int) = cntF c N q := cntS_eq q N fun i hi => (h.ok i hi).1
theorem cd_F {q : Nat} (hq : 1 ≤ q) : (cntF c N q = 0 → (foCd N c).F q = 0) ∧ (0 < cntF c N q → (foCd N c).F q = stF c N q) := by
  obtain ⟨h1, h2⟩ := fstF_eq h.ok hq N (Nat.le_refl _)
  have e := cntS_eq (c := c) q N fun i hi => (h.ok i hi).1
  exact ⟨fun h0 => h1 (by omega), fun h0 => h2 (by omega)⟩
theorem hit_find {l : Nat} {X : Int} (hl : 1 ≤ l) (hh : (foCd N c).hit l X) : ∃ s, s < N ∧ c s = l ∧ wordF c N s = X ∧ (foCd N c).g l (X - (foCd N c).F l).toNat = s ∧ ∀ i, i < s → ¬ (c i = l ∧ wordF c N i = X) := by
  have hk := cd_k h l
  obtain ⟨h1, h2⟩ := hh
  have hF := (cd_F h hl).2 (by omega)
  rw [hF] at h1 h2 ⊢
  obtain ⟨s, a, b, d⟩ := find_cnt (c := c) (l := l) h1 N (by omega)
  have e : ∀ i, c i = l → wordF c N i = stF c N l + cntF c i l := fun i hi => by
    unfold wordF
    rw [if_pos (by omega), hi, Int.toNat_natCast]
  refine ⟨s, a, b, by rw [e s b]; omega, ?_, fun i hi ⟨q1, q2⟩ => ?_⟩
  · have e2 := cntS_eq (c := c) l s fun i hi => (h.ok i (by omega)).1
    rw [show (X - stF c N l).toNat = cntS c s l by omega]
    exact symF_eq b N (fun i hi => (h.ok i hi).1) a
  · rw [e i q1] at q2
    have := cntF_lt hi q1
    omega
theorem hit_not {l : Nat} {X : Int} (hl : 1 ≤ l) (hh : ¬ (foCd N c).hit l X) {i : Nat} (hi : i < N) : ¬ (c i = l ∧ wordF c N i = X) := fun ⟨q1, q2⟩ => by
  have hk := cd_k h l
  have hlt := cntF_lt hi q1
  have hb := cntF_bnd c l i
  have hF := (cd_F h hl).2 (by omega)
  have e : wordF c N i = stF c N l + cntF c i l := by
    unfold wordF
    rw [if_pos (by omega), q1, Int.toNat_natCast]
  exact hh ⟨by rw [hF]; omega, by rw [hF]; omega⟩
theorem stop_iff (X : Int) : (foCd N c).stop X ↔ X = 1 ∧ rmI c N = 16384 := by
  obtain ⟨h1, h2, h3, h4, h5, h6⟩ := sums_F N h.ok
  have k0 := cd_k h 0
  have k1 := cd_k h 1
  have eN : (foCd N c).N = N := rfl
  constructor
  · rintro ⟨a, b, d⟩
    rw [eN] at d
    exact ⟨b, by rw [h3 (by omega)]; omega⟩
  · rintro ⟨a, b⟩
    have hs : smI c N = 1 := by
      rcases h.room with h | h
      · omega
      · exact h.1
    have := h6 hs b
    exact ⟨by omega, a, by rw [eN]; omega⟩
theorem F1 : (foCd N c).F 1 = 0 := by
  obtain ⟨h1, h2⟩ := cd_F h (q := 1) (Nat.le_refl _)
  have hb := cntF_bnd c 1 N
  rcases Int.lt_or_le 0 (cntF c N 1) with h0 | h0
  · exact h2 h0
  · exact h1 (by omega)
end
section
variable {N : Nat} {c : Nat → Int} {cp cq : Option Nat} {m : Nat} {b : Nat → Int}
noncomputable def tcS (N : Nat) (c : Nat → Int) (cp cq : Option Nat) (m : Nat) (b : Nat → Int) (j : Nat) (x : Int) (a : Nat) : St := stW 2 3 (tmk (tcT N c (wordF c N) cp cq x ((j + 1 : Nat) : Int)) 0 58) (xP m a b)
/-- One round of all symbols. -/
theorem tc_round (h : WoIn N c) {j : Nat} {X : Int} (a : Nat) (hl : j + 1 ≤ 15) (n : Nat) (hn : n ≤ N) (hno : ∀ i, i < n → ¬ (c i = ((j + 1 : Nat) : Int) ∧ wordF c N i = X)) {e : Ex} {s' : St} (he : e ≠ .normal)
    (hlast : Tr Try.prog 2 tcI (stW 2 3 (tmk (tcTi N c (wordF c N) cp cq X ((j + 1 : Nat) : Int) (n : Nat)) 0 58) (xP m a b)) e s') :
    TrN Try.prog 2 tcI (n + 1) (stW 2 3 (tmk (tcTi N c (wordF c N) cp cq X ((j + 1 : Nat) : Int) 0) 0 58) (xP m a b)) e s' := by
  have hN := h.n
  refine TrN.iter (S := fun i => stW 2 3 (tmk (tcTi N c (wordF c N) cp cq X ((j + 1 : Nat) : Int) (i : Nat)) 0 58) (xP m a b)) he n 0 (fun i _ hi => ?_) (by rw [Nat.zero_add]; exact hlast)
  have d1 : decide (-9223372036854775808 ≤ (i : Int) + 1 ∧ (i : Int) + 1 ≤ 9223372036854775807) = true := decide_eq_true (by omega)
  have d2 : decide (0 ≤ (i : Int) ∧ (i : Int) < (N : Int)) = true := decide_eq_true (by omega)
  have d3 : decide ((i : Int) < (N : Int)) = true := decide_eq_true (by omega)
  by_cases hc : c i = ((j + 1 : Nat) : Int)
  · exact tc_12b N c (wordF c N) cp cq X ((j + 1 : Nat) : Int) i m a b (by
      unfold tc_12bV
      rw [Int.toNat_natCast, d1, d2, d3, hc, beq_self_eq_true (((j + 1 : Nat) : Int)), beq_eq_false_iff_ne.2 (fun h2 => hno i (by omega) ⟨hc, h2⟩)]; rfl)
  · exact tc_12a N c (wordF c N) cp cq X ((j + 1 : Nat) : Int) i m a b (by
      unfold tc_12aV
      rw [Int.toNat_natCast, d1, d2, d3, beq_eq_false_iff_ne.2 hc]; rfl)
theorem tc_run (h : WoIn N c) (hm : m ≤ 1000000000000) (hb : Bits b) : ∀ (d j : Nat) (x : Int) (a : Nat), j + d = 15 → 0 ≤ x ∧ x < 2 ^ j → a ≤ m → (1 ≤ j → rmI c N ≠ 16384) →
    ∃ k, TrN Try.prog 2 tcB k (tcS N c cp cq m b j x a) .ret (stW 2 3 (tmk [(6, .int .i64 (tkB (foCd N c) m b d j x a).1), (7, .int .i64 (tkB (foCd N c) m b d j x a).2.1)] 0 58) (xP m (tkB (foCd N c) m b d j x a).2.2 b)) ∨
      ((tkB (foCd N c) m b d j x a).1 = 0 ∧ (tkB (foCd N c) m b d j x a).2.1 = 130 ∧ TrN Try.prog 2 tcB k (tcS N c cp cq m b j x a) (.exit 0) (stW 2 3 (tmk [] 0 58) (xP m (tkB (foCd N c) m b d j x a).2.2 b)))
  | 0, j, x, a, hj, hx, ha, _ => by
    refine ⟨1, .inr ⟨rfl, rfl, TrN.done (n := 0) ?_ (by intro h; cases h)⟩⟩
    exact tc_3x N c (wordF c N) cp cq x ((j + 1 : Nat) : Int) m a b (by unfold tc_3xV; rw [decide_eq_false (show ¬ (((j + 1 : Nat) : Int) ≤ 15) by omega)]; rfl)
  | d + 1, j, x, a, hj, hx, ha, hone => by
    have hN := h.n
    have hp := pow15 (k := j) (by omega)
    have eb : boOf (bo b) = b := boOf_bo hb
    have h3 := tc_3 N c (wordF c N) cp cq x ((j + 1 : Nat) : Int) m a b (by unfold tc_3V; rw [decide_eq_true (show ((j + 1 : Nat) : Int) ≤ 15 by omega)]; rfl)
    have h5 := tc_5 N c (wordF c N) cp cq x ((j + 1 : Nat) : Int) m a b (by
      unfold tc_5V
      rw [holds_of (show BtIn m m (bo b) (a : Int) from ⟨rfl, hm, by omega, fun j => ⟨_, rfl⟩⟩), allN_all (f := fun j => idsL [0, 1] (bo b j)) (fun _ => rfl)]; rfl)
    rw [eb] at h5
    unfold tcS
    rw [tkB]
    by_cases h8 : m ≤ a
    · rw [if_pos h8]
      have e1 : btE m a = 120 := by unfold btE; rw [if_neg (by omega)]
      have e2 : btA m a = a := by unfold btA; rw [if_neg (by omega)]
      rw [e1, e2] at h5
      refine ⟨1, .inl (TrN.done (n := 0) ?_ (by intro h; cases h))⟩
      rw [tcB_eq]
      exact Tr.seq h3 (Tr.seqX (Tr.block (Tr.seq h5 (Tr.seqX (tc_6e N c (wordF c N) cp cq x ((j + 1 : Nat) : Int) _ 120 m a b rfl) (by intro h; cases h))) (by intro i h; cases h)) (by intro h; cases h))
    · rw [if_neg h8]
      have e1 : btE m a = 0 := by unfold btE; rw [if_pos (by omega)]
      have e2 : btA m a = ((a + 1 : Nat) : Int) := by unfold btA; rw [if_pos (by omega)]; omega
      have e3 : btV m b a = b a := by unfold btV; rw [if_pos (by omega), Int.toNat_natCast]
      rw [e1, e2, e3] at h5
      have hba : 0 ≤ b a ∧ b a < 2 := by rcases hb a with e | e <;> omega
      have h8 := tc_8 N c (wordF c N) cp cq x ((j + 1 : Nat) : Int) (b a) 0 m ((a + 1 : Nat) : Int) b
      have ex : IntKind.u32.wrap (IntKind.u32.wrap (2 * x) + IntKind.u32.wrap (b a)) = 2 * x + b a := by
        rw [wrap_u32 (x := 2 * x) (by omega), wrap_u32 (x := b a) (by omega), wrap_u32 (by omega)]
      rw [ex] at h8
      have hx2 : 0 ≤ 2 * x + b a ∧ 2 * x + b a < 2 ^ (j + 1) := by rw [Int.pow_succ]; omega
      have hp2 := pow15 (k := j + 1) (by omega)
      have hX01 : j = 0 → 2 * x + b a = b a := fun e => by
        subst e
        have : x < 1 := hx.2
        omega
      generalize hX : 2 * x + b a = X at *
      have pre : ∀ {e : Ex} {s' : St}, Tr Try.prog 2 tcW (stW 2 3 (tmk (tcT N c (wordF c N) cp cq X ((j + 1 : Nat) : Int)) 0 58) (xP m ((a + 1 : Nat) : Int) b)) e s' →
          Tr Try.prog 2 (.seq (cL tcY) (.seq (cL (cR tcY)) (.seq (cL (cR (cR tcY))) tcW))) (stW 2 3 (tmk (tcT N c (wordF c N) cp cq x ((j + 1 : Nat) : Int)) 0 58) (xP m a b)) e s' := fun h =>
        Tr.seq h5 (Tr.seq (tc_6 N c (wordF c N) cp cq x ((j + 1 : Nat) : Int) _ 0 m _ b rfl) (Tr.seq h8 h))
      have h9 := tc_9 N c (wordF c N) cp cq X ((j + 1 : Nat) : Int) m ((a + 1 : Nat) : Int) b
      by_cases hh : (foCd N c).hit (j + 1) X
      · rw [if_pos hh]
        refine ⟨1, .inl (TrN.done (n := 0) ?_ (by intro h; cases h))⟩
        obtain ⟨s, a1, a2, a3, a4, a5⟩ := hit_find h (by omega) hh
        rw [a4, tcB_eq]
        have hr := tc_round (cp := cp) (cq := cq) (m := m) (b := b) h (a + 1) (by omega) s (by omega) a5 (e := .ret) (by intro h; cases h) (tc_12h N c (wordF c N) cp cq X ((j + 1 : Nat) : Int) s m ((a + 1 : Nat) : Int) b (by
          unfold tc_12hV
          rw [Int.toNat_natCast, a2, a3, beq_self_eq_true (((j + 1 : Nat) : Int)), beq_self_eq_true X, decide_eq_true (show 0 ≤ (s : Int) ∧ (s : Int) < (N : Int) by omega), decide_eq_true (show (s : Int) < (N : Int) by omega)]; rfl))
        have hw : Tr Try.prog 2 tcW (stW 2 3 (tmk (tcT N c (wordF c N) cp cq X ((j + 1 : Nat) : Int)) 0 58) (xP m ((a + 1 : Nat) : Int) b)) .ret (stW 2 3 (tmk [(6, .int .i64 s), (7, .int .i64 0)] 0 58) (xP m ((a + 1 : Nat) : Int) b)) := by
          rw [tcW_eq]
          refine Tr.weak (Tr.seqX (Tr.seq h9 (Tr.block (Tr.loop hr) (by intro i h; cases h))) (by intro h; cases h)) ?_
          exact St.leL (L := [(6, .num s), (7, .int .i64 0)]) ⟨rfl, fun _ _ h => h, rfl, fun _ _ h => h, trivial⟩ (LeG.refl _) fun _ _ _ => rfl
        exact Tr.seq h3 (Tr.seqX (Tr.block (pre hw) (by intro i h; cases h)) (by intro h; cases h))
      · rw [if_neg hh]
        have hr := tc_round (cp := cp) (cq := cq) (m := m) (b := b) h (a + 1) (by omega) N (Nat.le_refl _) (fun i hi => hit_not h (by omega) hh hi) (e := .exit 2) (by intro h; cases h) (tc_12x N c (wordF c N) cp cq X ((j + 1 : Nat) : Int) N m ((a + 1 : Nat) : Int) b (by
          unfold tc_12xV
          simp))
        have hw : ∀ {e : Ex} {s' : St}, Tr Try.prog 2 (cR tcW) (stW 2 3 (tmk (tcT N c (wordF c N) cp cq X ((j + 1 : Nat) : Int)) 0 58) (xP m ((a + 1 : Nat) : Int) b)) e s' → Tr Try.prog 2 tcW (stW 2 3 (tmk (tcT N c (wordF c N) cp cq X ((j + 1 : Nat) : Int)) 0 58) (xP m ((a + 1 : Nat) : Int) b)) e s' := fun h => by
          rw [tcW_eq]
          exact Tr.seq (Tr.seq h9 (Tr.blockX (Tr.loop hr))) h
        have hL : N ≤ 100000 ∧ lenOK N c := ⟨by omega, h.ok⟩
        by_cases hs : (foCd N c).stop X
        · rw [if_pos hs]
          obtain ⟨s1, s2⟩ := (stop_iff h X).1 hs
          have j0 : j = 0 := by
            rcases Nat.eq_zero_or_pos j with h | h
            · exact h
            · exact absurd s2 (hone h)
          subst j0
          refine ⟨1, .inl (TrN.done (n := 0) ?_ (by intro h; cases h))⟩
          rw [tcB_eq]
          have h14 := tc_14c N c (wordF c N) cp cq X ((0 + 1 : Nat) : Int) m ((a + 1 : Nat) : Int) b (by
            unfold tc_14cV
            rw [s2, holds_of hL]; rfl)
          exact Tr.seq h3 (Tr.seqX (Tr.block (pre (hw h14)) (by intro i h; cases h)) (by intro h; cases h))
        · rw [if_neg hs]
          have hne : rmI c N ≠ 16384 := fun he => by
            rcases Nat.eq_zero_or_pos j with h0 | h0
            · subst h0
              have hx1 := hX01 rfl
              have hF := F1 h
              have k1 := cd_k h 1
              obtain ⟨g1, g2, g3⟩ := (stop_iff h 1).2 ⟨rfl, he⟩
              have : X = 0 ∨ X = 1 := by rcases hb a with e | e <;> omega
              rcases this with e | e
              · exact hh ⟨by rw [show 0 + 1 = 1 from rfl, hF]; omega, by rw [show 0 + 1 = 1 from rfl, hF, g1]; omega⟩
              · exact hs ((stop_iff h X).2 ⟨e, he⟩)
            · exact hone h0 he
          have h14 : Tr Try.prog 2 (cR tcW) (stW 2 3 (tmk (tcT N c (wordF c N) cp cq X ((j + 1 : Nat) : Int)) 0 58) (xP m ((a + 1 : Nat) : Int) b)) .normal (stW 2 3 (tmk (tcT N c (wordF c N) cp cq X ((j + 1 : Nat) : Int)) 0 58) (xP m ((a + 1 : Nat) : Int) b)) := by
            by_cases j0 : j = 0
            · subst j0
              exact tc_14b N c (wordF c N) cp cq X ((0 + 1 : Nat) : Int) m ((a + 1 : Nat) : Int) b (by
                unfold tc_14bV
                rw [beq_eq_false_iff_ne.2 hne, holds_of hL]; rfl)
            · exact tc_14a N c (wordF c N) cp cq X ((j + 1 : Nat) : Int) m ((a + 1 : Nat) : Int) b (by
                unfold tc_14aV
                rw [beq_eq_false_iff_ne.2 (show ((j + 1 : Nat) : Int) ≠ 1 by omega)]; rfl)
          have h4 := tc_4 N c (wordF c N) cp cq X ((j + 1 : Nat) : Int) m ((a + 1 : Nat) : Int) b (by
            unfold tc_4V
            rw [decide_eq_true (show -9223372036854775808 ≤ ((j + 1 : Nat) : Int) + 1 ∧ ((j + 1 : Nat) : Int) + 1 ≤ 9223372036854775807 by omega)]; rfl)
          have hstep : Tr Try.prog 2 tcB (stW 2 3 (tmk (tcT N c (wordF c N) cp cq x ((j + 1 : Nat) : Int)) 0 58) (xP m a b)) .normal (tcS N c cp cq m b (j + 1) X (a + 1)) := by
            rw [tcB_eq]
            exact Tr.seq h3 (Tr.seq (Tr.block (pre (hw h14)) (by intro i h; cases h)) h4)
          obtain ⟨k, hk⟩ := tc_run h hm hb d (j + 1) X (a + 1) (by omega) hx2 (by omega) (fun _ => hne)
          rcases hk with hk | ⟨g1, g2, hk⟩
          · exact ⟨k + 1, .inl (TrN.next hstep hk)⟩
          · exact ⟨k + 1, .inr ⟨g1, g2, TrN.next hstep hk⟩⟩
theorem tc_all (h : WoIn N c) (hm : m ≤ 1000000000000) (hb : Bits b) {a : Nat} (ha : a ≤ m) :
    Tr Try.prog 2 tcC (stW 2 3 (tmk (tcA N c (wordF c N) cp cq) 0 58) (xP m a b)) .ret (stW 2 3 (tmk [(6, .int .i64 (tkB (foCd N c) m b 15 0 0 a).1), (7, .int .i64 (tkB (foCd N c) m b 15 0 0 a).2.1)] 0 58) (xP m (tkB (foCd N c) m b 15 0 0 a).2.2 b)) := by
  rw [tcC_eq]
  refine Tr.seq (tc_0 N c (wordF c N) cp cq m a b) (Tr.seq (tc_1 N c (wordF c N) cp cq m a b) ?_)
  have h2 := tc_2 N c (wordF c N) cp cq m a b
  obtain ⟨k, hk⟩ := tc_run (cp := cp) (cq := cq) h hm hb 15 0 0 a rfl (by decide) ha (by omega)
  rcases hk with hk | ⟨g1, g2, hk⟩
  · exact Tr.seqX (Tr.seq h2 (Tr.block (Tr.loop hk) (by intro i h; cases h))) (by intro h; cases h)
  · rw [g1, g2]
    exact Tr.seq (Tr.seq h2 (Tr.blockX (Tr.loop hk))) (tc_16 m _ b)
end
theorem xP_of2 {n : Nat} {a : Int} {f : Nat → T} (h : ∀ j, ∃ x, f j = .bool x) : ∀ {c : Code} {tm : List T} {e : Ex} {s : St}, Tr Try.prog 2 c (stW 2 3 tm (xP n a (boOf f))) e s = Tr Try.prog 2 c (stW 2 3 tm [some (.cons (.slice 1 [] 0 1 n none) (.cons (.int .i64 a) .nil)), some (.rows n 1 f)]) e s := by
  intro c tm e s
  have e : xP n a (boOf f) = [some (.cons (.slice 1 [] 0 1 n none) (.cons (.int .i64 a) .nil)), some (.rows n 1 f)] := by
    unfold xP
    rw [← boOf_get h]; rfl
  rw [e]
structure RtIn (N N' : Nat) (c w : Nat → Int) (m m' : Nat) (f : Nat → T) (a : Int) : Prop where
  same : m' = m ∧ N' = N
  room : m ≤ 1000000000000
  rng : 0 ≤ a ∧ a ≤ m
  bool : ∀ j, ∃ x, f j = .bool x
  code : WoIn N c
  word : w = wordF c N
noncomputable def RTakeM : Model
  | [.ptr 0 [], .fsi .i64 N c _, .fsi .u32 N' w _], [some (.cons (.slice 1 [] 0 1 m none) (.cons (.int .i64 a) .nil)), some (.rows m' 1 f)] =>
    some ⟨holds (RtIn N N' c w m m' f a), .tup (.cons (.int .i64 (tkB (foCd N c) m (boOf f) 15 0 0 a.toNat).1) (.cons (.int .i64 (tkB (foCd N c) m (boOf f) 15 0 0 a.toNat).2.1) .nil)), xP m (tkB (foCd N c) m (boOf f) 15 0 0 a.toNat).2.2 (boOf f), 3, 3⟩
  | _, _ => none
theorem RTake_ok : SoundL Try.prog 30 RTakeM := by
  refine SoundL.of_tr (fn := Try.f30) (c := tcC) (by kernel_rfl) (by kernel_rfl) (by kernel_rfl) (fun args G r hm => ?_) fun args G r hm hvc => ?_
  · unfold RTakeM at hm
    split at hm
    · cases hm
      exact stat2 (Nat.le_refl _)
    · cases hm
  · unfold RTakeM at hm
    split at hm
    · rename_i N c cp N' w cq m a m' f
      cases hm
      obtain ⟨⟨rfl, rfl⟩, h1, h2, h3, h4, rfl⟩ := of_holds hvc
      obtain ⟨A, rfl⟩ := Int.eq_ofNat_of_zero_le h2.1
      rw [Int.toNat_natCast]
      refine ⟨.ret, stW 2 3 (tmk [(6, .int .i64 (tkB (foCd N' c) m' (boOf f) 15 0 0 A).1), (7, .int .i64 (tkB (foCd N' c) m' (boOf f) 15 0 0 A).2.1)] 0 58) (xP m' (tkB (foCd N' c) m' (boOf f) 15 0 0 A).2.2 (boOf f)), [.int .i64 (tkB (foCd N' c) m' (boOf f) 15 0 0 A).1, .int .i64 (tkB (foCd N' c) m' (boOf f) 15 0 0 A).2.1], 0, .inl rfl, ?_, rfl, rfl, rfl, rfl⟩
      refine Tr.widen0 (W := 3) ?_ (fun j _ h => by simp [stW] at h) (fun j hj h => mask_bit hj)
      have h := tc_all (cp := cp) (cq := cq) (b := boOf f) (a := A) h4 h1 (boOf_01 f) (by omega)
      rw [xP_of2 h3] at h
      exact h
    · cases hm
end Go.Proofs.Ytjianphppcappaa

/-! HuffBack: its parts. No condition. -/
namespace Go.Proofs.Ytjianphppcappaa
open Go.AE
set_option maxRecDepth 100000
section
variable (n N : Nat) (f c : Nat → Int) (x : Int) (l : Nat → Int)
end
























end Go.Proofs.Ytjianphppcappaa

/-! HuffBack. No condition. -/
namespace Go.Proofs.Ytjianphppcappaa
open Go.AE Go.Pm
set_option maxRecDepth 100000
section
variable {n N : Nat} {f : Nat → Int} {x : Int} {l : Nat → Int}
end
end Go.Proofs.Ytjianphppcappaa

/-! HuffWords. No condition. -/
namespace Go.Proofs.Ytjianphppcappaa
open Go.AE
set_option maxRecDepth 100000
section
variable (N : Nat) (c : Nat → Int)
end










end Go.Proofs.Ytjianphppcappaa

/-! HuffPuts: its parts. No condition. -/
namespace Go.Proofs.Ytjianphppcappaa
open Go.AE
set_option maxRecDepth 100000
noncomputable def hpsC : Code := bodyC Try.f11
noncomputable def hpsN (k : Nat) : Code := cL (postC k hpsC)
noncomputable def hpsL1 : Code := cB (cB (cR (hpsN 9)))
noncomputable def hpsL2 : Code := cB (cB (cR (hpsN 13)))
noncomputable def envHP : Env := (((((((envN.set 21 (lift 0 NewV)).set 19 (lift 0 WordsV)).set 27 (liftL reach BytesM)).set 28 (liftL reach BBytesM)).set 29 (lift 0 BNewV)).set 30 (liftL reach RTakeM)).set 22 (liftL reach TakeM)).set 25 (evFn Try.prog env0 1000000 Try.f25)
theorem envHP_ok : EnvOK Try.prog envHP := (((((((envN_ok.set (New_ok.lift 0)).set (RefWords_ok.lift 0)).set (Bytes_ok.lift reach)).set (BBytes_ok.lift reach)).set (BNew_ok.lift 0)).set (RTake_ok.lift reach)).set (Take_ok.lift reach)).set (SoundM.of_ev (env0_ok _) mix (by kernel_rfl) (by kernel_rfl) (by kernel_rfl))
noncomputable def envHN : Env := envHP.set 23 (evFn Try.prog env0 1000000 Try.f23)
theorem envHN_ok : EnvOK Try.prog envHN := envHP_ok.set (SoundM.of_ev (env0_ok _) mix (by kernel_rfl) (by kernel_rfl) (by kernel_rfl))
noncomputable def envP1 : Env := (envHN.set 24 (liftL reach Put1M)).set 26 (liftL reach RPutM)
theorem envP1_ok : EnvOK Try.prog envP1 := (envHN_ok.set (Put1_ok.lift reach)).set (RPut_ok.lift reach)
noncomputable def envP2 : Env := (envHN.set 24 (liftL reach Put2M)).set 26 (liftL reach RPutM)
theorem envP2_ok : EnvOK Try.prog envP2 := (envHN_ok.set (Put2_ok.lift reach)).set (RPut_ok.lift reach)
noncomputable def envPX : Env := (envHN.set 24 (liftL reach PutEM)).set 26 (liftL reach RPutEM)
theorem envPX_ok : EnvOK Try.prog envPX := (envHN_ok.set (PutE_ok.lift reach)).set (RPutE_ok.lift reach)
noncomputable def envHX : Env := (envHN.set 21 (lift 0 NewErrV)).set 19 (lift 0 WordsErrV)
theorem envHX_ok : EnvOK Try.prog envHX := (envHN_ok.set (NewErr_ok.lift 0)).set (RefWordsErr_ok.lift 0)
section
variable (N : Nat) (c : Nat → Int) (S : Nat) (s : Nat → Int) (B : Nat) (bb : Nat → Int) (w : Nat → Int) (i : Int)
def hpsA : List (Nat × T) := [(0, .fsi .i64 N c none), (1, .fsi .i64 S s none), (2, .fsi .u8 B bb none)]
def hpsT0 : List (Nat × T) := [(0, .fsi .i64 N c none), (1, .fsi .i64 S s none), (2, .fsi .u8 B bb none), (7, .bool true)]
def hpsT4 : List (Nat × T) := hpsT0 N c S s B bb ++ [(8, .fp (codT N c (wordF c N))), (9, .int .i64 0)]
def hpsT5 : List (Nat × T) := hpsT0 N c S s B bb ++ [(8, .fp (codT N c (wordF c N))), (9, .int .i64 0), (10, outS N 0), (11, .int .i64 0)]
def hpsT5f : List (Nat × T) := hpsT0 N c S s B bb ++ [(8, .fp (codT N c (wordF c N))), (9, .int .i64 0), (10, .fsi .u32 N w (some N)), (11, .int .i64 0)]
def hpsT6 : List (Nat × T) := hpsT0 N c S s B bb ++ [(8, .fp (codT N c (wordF c N))), (10, .fsi .u32 N w (some N)), (11, .int .i64 0)]
def hpsT8 : List (Nat × T) := hpsT0 N c S s B bb ++ [(8, .fp (codT N c (wordF c N))), (10, .fsi .u32 N w (some N))]
def hpsT10 : List (Nat × T) := hpsT8 N c S s B bb w ++ [(12, .ptr 0 [])]
def hpsT11 : List (Nat × T) := hpsT8 N c S s B bb w ++ [(12, .ptr 0 []), (13, .ptr 2 [])]
def hpsTi : List (Nat × T) := hpsT8 N c S s B bb w ++ [(12, .ptr 0 []), (13, .ptr 2 []), (14, .num i)]
def hpsT19 : List (Nat × T) := hpsT8 N c S s B bb w ++ [(15, .ptr 0 [])]
def hpsT20 : List (Nat × T) := hpsT8 N c S s B bb w ++ [(15, .ptr 0 []), (16, .ptr 1 [])]
def hpsTj : List (Nat × T) := hpsT8 N c S s B bb w ++ [(15, .ptr 0 []), (16, .ptr 1 []), (17, .num i)]
end
def hpsW (N : Nat) (w : Nat → Int) : Heap := [some (.ints .u32 N w)]
def hpsG0 (k : Nat) (la nn : Int) (g : Nat → Int) : Heap := [some (wS 1 k la nn), some (.ints .u8 k g)]
def hpsG (k : Nat) (la nn : Int) (g : Nat → Int) (m : Nat) (b : Nat → Int) : Heap := [some (wS 1 k la nn), some (.ints .u8 k g), some (xS 3 m 0), some (.rows m 1 (bo b))]
def hpsR (B : Nat) (bb : Nat → Int) (a : Int) (m : Nat) (y : Int) (b : Nat → Int) : Heap := [some (rdT B bb none a), some (xS 2 m y), some (.rows m 1 (bo b))]

theorem hps_0 (N : Nat) (c : Nat → Int) (S : Nat) (s : Nat → Int) (B : Nat) (bb : Nat → Int) : (evCode Try.prog envHN ⟨1000000, []⟩ (preC 2 (hpsC)) (stW 0 0 (tmk (hpsA N c S s B bb) 0 133) ([]))).map (cutPW 0 0 (maskOf [0, 1, 2, 7]) (maskOf [])) =
    some (.normal, true, (tmk (hpsT0 N c S s B bb) 0 133), [], true) := by kernel_rfl

noncomputable def hps_2aV (N : Nat) (c : Nat → Int) (S : Nat) (s : Nat → Int) (B : Nat) (bb : Nat → Int) : Bool := (decide ((↑N : Int) > 300) == true && true && true)
theorem hps_2a (N : Nat) (c : Nat → Int) (S : Nat) (s : Nat → Int) (B : Nat) (bb : Nat → Int) (hv : hps_2aV N c S s B bb = true) : Tr Try.prog 0 (hpsN 2) (stW 0 0 (tmk (hpsT0 N c S s B bb) 0 133) ([])) (.ret) (stW 0 0 (tmk ([(6, .bool true)]) 0 133) ([])) :=
  Tr.evW (n := ⟨1000000, [(25, true)]⟩) (N := 0) (keep := maskOf [6]) (nm := maskOf []) (vc := hps_2aV N c S s B bb) envHN_ok mix (by kernel_rfl) hv rfl rfl (rfl)

noncomputable def hps_2bV (N : Nat) (c : Nat → Int) (S : Nat) (s : Nat → Int) (B : Nat) (bb : Nat → Int) : Bool := (decide ((↑N : Int) > 300) == false && ((decide ((↑B : Int) > 300) == true || false) && true) && true)
theorem hps_2b (N : Nat) (c : Nat → Int) (S : Nat) (s : Nat → Int) (B : Nat) (bb : Nat → Int) (hv : hps_2bV N c S s B bb = true) : Tr Try.prog 0 (hpsN 2) (stW 0 0 (tmk (hpsT0 N c S s B bb) 0 133) ([])) (.ret) (stW 0 0 (tmk ([(6, .bool true)]) 0 133) ([])) :=
  Tr.evW (n := ⟨1000000, [(25, false), (29, true)]⟩) (N := 0) (keep := maskOf [6]) (nm := maskOf []) (vc := hps_2bV N c S s B bb) envHN_ok mix (by kernel_rfl) hv rfl rfl (rfl)

noncomputable def hps_2V (N : Nat) (c : Nat → Int) (S : Nat) (s : Nat → Int) (B : Nat) (bb : Nat → Int) : Bool := (decide ((↑N : Int) > 300) == false && ((decide ((↑B : Int) > 300) == false || false) && true) && true)
theorem hps_2 (N : Nat) (c : Nat → Int) (S : Nat) (s : Nat → Int) (B : Nat) (bb : Nat → Int) (hv : hps_2V N c S s B bb = true) : Tr Try.prog 0 (hpsN 2) (stW 0 0 (tmk (hpsT0 N c S s B bb) 0 133) ([])) (.normal) (stW 0 0 (tmk (hpsT0 N c S s B bb) 0 133) ([])) :=
  Tr.evW (n := ⟨1000000, [(25, false), (29, false)]⟩) (N := 0) (keep := maskOf [0, 1, 2, 7]) (nm := maskOf []) (vc := hps_2V N c S s B bb) envHN_ok mix (by kernel_rfl) hv rfl rfl (rfl)

noncomputable def hps_3V (N : Nat) (c : Nat → Int) (S : Nat) (s : Nat → Int) (B : Nat) (bb : Nat → Int) : Bool := (holds (N ≤ 100000 ∧ ¬WoIn N c) && true && true && (holds (N ≤ 100000 ∧ ¬WoIn N c) && true && true && true))
theorem hps_3 (N : Nat) (c : Nat → Int) (S : Nat) (s : Nat → Int) (B : Nat) (bb : Nat → Int) (hv : hps_3V N c S s B bb = true) : Tr Try.prog 0 (postC 3 hpsC) (stW 0 0 (tmk (hpsT0 N c S s B bb) 0 133) ([])) (.ret) (stW 0 0 (tmk ([(6, .bool true)]) 0 133) ([])) :=
  Tr.evW (n := ⟨1000000, []⟩) (N := 0) (keep := maskOf [6]) (nm := maskOf []) (vc := hps_3V N c S s B bb) envHX_ok mix (by kernel_rfl) hv rfl rfl (rfl)

noncomputable def hps_4V (N : Nat) (c : Nat → Int) (S : Nat) (s : Nat → Int) (B : Nat) (bb : Nat → Int) : Bool := (holds (WoIn N c) && true && true && true)
theorem hps_4 (N : Nat) (c : Nat → Int) (S : Nat) (s : Nat → Int) (B : Nat) (bb : Nat → Int) (hv : hps_4V N c S s B bb = true) : Tr Try.prog 0 (hpsN 3) (stW 0 0 (tmk (hpsT0 N c S s B bb) 0 133) ([])) (.normal) (stW 0 0 (tmk (hpsT4 N c S s B bb) 0 133) ([])) :=
  Tr.evW (n := ⟨1000000, []⟩) (N := 0) (keep := maskOf [0, 1, 2, 7, 8, 9]) (nm := maskOf []) (vc := hps_4V N c S s B bb) envHN_ok mix (by kernel_rfl) hv rfl rfl (rfl)

noncomputable def hps_5V (N : Nat) (c : Nat → Int) (S : Nat) (s : Nat → Int) (B : Nat) (bb : Nat → Int) : Bool := (holds (WoIn N c) && true && true && true)
theorem hps_5 (N : Nat) (c : Nat → Int) (S : Nat) (s : Nat → Int) (B : Nat) (bb : Nat → Int) (hv : hps_5V N c S s B bb = true) : Tr Try.prog 0 (hpsN 4) (stW 0 0 (tmk (hpsT4 N c S s B bb) 0 133) ([])) (.normal) (stW 0 0 (tmk (hpsT5 N c S s B bb) 0 133) (hpsW N (wordF c N))) :=
  Tr.evW (n := ⟨1000000, []⟩) (N := 1) (keep := maskOf [0, 1, 2, 7, 8, 9, 10, 11]) (nm := maskOf []) (vc := hps_5V N c S s B bb) envHN_ok mix (by kernel_rfl) hv rfl rfl (rfl)

theorem hps_6 (N : Nat) (c : Nat → Int) (S : Nat) (s : Nat → Int) (B : Nat) (bb : Nat → Int) (w : Nat → Int) : Tr Try.prog 0 (hpsN 5) (stW 0 0 (tmk (hpsT5f N c S s B bb w) 0 133) ([])) (.normal) (stW 0 0 (tmk (hpsT6 N c S s B bb w) 0 133) ([])) :=
  Tr.evW (n := ⟨1000000, []⟩) (N := 0) (keep := maskOf [0, 1, 2, 7, 8, 10, 11]) (nm := maskOf []) (vc := true) envHN_ok mix (by kernel_rfl) rfl rfl rfl (rfl)

theorem hps_7 (N : Nat) (c : Nat → Int) (S : Nat) (s : Nat → Int) (B : Nat) (bb : Nat → Int) (w : Nat → Int) : Tr Try.prog 0 (hpsN 6) (stW 0 0 (tmk (hpsT6 N c S s B bb w) 0 133) ([])) (.normal) (stW 0 0 (tmk (hpsT8 N c S s B bb w) 0 133) ([])) :=
  Tr.evW (n := ⟨1000000, []⟩) (N := 0) (keep := maskOf [0, 1, 2, 7, 8, 10]) (nm := maskOf []) (vc := true) envHN_ok mix (by kernel_rfl) rfl rfl rfl (rfl)

theorem hps_10 (N : Nat) (c : Nat → Int) (S : Nat) (s : Nat → Int) (B : Nat) (bb : Nat → Int) (w : Nat → Int) : Tr Try.prog 0 (hpsN 7) (stW 0 0 (tmk (hpsT8 N c S s B bb w) 0 133) ([])) (.normal) (stW 0 0 (tmk (hpsT10 N c S s B bb w) 0 133) ([some (.cons .nilslice (.cons (.int .u64 0) (.cons (.int .i64 0) .nil)))])) :=
  Tr.evW (n := ⟨1000000, []⟩) (N := 1) (keep := maskOf [0, 1, 2, 7, 8, 10, 12]) (nm := maskOf []) (vc := true) envHN_ok mix (by kernel_rfl) rfl rfl rfl (rfl)

theorem hps_11 (N : Nat) (c : Nat → Int) (S : Nat) (s : Nat → Int) (B : Nat) (bb : Nat → Int) (w : Nat → Int) (k : Nat) (la nn : Int) (g : Nat → Int) : Tr Try.prog 0 (hpsN 8) (stW 0 0 (tmk (hpsT10 N c S s B bb w) 0 133) (hpsG0 k la nn g)) (.normal) (stW 0 0 (tmk (hpsT11 N c S s B bb w) 0 133) (hpsG0 k la nn g ++ [some (.cons .nilslice (.cons (.int .i64 0) .nil))])) :=
  Tr.evW (n := ⟨1000000, []⟩) (N := 3) (keep := maskOf [0, 1, 2, 7, 8, 10, 12, 13]) (nm := maskOf []) (vc := true) envHN_ok mix (by kernel_rfl) rfl rfl rfl (rfl)

theorem hps_12 (N : Nat) (c : Nat → Int) (S : Nat) (s : Nat → Int) (B : Nat) (bb : Nat → Int) (w : Nat → Int) (k : Nat) (la nn : Int) (g : Nat → Int) (m : Nat) (b : Nat → Int) : Tr Try.prog 0 (cL (hpsN 9)) (stW 0 0 (tmk (hpsT11 N c S s B bb w) 0 133) (hpsG k la nn g m b)) (.normal) (stW 0 0 (tmk (hpsTi N c S s B bb w 0) 0 133) (hpsG k la nn g m b)) :=
  Tr.evW (n := ⟨1000000, []⟩) (N := 4) (keep := maskOf [0, 1, 2, 7, 8, 10, 12, 13, 14]) (nm := maskOf [14]) (vc := true) envHN_ok mix (by kernel_rfl) rfl rfl rfl (hk_c rfl (hk_c rfl (hk_c rfl (hk_r (fun _ => rfl) rfl))))

noncomputable def hps_13V (N : Nat) (c : Nat → Int) (S : Nat) (s : Nat → Int) (B : Nat) (bb : Nat → Int) (w : Nat → Int) (k : Nat) (la nn : Int) (g : Nat → Int) (m : Nat) (b : Nat → Int) (i : Int) : Bool := (decide (i < (↑S : Int)) == true && ((decide (i < 100) == true || false) && true) && true)
theorem hps_13 (N : Nat) (c : Nat → Int) (S : Nat) (s : Nat → Int) (B : Nat) (bb : Nat → Int) (w : Nat → Int) (k : Nat) (la nn : Int) (g : Nat → Int) (m : Nat) (b : Nat → Int) (i : Int) (hv : hps_13V N c S s B bb w k la nn g m b i = true) : Tr Try.prog 0 (cL hpsL1) (stW 0 0 (tmk (hpsTi N c S s B bb w i) 0 133) (hpsG k la nn g m b)) (.normal) (stW 0 0 (tmk (hpsTi N c S s B bb w i) 0 133) (hpsG k la nn g m b)) :=
  Tr.evW (n := ⟨1000000, [(62, true), (65, true)]⟩) (N := 4) (keep := maskOf [0, 1, 2, 7, 8, 10, 12, 13, 14]) (nm := maskOf [14]) (vc := hps_13V N c S s B bb w k la nn g m b i) envHN_ok mix (by kernel_rfl) hv rfl rfl (hk_c rfl (hk_c rfl (hk_c rfl (hk_r (fun _ => rfl) rfl))))

noncomputable def hps_13aV (N : Nat) (c : Nat → Int) (S : Nat) (s : Nat → Int) (B : Nat) (bb : Nat → Int) (w : Nat → Int) (k : Nat) (la nn : Int) (g : Nat → Int) (m : Nat) (b : Nat → Int) (i : Int) : Bool := (decide (i < (↑S : Int)) == false && true && true)
theorem hps_13a (N : Nat) (c : Nat → Int) (S : Nat) (s : Nat → Int) (B : Nat) (bb : Nat → Int) (w : Nat → Int) (k : Nat) (la nn : Int) (g : Nat → Int) (m : Nat) (b : Nat → Int) (i : Int) (hv : hps_13aV N c S s B bb w k la nn g m b i = true) : Tr Try.prog 0 (hpsL1) (stW 0 0 (tmk (hpsTi N c S s B bb w i) 0 133) (hpsG k la nn g m b)) (.exit 0) (stW 0 0 (tmk (hpsT11 N c S s B bb w) 0 133) (hpsG k la nn g m b)) :=
  Tr.evW (n := ⟨1000000, [(62, false)]⟩) (N := 4) (keep := maskOf [0, 1, 2, 7, 8, 10, 12, 13]) (nm := maskOf []) (vc := hps_13aV N c S s B bb w k la nn g m b i) envHN_ok mix (by kernel_rfl) hv rfl rfl (hk_c rfl (hk_c rfl (hk_c rfl (hk_r (fun _ => rfl) rfl))))

noncomputable def hps_13bV (N : Nat) (c : Nat → Int) (S : Nat) (s : Nat → Int) (B : Nat) (bb : Nat → Int) (w : Nat → Int) (k : Nat) (la nn : Int) (g : Nat → Int) (m : Nat) (b : Nat → Int) (i : Int) : Bool := (decide (i < (↑S : Int)) == true && ((decide (i < 100) == false || false) && true) && true)
theorem hps_13b (N : Nat) (c : Nat → Int) (S : Nat) (s : Nat → Int) (B : Nat) (bb : Nat → Int) (w : Nat → Int) (k : Nat) (la nn : Int) (g : Nat → Int) (m : Nat) (b : Nat → Int) (i : Int) (hv : hps_13bV N c S s B bb w k la nn g m b i = true) : Tr Try.prog 0 (hpsL1) (stW 0 0 (tmk (hpsTi N c S s B bb w i) 0 133) (hpsG k la nn g m b)) (.exit 0) (stW 0 0 (tmk (hpsT11 N c S s B bb w) 0 133) (hpsG k la nn g m b)) :=
  Tr.evW (n := ⟨1000000, [(62, true), (65, false)]⟩) (N := 4) (keep := maskOf [0, 1, 2, 7, 8, 10, 12, 13]) (nm := maskOf []) (vc := hps_13bV N c S s B bb w k la nn g m b i) envHN_ok mix (by kernel_rfl) hv rfl rfl (hk_c rfl (hk_c rfl (hk_c rfl (hk_r (fun _ => rfl) rfl))))

noncomputable def hps_15eV (N : Nat) (c : Nat → Int) (S : Nat) (s : Nat → Int) (B : Nat) (bb : Nat → Int) (w : Nat → Int) (k : Nat) (la nn : Int) (g : Nat → Int) (m : Nat) (b : Nat → Int) (i : Int) : Bool := (decide (-9223372036854775808 ≤ i + 1 ∧ i + 1 ≤ 9223372036854775807) && true && (decide (0 ≤ i ∧ i < (S : Int)) && ((holds (N = N ∧ k = k ∧ WrIn k la nn g ∧ ((s i.toNat) < 0 ∨ (s i.toNat) ≥ N ∨ c (s i.toNat).toNat = 0)) && true) && (decide (0 ≤ i ∧ i < (S : Int)) && ((holds (RpIn N c m m (bo b) ∧ ((s i.toNat) < 0 ∨ (s i.toNat) ≥ N ∨ c (s i.toNat).toNat = 0)) && (allN (fun j => idsL [2, 3] (bo b j)) m && true)) && true))) && true))
theorem hps_15e (N : Nat) (c : Nat → Int) (S : Nat) (s : Nat → Int) (B : Nat) (bb : Nat → Int) (w : Nat → Int) (k : Nat) (la nn : Int) (g : Nat → Int) (m : Nat) (b : Nat → Int) (i : Int) (hv : hps_15eV N c S s B bb w k la nn g m b i = true) : Tr Try.prog 0 (cR hpsL1) (stW 0 0 (tmk (hpsTi N c S s B bb w i) 0 133) (hpsG k la nn g m b)) (.normal) (stW 0 0 (tmk (hpsTi N c S s B bb w (i + 1)) 0 133) (hpsG k la nn g m (boOf (bo b)))) :=
  Tr.evW (n := ⟨1000000, []⟩) (N := 4) (keep := maskOf [0, 1, 2, 7, 8, 10, 12, 13, 14]) (nm := maskOf [14]) (vc := hps_15eV N c S s B bb w k la nn g m b i) envPX_ok mix (by kernel_rfl) hv rfl rfl (hk_c rfl (hk_c rfl (hk_c rfl (hk_r (fun _ => rfl) rfl))))

noncomputable def hps_15aV (N : Nat) (c : Nat → Int) (S : Nat) (s : Nat → Int) (B : Nat) (bb : Nat → Int) (w : Nat → Int) (k : Nat) (la nn : Int) (g : Nat → Int) (m : Nat) (b : Nat → Int) (i : Int) : Bool := (decide (-9223372036854775808 ≤ i + 1 ∧ i + 1 ≤ 9223372036854775807) && true && (decide (0 ≤ i ∧ i < (S : Int)) && ((holds (PtOK N N k k c (wordF c N) (s i.toNat) la nn g ∧ (ptM c (s i.toNat) k nn) / 8 = k) && true) && (decide (0 ≤ i ∧ i < (S : Int)) && ((holds (RpIn N c m m (bo b) ∧ (0 ≤ (s i.toNat) ∧ (s i.toNat) < N) ∧ c (s i.toNat).toNat ≠ 0) && (allN (fun j => idsL [2, 3] (bo b j)) m && true)) && true))) && true))
theorem hps_15a (N : Nat) (c : Nat → Int) (S : Nat) (s : Nat → Int) (B : Nat) (bb : Nat → Int) (w : Nat → Int) (k : Nat) (la nn : Int) (g : Nat → Int) (m : Nat) (b : Nat → Int) (i : Int) (hv : hps_15aV N c S s B bb w k la nn g m b i = true) : Tr Try.prog 0 (cR hpsL1) (stW 0 0 (tmk (hpsTi N c S s B bb w i) 0 133) (hpsG k la nn g m b)) (.normal) (stW 0 0 (tmk (hpsTi N c S s B bb w (i + 1)) 0 133) ([some (wS 1 k (pk (ptB c (wordF c N) (s i.toNat) k la nn g) (8 * k) ((ptM c (s i.toNat) k nn) % 8)) ((ptM c (s i.toNat) k nn) % 8 : Nat)), some (.ints .u8 k g), some (xS 4 (m + lenS c (s i.toNat)) 0), none, some (.rows (m + lenS c (s i.toNat)) 1 (bo (apW m (boOf (bo b)) (wordF c N (s i.toNat).toNat) (lenS c (s i.toNat)))))])) :=
  Tr.evW (n := ⟨1000000, []⟩) (N := 5) (keep := maskOf [0, 1, 2, 7, 8, 10, 12, 13, 14]) (nm := maskOf [14]) (vc := hps_15aV N c S s B bb w k la nn g m b i) envP1_ok mix (by kernel_rfl) hv rfl rfl (hk_c rfl (hk_c rfl (hk_c rfl (hk_n (hk_r (fun _ => rfl) rfl)))))

noncomputable def hps_15bV (N : Nat) (c : Nat → Int) (S : Nat) (s : Nat → Int) (B : Nat) (bb : Nat → Int) (w : Nat → Int) (k : Nat) (la nn : Int) (g : Nat → Int) (m : Nat) (b : Nat → Int) (i : Int) : Bool := (decide (-9223372036854775808 ≤ i + 1 ∧ i + 1 ≤ 9223372036854775807) && true && (decide (0 ≤ i ∧ i < (S : Int)) && ((holds (PtOK N N k k c (wordF c N) (s i.toNat) la nn g ∧ (ptM c (s i.toNat) k nn) / 8 ≠ k) && true) && (decide (0 ≤ i ∧ i < (S : Int)) && ((holds (RpIn N c m m (bo b) ∧ (0 ≤ (s i.toNat) ∧ (s i.toNat) < N) ∧ c (s i.toNat).toNat ≠ 0) && (allN (fun j => idsL [2, 3] (bo b j)) m && true)) && true))) && true))
theorem hps_15b (N : Nat) (c : Nat → Int) (S : Nat) (s : Nat → Int) (B : Nat) (bb : Nat → Int) (w : Nat → Int) (k : Nat) (la nn : Int) (g : Nat → Int) (m : Nat) (b : Nat → Int) (i : Int) (hv : hps_15bV N c S s B bb w k la nn g m b i = true) : Tr Try.prog 0 (cR hpsL1) (stW 0 0 (tmk (hpsTi N c S s B bb w i) 0 133) (hpsG k la nn g m b)) (.normal) (stW 0 0 (tmk (hpsTi N c S s B bb w (i + 1)) 0 133) ([some (wS 4 ((ptM c (s i.toNat) k nn) / 8) (pk (ptB c (wordF c N) (s i.toNat) k la nn g) (8 * ((ptM c (s i.toNat) k nn) / 8)) ((ptM c (s i.toNat) k nn) % 8)) ((ptM c (s i.toNat) k nn) % 8 : Nat)), none, some (xS 5 (m + lenS c (s i.toNat)) 0), none, some (.ints .u8 ((ptM c (s i.toNat) k nn) / 8) (byB (ptB c (wordF c N) (s i.toNat) k la nn g))), some (.rows (m + lenS c (s i.toNat)) 1 (bo (apW m (boOf (bo b)) (wordF c N (s i.toNat).toNat) (lenS c (s i.toNat)))))])) :=
  Tr.evW (n := ⟨1000000, []⟩) (N := 6) (keep := maskOf [0, 1, 2, 7, 8, 10, 12, 13, 14]) (nm := maskOf [14]) (vc := hps_15bV N c S s B bb w k la nn g m b i) envP2_ok mix (by kernel_rfl) hv rfl rfl (hk_c rfl (hk_n (hk_c rfl (hk_n (hk_c rfl (hk_r (fun _ => rfl) rfl))))))

theorem hps_19 (N : Nat) (c : Nat → Int) (S : Nat) (s : Nat → Int) (B : Nat) (bb : Nat → Int) (w : Nat → Int) : Tr Try.prog 0 (hpsN 11) (stW 0 0 (tmk (hpsT8 N c S s B bb w) 0 133) ([])) (.normal) (stW 0 0 (tmk (hpsT19 N c S s B bb w) 0 133) ([some (rdT B bb none 0)])) :=
  Tr.evW (n := ⟨1000000, []⟩) (N := 1) (keep := maskOf [0, 1, 2, 7, 8, 10, 15]) (nm := maskOf []) (vc := true) envHN_ok mix (by kernel_rfl) rfl rfl rfl (rfl)

noncomputable def hps_20V (N : Nat) (c : Nat → Int) (S : Nat) (s : Nat → Int) (B : Nat) (bb : Nat → Int) (w : Nat → Int) (a : Int) : Bool := (holds (B ≤ 1000000 ∧ ∀ (i : Nat), i < B → 0 ≤ bb i ∧ bb i < 256) && true && true && true)
theorem hps_20 (N : Nat) (c : Nat → Int) (S : Nat) (s : Nat → Int) (B : Nat) (bb : Nat → Int) (w : Nat → Int) (a : Int) (hv : hps_20V N c S s B bb w a = true) : Tr Try.prog 0 (hpsN 12) (stW 0 0 (tmk (hpsT19 N c S s B bb w) 0 133) ([some (rdT B bb none a)])) (.normal) (stW 0 0 (tmk (hpsT20 N c S s B bb w) 0 133) (hpsR B bb a (8 * B) 0 (bitF bb))) :=
  Tr.evW (n := ⟨1000000, []⟩) (N := 3) (keep := maskOf [0, 1, 2, 7, 8, 10, 15, 16]) (nm := maskOf []) (vc := hps_20V N c S s B bb w a) envHN_ok mix (by kernel_rfl) hv rfl rfl (hk_c rfl (hk_c rfl (hk_r (fun _ => rfl) rfl)))

theorem hps_21 (N : Nat) (c : Nat → Int) (S : Nat) (s : Nat → Int) (B : Nat) (bb : Nat → Int) (w : Nat → Int) (a : Int) (m : Nat) (y : Int) (b : Nat → Int) : Tr Try.prog 0 (cL (hpsN 13)) (stW 0 0 (tmk (hpsT20 N c S s B bb w) 0 133) (hpsR B bb a m y b)) (.normal) (stW 0 0 (tmk (hpsTj N c S s B bb w 0) 0 133) (hpsR B bb a m y b)) :=
  Tr.evW (n := ⟨1000000, []⟩) (N := 3) (keep := maskOf [0, 1, 2, 7, 8, 10, 15, 16, 17]) (nm := maskOf [17]) (vc := true) envHN_ok mix (by kernel_rfl) rfl rfl rfl (hk_c rfl (hk_c rfl (hk_r (fun _ => rfl) rfl)))

noncomputable def hps_22xV (N : Nat) (c : Nat → Int) (S : Nat) (s : Nat → Int) (B : Nat) (bb : Nat → Int) (w : Nat → Int) (a : Int) (m : Nat) (y : Int) (b : Nat → Int) (i : Int) : Bool := (decide (i < 100) == false && true && true)
theorem hps_22x (N : Nat) (c : Nat → Int) (S : Nat) (s : Nat → Int) (B : Nat) (bb : Nat → Int) (w : Nat → Int) (a : Int) (m : Nat) (y : Int) (b : Nat → Int) (i : Int) (hv : hps_22xV N c S s B bb w a m y b i = true) : Tr Try.prog 0 (hpsL2) (stW 0 0 (tmk (hpsTj N c S s B bb w i) 0 133) (hpsR B bb a m y b)) (.exit 2) (stW 0 0 (tmk ([(7, .bool true)]) 0 133) (hpsR B bb a m y b)) :=
  Tr.evW (n := ⟨1000000, [(106, false)]⟩) (N := 3) (keep := maskOf [7]) (nm := maskOf []) (vc := hps_22xV N c S s B bb w a m y b i) envHN_ok mix (by kernel_rfl) hv rfl rfl (hk_c rfl (hk_c rfl (hk_r (fun _ => rfl) rfl)))

noncomputable def hps_22V (N : Nat) (c : Nat → Int) (S : Nat) (s : Nat → Int) (B : Nat) (bb : Nat → Int) (w : Nat → Int) (a : Int) (m : Nat) (y : Int) (b : Nat → Int) (i : Int) : Bool := (decide (i < 100) == true && true && true)
theorem hps_22 (N : Nat) (c : Nat → Int) (S : Nat) (s : Nat → Int) (B : Nat) (bb : Nat → Int) (w : Nat → Int) (a : Int) (m : Nat) (y : Int) (b : Nat → Int) (i : Int) (hv : hps_22V N c S s B bb w a m y b i = true) : Tr Try.prog 0 (cL hpsL2) (stW 0 0 (tmk (hpsTj N c S s B bb w i) 0 133) (hpsR B bb a m y b)) (.normal) (stW 0 0 (tmk (hpsTj N c S s B bb w i) 0 133) (hpsR B bb a m y b)) :=
  Tr.evW (n := ⟨1000000, [(106, true)]⟩) (N := 3) (keep := maskOf [0, 1, 2, 7, 8, 10, 15, 16, 17]) (nm := maskOf [17]) (vc := hps_22V N c S s B bb w a m y b i) envHN_ok mix (by kernel_rfl) hv rfl rfl (hk_c rfl (hk_c rfl (hk_r (fun _ => rfl) rfl)))

noncomputable def hps_23V (N : Nat) (c : Nat → Int) (S : Nat) (s : Nat → Int) (B : Nat) (bb : Nat → Int) (w : Nat → Int) (a : Int) (m : Nat) (y : Int) (b : Nat → Int) (i : Int) : Bool := (decide (-9223372036854775808 ≤ i + 1 ∧ i + 1 ≤ 9223372036854775807) && true && true)
theorem hps_23 (N : Nat) (c : Nat → Int) (S : Nat) (s : Nat → Int) (B : Nat) (bb : Nat → Int) (w : Nat → Int) (a : Int) (m : Nat) (y : Int) (b : Nat → Int) (i : Int) (hv : hps_23V N c S s B bb w a m y b i = true) : Tr Try.prog 0 (cR (cR hpsL2)) (stW 0 0 (tmk (hpsTj N c S s B bb w i) 0 133) (hpsR B bb a m y b)) (.normal) (stW 0 0 (tmk (hpsTj N c S s B bb w (i + 1)) 0 133) (hpsR B bb a m y b)) :=
  Tr.evW (n := ⟨1000000, []⟩) (N := 3) (keep := maskOf [0, 1, 2, 7, 8, 10, 15, 16, 17]) (nm := maskOf [17]) (vc := hps_23V N c S s B bb w a m y b i) envHN_ok mix (by kernel_rfl) hv rfl rfl (hk_c rfl (hk_c rfl (hk_r (fun _ => rfl) rfl)))

noncomputable def hps_17V (N : Nat) (c : Nat → Int) (S : Nat) (s : Nat → Int) (B : Nat) (bb : Nat → Int) (w : Nat → Int) (k : Nat) (la nn : Int) (g : Nat → Int) (m : Nat) (b : Nat → Int) : Bool := (holds (k = k ∧ WrIn k la nn g) && true && (decide (0 + byN k nn ≤ byN k nn) && ((holds (BtIn m m (bo b) 0) && (allN (fun j => idsL [2, 3] (bo b j)) m && true)) && (decide (0 + (m + 7) / 8 ≤ (m + 7) / 8) && ((!((bstr (byN k nn) fun j => byF k la g (0 + j)).toList == (bstr ((m + 7) / 8) fun j => byX m (boOf (bo b)) (0 + j)).toList)) == false && (((!(IntKind.i64.wrap (IntKind.i64.wrap (8 * (k : Int)) + nn) == (m : Int))) == false || false) && true))))) && true)
theorem hps_17 (N : Nat) (c : Nat → Int) (S : Nat) (s : Nat → Int) (B : Nat) (bb : Nat → Int) (w : Nat → Int) (k : Nat) (la nn : Int) (g : Nat → Int) (m : Nat) (b : Nat → Int) (hv : hps_17V N c S s B bb w k la nn g m b = true) : Tr Try.prog 0 (hpsN 10) (stW 0 0 (tmk (hpsT11 N c S s B bb w) 0 133) (hpsG k la nn g m b)) (.normal) (stW 0 0 (tmk (hpsT8 N c S s B bb w) 0 133) (hpsG k la nn g m (boOf (bo b)))) :=
  Tr.evW (n := ⟨1000000, [(90, false), (99, false)]⟩) (N := 4) (keep := maskOf [0, 1, 2, 7, 8, 10]) (nm := maskOf []) (vc := hps_17V N c S s B bb w k la nn g m b) envHN_ok mix (by kernel_rfl) hv rfl rfl (hk_c rfl (hk_c rfl (hk_c rfl (hk_r (fun _ => rfl) rfl))))

noncomputable def hps_24V (N : Nat) (c : Nat → Int) (S : Nat) (s : Nat → Int) (B : Nat) (bb : Nat → Int) (w : Nat → Int) (a : Int) (m : Nat) (y : Int) (b : Nat → Int) (i : Int) : Bool := ((!((tkB (foCd N c) m (boOf (bo b)) 15 0 0 y.toNat).snd.fst == 0)) == false && true && ((!((tkF (foCd N c) B bb 15 0 0 a.toNat).fst == (tkB (foCd N c) m (boOf (bo b)) 15 0 0 y.toNat).fst)) == false && (((!((tkF (foCd N c) B bb 15 0 0 a.toNat).snd.fst == (tkB (foCd N c) m (boOf (bo b)) 15 0 0 y.toNat).snd.fst)) == false || false) && true) && ((holds (RtIn N N c w m m (bo b) y) && (allN (fun j => idsL [1, 2] (bo b j)) m && true)) && true && (holds (N = N ∧ N = N ∧ (∀ (l : Nat), (fun l => T.fsi IntKind.i64 (cntS c N l) (symF c N l) none) l = T.fsi IntKind.i64 (kOf (fun l => T.fsi IntKind.i64 (cntS c N l) (symF c N l) none) l) (gOf (fun l => T.fsi IntKind.i64 (cntS c N l) (symF c N l) none) l) none) ∧ CdIn (foCd N c) ∧ RdIn B bb a) && true && true && true))))
theorem hps_24 (N : Nat) (c : Nat → Int) (S : Nat) (s : Nat → Int) (B : Nat) (bb : Nat → Int) (w : Nat → Int) (a : Int) (m : Nat) (y : Int) (b : Nat → Int) (i : Int) (hv : hps_24V N c S s B bb w a m y b i = true) : Tr Try.prog 0 (cL (cR hpsL2)) (stW 0 0 (tmk (hpsTj N c S s B bb w i) 0 133) (hpsR B bb a m y b)) (.normal) (stW 0 0 (tmk (hpsTj N c S s B bb w i) 0 133) ([some (rdT B bb none (tkF (foCd N c) B bb 15 0 0 a.toNat).2.2), some (xS 2 m (tkB (foCd N c) m (boOf (bo b)) 15 0 0 y.toNat).2.2), some (.rows m 1 (bo (boOf (bo b))))])) :=
  Tr.evW (n := ⟨1000000, [(124, false), (128, false), (131, false)]⟩) (N := 3) (keep := maskOf [0, 1, 2, 7, 8, 10, 15, 16, 17]) (nm := maskOf [17]) (vc := hps_24V N c S s B bb w a m y b i) envHN_ok mix (by kernel_rfl) hv rfl rfl (hk_c rfl (hk_c rfl (hk_r (fun _ => rfl) rfl)))

noncomputable def hps_24xV (N : Nat) (c : Nat → Int) (S : Nat) (s : Nat → Int) (B : Nat) (bb : Nat → Int) (w : Nat → Int) (a : Int) (m : Nat) (y : Int) (b : Nat → Int) (i : Int) : Bool := ((!((tkB (foCd N c) m (boOf (bo b)) 15 0 0 y.toNat).snd.fst == 0)) == true && true && ((!((tkF (foCd N c) B bb 15 0 0 a.toNat).fst == (tkB (foCd N c) m (boOf (bo b)) 15 0 0 y.toNat).fst)) == false && (((!((tkF (foCd N c) B bb 15 0 0 a.toNat).snd.fst == (tkB (foCd N c) m (boOf (bo b)) 15 0 0 y.toNat).snd.fst)) == false || false) && true) && ((holds (RtIn N N c w m m (bo b) y) && (allN (fun j => idsL [1, 2] (bo b j)) m && true)) && true && (holds (N = N ∧ N = N ∧ (∀ (l : Nat), (fun l => T.fsi IntKind.i64 (cntS c N l) (symF c N l) none) l = T.fsi IntKind.i64 (kOf (fun l => T.fsi IntKind.i64 (cntS c N l) (symF c N l) none) l) (gOf (fun l => T.fsi IntKind.i64 (cntS c N l) (symF c N l) none) l) none) ∧ CdIn (foCd N c) ∧ RdIn B bb a) && true && true && true))))
theorem hps_24x (N : Nat) (c : Nat → Int) (S : Nat) (s : Nat → Int) (B : Nat) (bb : Nat → Int) (w : Nat → Int) (a : Int) (m : Nat) (y : Int) (b : Nat → Int) (i : Int) (hv : hps_24xV N c S s B bb w a m y b i = true) : Tr Try.prog 0 (cL (cR hpsL2)) (stW 0 0 (tmk (hpsTj N c S s B bb w i) 0 133) (hpsR B bb a m y b)) (.exit 2) (stW 0 0 (tmk ([(7, .bool true)]) 0 133) ([some (rdT B bb none (tkF (foCd N c) B bb 15 0 0 a.toNat).2.2), some (xS 2 m (tkB (foCd N c) m (boOf (bo b)) 15 0 0 y.toNat).2.2), some (.rows m 1 (bo (boOf (bo b))))])) :=
  Tr.evW (n := ⟨1000000, [(124, false), (128, false), (131, true)]⟩) (N := 3) (keep := maskOf [7]) (nm := maskOf []) (vc := hps_24xV N c S s B bb w a m y b i) envHN_ok mix (by kernel_rfl) hv rfl rfl (hk_c rfl (hk_c rfl (hk_r (fun _ => rfl) rfl)))

theorem hps_29 (a : Int) (m : Nat) (y : Int) (b : Nat → Int) (B : Nat) (bb : Nat → Int) : Tr Try.prog 0 (postC 14 hpsC) (stW 0 0 (tmk ([(7, .bool true)]) 0 133) (hpsR B bb a m y b)) (.ret) (stW 0 0 (tmk ([(6, .bool true)]) 0 133) (hpsR B bb a m y b)) :=
  Tr.evW (n := ⟨1000000, []⟩) (N := 3) (keep := maskOf [6]) (nm := maskOf []) (vc := true) envHN_ok mix (by kernel_rfl) rfl rfl rfl (hk_c rfl (hk_c rfl (hk_r (fun _ => rfl) rfl)))

theorem hpsC_eq : postC 2 hpsC = .seq (hpsN 2) (postC 3 hpsC) := by kernel_rfl
theorem hpsC3_eq : postC 3 hpsC = .seq (hpsN 3) (.seq (hpsN 4) (.seq (hpsN 5) (.seq (hpsN 6) (.seq (hpsN 7) (.seq (hpsN 8) (.seq (hpsN 9) (.seq (hpsN 10) (.seq (hpsN 11) (.seq (hpsN 12) (.seq (hpsN 13) (postC 14 hpsC))))))))))) := by kernel_rfl
theorem hpsN9_eq : hpsN 9 = .seq (cL (hpsN 9)) (.block 0 (.loop hpsL1)) := by kernel_rfl
theorem hpsN13_eq : hpsN 13 = .seq (cL (hpsN 13)) (.block 2 (.loop hpsL2)) := by kernel_rfl
theorem hpsL1_eq : hpsL1 = .seq (cL hpsL1) (cR hpsL1) := by kernel_rfl
theorem hpsL2_eq : hpsL2 = .seq (cL hpsL2) (.seq (cL (cR hpsL2)) (cR (cR hpsL2))) := by kernel_rfl
end Go.Proofs.Ytjianphppcappaa

/-! HuffPuts. No condition. -/
namespace Go.Proofs.Ytjianphppcappaa
open Go.AE
set_option maxRecDepth 100000
theorem bstr_congr {n : Nat} {f g : Nat → Int} (h : ∀ j, j < n → f j = g j) : bstr n f = bstr n g := by
  unfold bstr
  rw [List.map_congr_left fun j hj => h j (List.mem_range.1 hj)]
/-- Lengths, and symbols that are ones. -/
def lX (N : Nat) (c : Nat → Int) (j : Nat) : Int := if j < N then c j else 0
def syP (N : Nat) (s : Nat → Int) (i : Nat) : Nat := if 0 ≤ s i ∧ s i < N then (s i).toNat else N
def hpsS (b : Nat → Int) (m : Nat) : Heap := hpsG (m / 8) (pk b (8 * (m / 8)) (m % 8)) (m % 8 : Nat) (byB b) m b
section
variable {N : Nat} {c : Nat → Int} {S : Nat} {s : Nat → Int} {B : Nat} {bb : Nat → Int}
theorem hps_one {b : Nat → Int} {m i L : Nat} (hW : WoIn N c) (hB : Bits b) (hm : m ≤ 100000) (hi : i < S) (hS : S ≤ 9223372036854775807) (h100 : i < 100) (hs : 0 ≤ s i ∧ s i < N) (hL : c (s i).toNat = L) (hL1 : 1 ≤ L) (hx : ∀ t, t < L → b (m + t) = wordF c N (s i).toNat / 2 ^ (L - 1 - t) % 2) :
    Tr Try.prog 0 (cR hpsL1) (stW 0 0 (tmk (hpsTi N c S s B bb (wordF c N) i) 0 133) (hpsS b m)) .normal (stW 0 0 (tmk (hpsTi N c S s B bb (wordF c N) ((i : Int) + 1)) 0 133) (hpsS b (m + L))) := by
  have hok := hW.ok (s i).toNat (by omega)
  have hwd := word_bnd hW (i := (s i).toNat) (by omega)
  have eS : lenS c (s i) = L := by unfold lenS; rw [hL, Int.toNat_natCast]
  have eM : ptM c (s i) (m / 8) (m % 8 : Nat) = m + L := by unfold ptM; rw [eS, Int.toNat_natCast]; omega
  have eb : boOf (bo b) = b := boOf_bo hB
  have hP : PtOK N N (m / 8) (m / 8) c (wordF c N) (s i) (pk b (8 * (m / 8)) (m % 8)) (m % 8 : Nat) (byB b) := ⟨⟨rfl, rfl⟩, ⟨hs, hwd⟩, by omega, pk_wr hB (by omega)⟩
  have hpB : ∀ p, p < m + L → ptB c (wordF c N) (s i) (m / 8) (pk b (8 * (m / 8)) (m % 8)) (m % 8 : Nat) (byB b) p = b p := fun p hp => by
    unfold ptB
    rw [eS, Int.toNat_natCast]
    exact bW_eq hB hx hp
  have hR : RpIn N c m m (bo b) ∧ (0 ≤ s i ∧ s i < N) ∧ c (s i).toNat ≠ 0 := ⟨⟨rfl, by omega, fun j => ⟨_, rfl⟩, hW⟩, hs, by omega⟩
  have hA : ∀ j, j < m + L → bo (apW m b (wordF c N (s i).toNat) L) j = bo b j := fun j hj => by
    unfold bo apW
    by_cases h : j < m
    · rw [if_pos h]
    · rw [if_neg h, ← hx (j - m) (by omega), show m + (j - m) = j by omega]
  have d1 : decide (-9223372036854775808 ≤ (i : Int) + 1 ∧ (i : Int) + 1 ≤ 9223372036854775807) = true := decide_eq_true (by omega)
  have d2 : decide (0 ≤ (i : Int) ∧ (i : Int) < (S : Int)) = true := decide_eq_true (by omega)
  by_cases hk : (m + L) / 8 = m / 8
  · have h := hps_15a N c S s B bb (wordF c N) (m / 8) (pk b (8 * (m / 8)) (m % 8)) (m % 8 : Nat) (byB b) m b i (by
      unfold hps_15aV
      rw [Int.toNat_natCast, d1, d2, holds_of hR, holds_of (show PtOK N N (m / 8) (m / 8) c (wordF c N) (s i) (pk b (8 * (m / 8)) (m % 8)) (m % 8 : Nat) (byB b) ∧ ptM c (s i) (m / 8) (m % 8 : Nat) / 8 = m / 8 from ⟨hP, by rw [eM]; exact hk⟩), allN_all (f := fun j => idsL [2, 3] (bo b j)) (fun _ => rfl)]; rfl)
    rw [Int.toNat_natCast, eM, eS, eb, pk_congr (b' := b) _ fun p _ hp => hpB p (by omega)] at h
    have h1 := h.weak (s2 := stW 0 0 (tmk (hpsTi N c S s B bb (wordF c N) ((i : Int) + 1)) 0 133) [some (wS 1 (m / 8) (pk b (8 * (m / 8)) ((m + L) % 8)) ((m + L) % 8 : Nat)), some (.ints .u8 (m / 8) (byB b)), some (xS 4 (m + L) 0), none, some (.rows (m + L) 1 (bo b))]) (St.leL (LeL.refl _) ⟨⟨rfl, fun _ _ h => h⟩, ⟨rfl, fun _ _ h => h⟩, ⟨rfl, fun _ _ h => h⟩, rows_le (m := 1) hA, trivial⟩ fun _ h => absurd h (Nat.not_lt_zero _))
    have h2 := Tr.pick [0, 1, 2, 4] (maskOf [0, 1, 2, 7, 8, 10, 12, 13, 14]) h1 (tm' := tmk (hpsTi N c S s B bb (wordF c N) ((i : Int) + 1)) 0 133) (G' := hpsG (m / 8) (pk b (8 * (m / 8)) ((m + L) % 8)) ((m + L) % 8 : Nat) (byB b) (m + L) b) (by kernel_rfl) (by kernel_rfl) (by kernel_rfl) trivial (by kernel_rfl) (pk_s rfl rfl rfl (pk_s rfl rfl rfl (pk_s rfl rfl rfl (pk_s rfl (il_r (m := 1) fun _ => rfl) rfl rfl))))
    unfold hpsS at h2 ⊢
    rw [hk]
    exact h2
  · have h := hps_15b N c S s B bb (wordF c N) (m / 8) (pk b (8 * (m / 8)) (m % 8)) (m % 8 : Nat) (byB b) m b i (by
      unfold hps_15bV
      rw [Int.toNat_natCast, d1, d2, holds_of hR, holds_of (show PtOK N N (m / 8) (m / 8) c (wordF c N) (s i) (pk b (8 * (m / 8)) (m % 8)) (m % 8 : Nat) (byB b) ∧ ptM c (s i) (m / 8) (m % 8 : Nat) / 8 ≠ m / 8 from ⟨hP, by rw [eM]; exact hk⟩), allN_all (f := fun j => idsL [2, 3] (bo b j)) (fun _ => rfl)]; rfl)
    rw [Int.toNat_natCast, eM, eS, eb, pk_congr (b' := b) _ fun p _ hp => hpB p (by omega)] at h
    have h1 := h.weak (s2 := stW 0 0 (tmk (hpsTi N c S s B bb (wordF c N) ((i : Int) + 1)) 0 133) [some (wS 4 ((m + L) / 8) (pk b (8 * ((m + L) / 8)) ((m + L) % 8)) ((m + L) % 8 : Nat)), none, some (xS 5 (m + L) 0), none, some (.ints .u8 ((m + L) / 8) (byB b)), some (.rows (m + L) 1 (bo b))]) (St.leL (LeL.refl _) ⟨⟨rfl, fun _ _ h => h⟩, ⟨rfl, fun _ _ h => h⟩, ints_le (fun j hj => pk_congr _ fun p _ hp => hpB p (by omega)), rows_le (m := 1) hA, trivial⟩ fun _ h => absurd h (Nat.not_lt_zero _))
    exact Tr.pick [0, 4, 2, 5] (maskOf [0, 1, 2, 7, 8, 10, 12, 13, 14]) h1 (tm' := tmk (hpsTi N c S s B bb (wordF c N) ((i : Int) + 1)) 0 133) (G' := hpsS b (m + L)) (by kernel_rfl) (by kernel_rfl) (by kernel_rfl) trivial (by kernel_rfl) (pk_s rfl rfl rfl (pk_s rfl rfl rfl (pk_s rfl rfl rfl (pk_s rfl (il_r (m := 1) fun _ => rfl) rfl rfl))))
theorem hps_err {b : Nat → Int} {m i : Nat} (hW : WoIn N c) (hB : Bits b) (hm : m ≤ 100000) (hi : i < S) (hS : S ≤ 9223372036854775807) (h100 : i < 100) (hs : s i < 0 ∨ s i ≥ N ∨ c (s i).toNat = 0) :
    Tr Try.prog 0 (cR hpsL1) (stW 0 0 (tmk (hpsTi N c S s B bb (wordF c N) i) 0 133) (hpsS b m)) .normal (stW 0 0 (tmk (hpsTi N c S s B bb (wordF c N) ((i : Int) + 1)) 0 133) (hpsS b (m + (0 : Int).toNat))) := by
  have eb : boOf (bo b) = b := boOf_bo hB
  have h := hps_15e N c S s B bb (wordF c N) (m / 8) (pk b (8 * (m / 8)) (m % 8)) (m % 8 : Nat) (byB b) m b i (by
    unfold hps_15eV
    rw [Int.toNat_natCast, holds_of (show N = N ∧ m / 8 = m / 8 ∧ WrIn (m / 8) (pk b (8 * (m / 8)) (m % 8)) (m % 8 : Nat) (byB b) ∧ (s i < 0 ∨ s i ≥ N ∨ c (s i).toNat = 0) from ⟨rfl, rfl, pk_wr hB (by omega), hs⟩), holds_of (show RpIn N c m m (bo b) ∧ (s i < 0 ∨ s i ≥ N ∨ c (s i).toNat = 0) from ⟨⟨rfl, by omega, fun j => ⟨_, rfl⟩, hW⟩, hs⟩), allN_all (f := fun j => idsL [2, 3] (bo b j)) (fun _ => rfl),
      decide_eq_true (show -9223372036854775808 ≤ (i : Int) + 1 ∧ (i : Int) + 1 ≤ 9223372036854775807 by omega), decide_eq_true (show 0 ≤ (i : Int) ∧ (i : Int) < (S : Int) by omega)]; rfl)
  rw [eb] at h
  exact h
theorem hps_put {n i : Nat} (hW : WoIn N c) (hn : n ≤ 100) (hnS : n ≤ S) (hS : S ≤ 9223372036854775807) (hi : i < n) :
    Tr Try.prog 0 hpsL1 (stW 0 0 (tmk (hpsTi N c S s B bb (wordF c N) (i : Nat)) 0 133) (hpsS (bitsF (lX N c) (wordF c N) (syP N s) n) (offF (lX N c) (syP N s) i))) .normal
      (stW 0 0 (tmk (hpsTi N c S s B bb (wordF c N) ((i + 1 : Nat) : Int)) 0 133) (hpsS (bitsF (lX N c) (wordF c N) (syP N s) n) (offF (lX N c) (syP N s) (i + 1)))) := by
  have hN := hW.n
  have hB : Bits (bitsF (lX N c) (wordF c N) (syP N s) n) := bitsF_bits _ _ _ _
  have hl : ∀ j, 0 ≤ lX N c j ∧ lX N c j ≤ 15 := fun j => by
    unfold lX
    split
    · exact hW.ok j (by assumption)
    · omega
  have hoff := off_bnd (l := lX N c) (s := syP N s) n fun i _ => hl _
  have hmo := off_mono (lX N c) (syP N s) (show i ≤ n by omega)
  have hat : ∀ t, t < (lX N c (syP N s i)).toNat → bitsF (lX N c) (wordF c N) (syP N s) n (offF (lX N c) (syP N s) i + t) = wordF c N (syP N s i) / 2 ^ ((lX N c (syP N s i)).toNat - 1 - t) % 2 := fun t ht => bitsF_at ht n hi
  have e3 : offF (lX N c) (syP N s) (i + 1) = offF (lX N c) (syP N s) i + (lX N c (syP N s i)).toNat := rfl
  rw [e3]
  generalize offF (lX N c) (syP N s) i = m at *
  generalize bitsF (lX N c) (wordF c N) (syP N s) n = b at *
  rw [hpsL1_eq]
  refine Tr.seq (hps_13 N c S s B bb (wordF c N) _ _ _ _ m b i (by unfold hps_13V; rw [decide_eq_true (show (i : Int) < (S : Int) by omega), decide_eq_true (show (i : Int) < 100 by omega)]; rfl)) ?_
  by_cases hs : 0 ≤ s i ∧ s i < N
  · have eP : syP N s i = (s i).toNat := if_pos hs
    have eX : lX N c (s i).toNat = c (s i).toNat := if_pos (by omega)
    have hok := hW.ok (s i).toNat (by omega)
    rw [eP, eX] at hat ⊢
    by_cases h0 : c (s i).toNat = 0
    · rw [h0]
      exact hps_err hW hB (by omega) (by omega) hS (by omega) (.inr (.inr h0))
    · obtain ⟨L, hL⟩ := Int.eq_ofNat_of_zero_le hok.1
      rw [hL, Int.toNat_natCast] at hat ⊢
      exact hps_one hW hB (by omega) (by omega) hS (by omega) hs hL (by omega) hat
  · have eP : syP N s i = N := if_neg hs
    have eX : lX N c N = 0 := if_neg (Nat.lt_irrefl N)
    rw [eP, eX]
    exact hps_err hW hB (by omega) (by omega) hS (by omega) (by omega)
end
end Go.Proofs.Ytjianphppcappaa

/-! HuffPuts: as a whole. No condition. -/
namespace Go.Proofs.Ytjianphppcappaa
open Go.AE
set_option maxRecDepth 100000
theorem tkF_place {C : Cd} {n : Nat} {f : Nat → Int} : ∀ d j x a, a ≤ 8 * n → (tkF C n f d j x a).2.2 ≤ 8 * n
  | 0, _, _, _, h => h
  | d + 1, j, x, a, h => by
    rw [tkF]
    split
    · exact h
    · split
      · dsimp only; omega
      · split
        · dsimp only; omega
        · exact tkF_place d _ _ _ (by omega)
theorem byX_eq {m : Nat} {b : Nat → Int} {j : Nat} (hj : j < (m + 7) / 8) : byF (m / 8) (pk b (8 * (m / 8)) (m % 8)) (byB b) j = byX m b j := by
  unfold byF byX byB
  by_cases h : j < m / 8
  · rw [if_pos h, show min 8 (m - 8 * j) = 8 by omega]
  · rw [if_neg h, show j = m / 8 by omega, show min 8 (m - 8 * (m / 8)) = m % 8 by omega]
theorem wf_u8' {x : Int} (h : (Lit.int .u8 x).wf = true) : 0 ≤ x ∧ x < 256 := by
  simp [Lit.wf, IntKind.min, IntKind.max, IntKind.signed, IntKind.bits] at h
  omega
section
variable {N : Nat} {c : Nat → Int} {S : Nat} {s : Nat → Int} {B : Nat} {bb : Nat → Int}
theorem hps_take (hW : WoIn N c) (hB : B ≤ 300) (hbb : ∀ i, i < B → 0 ≤ bb i ∧ bb i < 256) : ∀ (k i a : Nat), i + k = 100 → a ≤ 8 * B →
    ∃ n a', TrN Try.prog 0 hpsL2 n (stW 0 0 (tmk (hpsTj N c S s B bb (wordF c N) (i : Nat)) 0 133) (hpsR B bb a (8 * B) a (bitF bb))) (.exit 2) (stW 0 0 (tmk [(7, .bool true)] 0 133) (hpsR B bb a' (8 * B) a' (bitF bb)))
  | 0, i, a, hi, ha => ⟨1, a, TrN.done (n := 0) (hps_22x N c S s B bb (wordF c N) a (8 * B) a (bitF bb) i (by unfold hps_22xV; rw [decide_eq_false (show ¬ (i : Int) < 100 by omega)]; rfl)) (by intro h; cases h)⟩
  | k + 1, i, a, hi, ha => by
    have hbit : Bits (bitF bb) := fun j => by have := bit01 bb j; omega
    have eb : boOf (bo (bitF bb)) = bitF bb := boOf_bo hbit
    have h22 := hps_22 N c S s B bb (wordF c N) a (8 * B) a (bitF bb) i (by unfold hps_22V; rw [decide_eq_true (show (i : Int) < 100 by omega)]; rfl)
    have ht : tkB (foCd N c) (8 * B) (bitF bb) 15 0 0 a = tkF (foCd N c) B bb 15 0 0 a := tkB_eq _ _ _ _ _ _ _
    have hp := tkF_place (C := foCd N c) (n := B) (f := bb) 15 0 0 a ha
    have hH : ∀ x : Bool, ((tkF (foCd N c) B bb 15 0 0 a).2.1 == 0) = !x → ((!((tkF (foCd N c) B bb 15 0 0 a).snd.fst == 0)) == x && true && ((!((tkF (foCd N c) B bb 15 0 0 a).fst == (tkF (foCd N c) B bb 15 0 0 a).fst)) == false && (((!((tkF (foCd N c) B bb 15 0 0 a).snd.fst == (tkF (foCd N c) B bb 15 0 0 a).snd.fst)) == false || false) && true) && ((holds (RtIn N N c (wordF c N) (8 * B) (8 * B) (bo (bitF bb)) a) && (allN (fun j => idsL [1, 2] (bo (bitF bb) j)) (8 * B) && true)) && true && (holds (N = N ∧ N = N ∧ (∀ (l : Nat), (fun l => T.fsi IntKind.i64 (cntS c N l) (symF c N l) none) l = T.fsi IntKind.i64 (kOf (fun l => T.fsi IntKind.i64 (cntS c N l) (symF c N l) none) l) (gOf (fun l => T.fsi IntKind.i64 (cntS c N l) (symF c N l) none) l) none) ∧ CdIn (foCd N c) ∧ RdIn B bb a) && true && true && true)))) = true := fun x hx => by
      rw [hx, beq_self_eq_true, beq_self_eq_true, holds_of (show RtIn N N c (wordF c N) (8 * B) (8 * B) (bo (bitF bb)) a from ⟨⟨rfl, rfl⟩, by omega, by omega, fun j => ⟨_, rfl⟩, hW, rfl⟩), allN_all (f := fun j => idsL [1, 2] (bo (bitF bb) j)) (fun _ => rfl),
        holds_of (show N = N ∧ N = N ∧ _ from ⟨rfl, rfl, fun _ => rfl, cd_in hW, (⟨by omega, hbb, by omega⟩ : RdIn B bb a)⟩)]
      cases x <;> rfl
    by_cases he : (tkF (foCd N c) B bb 15 0 0 a).2.1 = 0
    · have h24 := hps_24 N c S s B bb (wordF c N) a (8 * B) a (bitF bb) i (by
        unfold hps_24V
        rw [Int.toNat_natCast, eb, ht]
        exact hH false (by rw [he]; rfl))
      rw [Int.toNat_natCast, eb, ht] at h24
      have h23 := hps_23 N c S s B bb (wordF c N) (tkF (foCd N c) B bb 15 0 0 a).2.2 (8 * B) (tkF (foCd N c) B bb 15 0 0 a).2.2 (bitF bb) i (by unfold hps_23V; rw [decide_eq_true (show -9223372036854775808 ≤ (i : Int) + 1 ∧ (i : Int) + 1 ≤ 9223372036854775807 by omega)]; rfl)
      obtain ⟨n, a', hn⟩ := hps_take hW hB hbb k (i + 1) _ (by omega) hp
      refine ⟨n + 1, a', TrN.next ?_ hn⟩
      rw [hpsL2_eq]
      exact Tr.seq h22 (Tr.seq h24 h23)
    · have h24 := hps_24x N c S s B bb (wordF c N) a (8 * B) a (bitF bb) i (by
        unfold hps_24xV
        rw [Int.toNat_natCast, eb, ht]
        exact hH true (by rw [beq_eq_false_iff_ne.2 he]; rfl))
      rw [Int.toNat_natCast, eb, ht] at h24
      refine ⟨1, ((tkF (foCd N c) B bb 15 0 0 a).2.2 : Nat), TrN.done (n := 0) ?_ (by intro h; cases h)⟩
      rw [hpsL2_eq]
      exact Tr.seq h22 (Tr.seqX h24 (by intro h; cases h))
theorem hps_all (hS : S ≤ 9223372036854775807) (hbb : ∀ i, i < B → 0 ≤ bb i ∧ bb i < 256) :
    Tr Try.prog 0 hpsC (stW 0 0 ([.fsi .i64 N c none, .fsi .i64 S s none, .fsi .u8 B bb none] ++ undefs 130) []) .ret (stW 0 0 (tmk [(6, .bool true)] 0 133) []) := by
  refine Tr.preW envHN_ok mix 0 2 (maskOf [0, 1, 2, 7]) (maskOf []) (hps_0 N c S s B bb) rfl rfl ?_
  rw [hpsC_eq]
  by_cases h1 : (N : Int) > 300
  · exact Tr.seqX (hps_2a N c S s B bb (by unfold hps_2aV; rw [decide_eq_true h1]; rfl)) (by intro h; cases h)
  by_cases h2 : (B : Int) > 300
  · exact Tr.seqX (hps_2b N c S s B bb (by unfold hps_2bV; rw [decide_eq_false h1, decide_eq_true h2]; rfl)) (by intro h; cases h)
  refine Tr.seq (hps_2 N c S s B bb (by unfold hps_2V; rw [decide_eq_false h1, decide_eq_false h2]; rfl)) ?_
  by_cases hW : WoIn N c
  case neg =>
    have hH := holds_of (show N ≤ 100000 ∧ ¬ WoIn N c from ⟨by omega, hW⟩)
    exact hps_3 N c S s B bb (by unfold hps_3V; rw [hH]; rfl)
  have hH := holds_of hW
  rw [hpsC3_eq]
  refine Tr.seq (hps_4 N c S s B bb (by unfold hps_4V; rw [hH]; rfl)) ?_
  have h5 := hps_5 N c S s B bb (by unfold hps_5V; rw [hH]; rfl)
  have d0 : decide (0 + N ≤ N) = true := decide_eq_true (by omega)
  have db : Nat.ble N N = true := by simp
  have hF := Tr.frz 1 0 h5 (tm' := tmk (hpsT5f N c S s B bb (fun j => wordF c N (0 + j))) 0 133) (G' := [none]) (by kernel_rfl) (by kernel_rfl) (by kernel_rfl) (by
    refine frTOK_tmk (fun e he => ?_) 133 0
    rcases (show e = (0, .fsi .i64 N c none) ∨ e = (1, .fsi .i64 S s none) ∨ e = (2, .fsi .u8 B bb none) ∨ e = (7, .bool true) ∨ e = (8, .fp (codT N c (wordF c N))) ∨ e = (9, .int .i64 0) ∨ e = (10, outS N 0) ∨ e = (11, .int .i64 0) by simpa [hpsT5, hpsT0] using he) with rfl | rfl | rfl | rfl | rfl | rfl | rfl | rfl
    · rfl
    · rfl
    · rfl
    · rfl
    · rfl
    · rfl
    · show ((true && decide (0 + N ≤ N)) && (true && Nat.ble N N)) = true
      rw [d0, db]; rfl
    · rfl) (fun j hj => absurd hj (Nat.not_lt_zero _))
  rw [fun00] at hF
  have hF2 := Tr.pick [] (maskOf [0, 1, 2, 7, 8, 9, 10, 11]) hF (tm' := tmk (hpsT5f N c S s B bb (wordF c N)) 0 133) (G' := []) (by kernel_rfl) (by kernel_rfl) (by kernel_rfl) trivial (by kernel_rfl) (by kernel_rfl)
  refine Tr.seq hF2 (Tr.seq (hps_6 N c S s B bb (wordF c N)) (Tr.seq (hps_7 N c S s B bb (wordF c N)) ?_))
  obtain ⟨n, hn⟩ : ∃ n, n = min S 100 := ⟨_, rfl⟩
  have hbits : Bits (bitsF (lX N c) (wordF c N) (syP N s) n) := bitsF_bits _ _ _ _
  have h10 : Tr Try.prog 0 (hpsN 7) (stW 0 0 (tmk (hpsT8 N c S s B bb (wordF c N)) 0 133) []) .normal (stW 0 0 (tmk (hpsT10 N c S s B bb (wordF c N)) 0 133) (hpsG0 0 0 0 (byB (bitsF (lX N c) (wordF c N) (syP N s) n)))) := by
    have h := Tr.vac (hps_10 N c S s B bb (wordF c N)) (.ints .u8 0 fun _ => 0) rfl
    refine h.weak (St.leL (LeL.refl _) ⟨⟨rfl, fun ρ cs hc => cons_leaf (fun ρ cs hc => ?_) (fun _ _ h => h) ρ cs hc⟩, ints_le fun j hj => absurd hj (Nat.not_lt_zero _), trivial⟩ fun _ h => absurd h (Nat.not_lt_zero _))
    obtain ⟨x, e, hx⟩ := hc
    exact ⟨x, e, nil_slice hx⟩
  have h11 : Tr Try.prog 0 (hpsN 8) (stW 0 0 (tmk (hpsT10 N c S s B bb (wordF c N)) 0 133) (hpsG0 0 0 0 (byB (bitsF (lX N c) (wordF c N) (syP N s) n)))) .normal (stW 0 0 (tmk (hpsT11 N c S s B bb (wordF c N)) 0 133) (hpsG 0 0 0 (byB (bitsF (lX N c) (wordF c N) (syP N s) n)) 0 (bitsF (lX N c) (wordF c N) (syP N s) n))) := by
    have h := Tr.vac (hps_11 N c S s B bb (wordF c N) 0 0 0 (byB (bitsF (lX N c) (wordF c N) (syP N s) n))) (.rows 0 1 (bo (bitsF (lX N c) (wordF c N) (syP N s) n))) (Nat.zero_mul 1)
    refine h.weak (St.leL (LeL.refl _) ⟨⟨rfl, fun _ _ h => h⟩, ⟨rfl, fun _ _ h => h⟩, ⟨rfl, fun ρ cs hc => cons_leaf (fun ρ cs hc => ?_) (fun _ _ h => h) ρ cs hc⟩, ⟨rfl, fun _ _ h => h⟩, trivial⟩ fun _ h => absurd h (Nat.not_lt_zero _))
    obtain ⟨x, e, hx⟩ := hc
    exact ⟨x, e, nil_slice hx⟩
  have hS0 : hpsS (bitsF (lX N c) (wordF c N) (syP N s) n) (offF (lX N c) (syP N s) 0) = hpsG 0 0 0 (byB (bitsF (lX N c) (wordF c N) (syP N s) n)) 0 (bitsF (lX N c) (wordF c N) (syP N s) n) := by
    have e0 : offF (lX N c) (syP N s) 0 = 0 := rfl
    rw [e0]
    unfold hpsS
    rw [show (0 / 8 : Nat) = 0 from rfl, show (0 % 8 : Nat) = 0 from rfl]; rfl
  rw [← hS0] at h11
  refine Tr.seq h10 (Tr.seq h11 (Tr.seq (s1 := stW 0 0 (tmk (hpsT11 N c S s B bb (wordF c N)) 0 133) (hpsS (bitsF (lX N c) (wordF c N) (syP N s) n) (offF (lX N c) (syP N s) n))) ?_ ?_))
  · rw [hpsN9_eq]
    refine Tr.seq (hps_12 N c S s B bb (wordF c N) _ _ _ _ _ _) ?_
    refine Tr.iter (n := n) (S := fun i => stW 0 0 (tmk (hpsTi N c S s B bb (wordF c N) (i : Nat)) 0 133) (hpsS (bitsF (lX N c) (wordF c N) (syP N s) n) (offF (lX N c) (syP N s) i))) (fun i hi => hps_put hW (by omega) (by omega) hS hi) ?_
    by_cases h3 : S ≤ 100
    · exact hps_13a N c S s B bb (wordF c N) _ _ _ _ _ _ n (by unfold hps_13aV; rw [decide_eq_false (show ¬ (n : Int) < (S : Int) by omega)]; rfl)
    · exact hps_13b N c S s B bb (wordF c N) _ _ _ _ _ _ n (by unfold hps_13bV; rw [decide_eq_true (show (n : Int) < (S : Int) by omega), decide_eq_false (show ¬ (n : Int) < 100 by omega)]; rfl)
  have hl : ∀ j, 0 ≤ lX N c j ∧ lX N c j ≤ 15 := fun j => by
    unfold lX
    split
    · exact hW.ok j (by assumption)
    · omega
  have hoff := off_bnd (l := lX N c) (s := syP N s) n fun i _ => hl _
  generalize offF (lX N c) (syP N s) n = m at *
  generalize bitsF (lX N c) (wordF c N) (syP N s) n = b at *
  have eb : boOf (bo b) = b := boOf_bo hbits
  have e1 : bstr ((m + 7) / 8) (fun j => byF (m / 8) (pk b (8 * (m / 8)) (m % 8)) (byB b) (0 + j)) = bstr ((m + 7) / 8) (fun j => byX m b (0 + j)) := bstr_congr fun j hj => by
    rw [Nat.zero_add]; exact byX_eq hj
  have w1 : IntKind.i64.wrap (8 * ((m / 8 : Nat) : Int)) = 8 * ((m / 8 : Nat) : Int) := by rw [IntKind.wrap_i64]; omega
  have w3 : IntKind.i64.wrap (8 * ((m / 8 : Nat) : Int) + ((m % 8 : Nat) : Int)) = (m : Int) := by rw [IntKind.wrap_i64]; omega
  have h17 := hps_17 N c S s B bb (wordF c N) (m / 8) (pk b (8 * (m / 8)) (m % 8)) (m % 8 : Nat) (byB b) m b (by
    unfold hps_17V
    rw [byN_eq, eb, w1, w3, e1, beq_self_eq_true (m : Int), beq_self_eq_true (bstr ((m + 7) / 8) fun j => byX m b (0 + j)).toList, holds_of (show m / 8 = m / 8 ∧ WrIn (m / 8) (pk b (8 * (m / 8)) (m % 8)) (m % 8 : Nat) (byB b) from ⟨rfl, pk_wr hbits (by omega)⟩), holds_of (show BtIn m m (bo b) 0 from ⟨rfl, by omega, by omega, fun j => ⟨_, rfl⟩⟩), allN_all (f := fun j => idsL [2, 3] (bo b j)) (fun _ => rfl), decide_eq_true (show 0 + (m + 7) / 8 ≤ (m + 7) / 8 by omega)]
    rfl)
  have h17b := Tr.pick [] (maskOf [0, 1, 2, 7, 8, 10]) h17 (tm' := tmk (hpsT8 N c S s B bb (wordF c N)) 0 133) (G' := []) (by kernel_rfl) (by kernel_rfl) (by kernel_rfl) trivial (by kernel_rfl) (by kernel_rfl)
  refine Tr.seq h17b (Tr.seq (hps_19 N c S s B bb (wordF c N)) (Tr.seq (hps_20 N c S s B bb (wordF c N) 0 (by unfold hps_20V; rw [holds_of (show B ≤ 1000000 ∧ ∀ i : Nat, i < B → 0 ≤ bb i ∧ bb i < 256 from ⟨by omega, hbb⟩)]; rfl)) ?_))
  obtain ⟨k, a', hk⟩ := hps_take (S := S) (s := s) hW (show B ≤ 300 by omega) hbb 100 0 0 rfl (Nat.zero_le _)
  have hz := Tr.seq (Tr.seq (hps_21 N c S s B bb (wordF c N) 0 (8 * B) 0 (bitF bb)) (Tr.blockX (Tr.loop hk))) (hps_29 a' (8 * B) a' (bitF bb) B bb)
  rw [← hpsN13_eq] at hz
  exact Tr.pick [] (maskOf [6]) hz (by kernel_rfl) (by kernel_rfl) (by kernel_rfl) trivial (by kernel_rfl) (by kernel_rfl)
end
theorem huffPuts_ok (N : Nat) (c : Nat → Int) (S : Nat) (s : Nat → Int) (B : Nat) (bb : Nat → Int) (_ : N ≤ 9223372036854775807) (_ : ∀ i, (Lit.int .i64 (c i)).wf = true) (hS : S ≤ 9223372036854775807) (_ : ∀ i, (Lit.int .i64 (s i)).wf = true) (_ : B ≤ 9223372036854775807) (w2 : ∀ i, (Lit.int .u8 (bb i)).wf = true) :
    Answers Try.prog 11 [.fsi .i64 N c none, .fsi .i64 S s none, .fsi .u8 B bb none] := by
  refine ⟨onlyV [.fsi .i64 N c none, .fsi .i64 S s none, .fsi .u8 B bb none] ⟨true, .bool true, [], true⟩, ?_, _, onlyV_self _ _, rfl, rfl⟩
  refine SoundV.of_tr (fn := Try.f11) (c := hpsC) (by kernel_rfl) (by kernel_rfl) (by kernel_rfl) ?_
  intro args r hr _
  obtain ⟨rfl, rfl⟩ := onlyV_spec hr
  exact ⟨.ret, _, [.bool true], 0, .inl rfl, hps_all hS (fun i _ => wf_u8' (w2 i)), rfl, rfl, rfl, fun _ => rfl⟩
end Go.Proofs.Ytjianphppcappaa
