/- edwards.Both: what its rounds owe. No condition. -/
import Derived.Test.YtiolcdjnmnhcgaaFz
namespace Go.Proofs.Ytiolcdjnmnhcgaa
open Go.AE Fardel
set_option maxRecDepth 100000

def kI (i : Int) : Int := IntKind.i64.wrap (255 - i)
def qI (k : Int) : Int := IntKind.i64.wrap (k.tdiv 8)
def bitV (f : Nat → Int) (k : Int) : Int := IntKind.i64.wrap (bits .and .u8 (shrI .u8 (f (qI k).toNat) (k.tmod 8)) 1)
def bitVC (k : Int) : Bool := (decide (0 ≤ qI k ∧ qI k < 32) && ((decide ((qI k).toNat < 32) && true) && (decide (0 ≤ k.tmod 8) && true))) && true
theorem bit_vc (f : Nat → Int) (k : Int) : (bitM [.ptr 1 [], .ptr 0 []] [some (.int .i64 k), some (.ints .u8 32 f)]).map (fun r => r.vc) = some (bitVC k) := by kernel_rfl

def roundVC (f g : Nat → Int) (i : Int) (x y : Bool) : Bool :=
  (((bitVC (kI i) && decide (bitV f (kI i) = b2i x)) && ((bitVC (kI i) && decide (bitV g (kI i) = b2i y)) && true)) && (((decide (i < 256) == true) && true) && true))

noncomputable def bothPost : Code := cR (cR (cR (cR bothC)))
noncomputable def sG' (f g : Nat → Int) (s s' : T) (p q o : Qd) : Heap := [some (.ints .u8 32 f), some s, some (.ints .u8 32 g), some s', some (qT o), some (allT zQ p q (adQ p q)), some (qT o)]
def cut5 (r : Ex × St) : Ex × Bool × List T × Heap × Bool := (r.1, r.2.vc, tmTrim 7 keepM 0 r.2.tm, r.2.G.take 7, Nat.ble 7 r.2.G.length)
theorem it_qq_ff (f g : Nat → Int) (a b p q o : Qd) (i : Int) : (evCode Try.prog (envZ false false) ⟨1000000, [(28, true)]⟩ bothL ⟨sT i, sG f g (qT a) (qT b) p q o, true, 0, 0⟩).map cut5 = some (.normal, roundVC f g i false false, sT (nextI i), sG f g (qT a) (qT b) p q (stepQ p q false false o), true) := by kernel_rfl
theorem it_qq_ft (f g : Nat → Int) (a b p q o : Qd) (i : Int) : (evCode Try.prog (envZ false true) ⟨1000000, [(28, true)]⟩ bothL ⟨sT i, sG f g (qT a) (qT b) p q o, true, 0, 0⟩).map cut5 = some (.normal, roundVC f g i false true, sT (nextI i), sG f g (qT a) (qT b) p q (stepQ p q false true o), true) := by kernel_rfl
theorem it_qq_tf (f g : Nat → Int) (a b p q o : Qd) (i : Int) : (evCode Try.prog (envZ true false) ⟨1000000, [(28, true)]⟩ bothL ⟨sT i, sG f g (qT a) (qT b) p q o, true, 0, 0⟩).map cut5 = some (.normal, roundVC f g i true false, sT (nextI i), sG f g (qT a) (qT b) p q (stepQ p q true false o), true) := by kernel_rfl
theorem it_qq_tt (f g : Nat → Int) (a b p q o : Qd) (i : Int) : (evCode Try.prog (envZ true true) ⟨1000000, [(28, true)]⟩ bothL ⟨sT i, sG f g (qT a) (qT b) p q o, true, 0, 0⟩).map cut5 = some (.normal, roundVC f g i true true, sT (nextI i), sG f g (qT a) (qT b) p q (stepQ p q true true o), true) := by kernel_rfl
theorem it_qq_end (f g : Nat → Int) (a b p q o : Qd) : (evCode Try.prog envB0 10 bothL ⟨sT 256, sG f g (qT a) (qT b) p q o, true, 0, 0⟩).map cut5 = some (.exit 0, true, sT 256, sG f g (qT a) (qT b) p q o, true) := by kernel_rfl
theorem post_qq (f g : Nat → Int) (a b p q o : Qd) : (evCode Try.prog envB0 10 bothPost ⟨sT 256, sG f g (qT a) (qT b) p q o, true, 0, 0⟩).map cut5 = some (.ret, true, sT 256, sG' f g (qT a) (qT b) p q o, true) := by kernel_rfl
theorem it_qu_ff (f g : Nat → Int) (a b p q o : Qd) (i : Int) : (evCode Try.prog (envZ false false) ⟨1000000, [(28, true)]⟩ bothL ⟨sT i, sG f g (qT a) uT p q o, true, 0, 0⟩).map cut5 = some (.normal, roundVC f g i false false, sT (nextI i), sG f g (qT a) uT p q (stepQ p q false false o), true) := by kernel_rfl
theorem it_qu_ft (f g : Nat → Int) (a b p q o : Qd) (i : Int) : (evCode Try.prog (envZ false true) ⟨1000000, [(28, true)]⟩ bothL ⟨sT i, sG f g (qT a) uT p q o, true, 0, 0⟩).map cut5 = some (.normal, roundVC f g i false true, sT (nextI i), sG f g (qT a) uT p q (stepQ p q false true o), true) := by kernel_rfl
theorem it_qu_tf (f g : Nat → Int) (a b p q o : Qd) (i : Int) : (evCode Try.prog (envZ true false) ⟨1000000, [(28, true)]⟩ bothL ⟨sT i, sG f g (qT a) uT p q o, true, 0, 0⟩).map cut5 = some (.normal, roundVC f g i true false, sT (nextI i), sG f g (qT a) uT p q (stepQ p q true false o), true) := by kernel_rfl
theorem it_qu_tt (f g : Nat → Int) (a b p q o : Qd) (i : Int) : (evCode Try.prog (envZ true true) ⟨1000000, [(28, true)]⟩ bothL ⟨sT i, sG f g (qT a) uT p q o, true, 0, 0⟩).map cut5 = some (.normal, roundVC f g i true true, sT (nextI i), sG f g (qT a) uT p q (stepQ p q true true o), true) := by kernel_rfl
theorem it_qu_end (f g : Nat → Int) (a b p q o : Qd) : (evCode Try.prog envB0 10 bothL ⟨sT 256, sG f g (qT a) uT p q o, true, 0, 0⟩).map cut5 = some (.exit 0, true, sT 256, sG f g (qT a) uT p q o, true) := by kernel_rfl
theorem post_qu (f g : Nat → Int) (a b p q o : Qd) : (evCode Try.prog envB0 10 bothPost ⟨sT 256, sG f g (qT a) uT p q o, true, 0, 0⟩).map cut5 = some (.ret, true, sT 256, sG' f g (qT a) uT p q o, true) := by kernel_rfl
theorem it_uq_ff (f g : Nat → Int) (a b p q o : Qd) (i : Int) : (evCode Try.prog (envZ false false) ⟨1000000, [(28, true)]⟩ bothL ⟨sT i, sG f g uT (qT b) p q o, true, 0, 0⟩).map cut5 = some (.normal, roundVC f g i false false, sT (nextI i), sG f g uT (qT b) p q (stepQ p q false false o), true) := by kernel_rfl
theorem it_uq_ft (f g : Nat → Int) (a b p q o : Qd) (i : Int) : (evCode Try.prog (envZ false true) ⟨1000000, [(28, true)]⟩ bothL ⟨sT i, sG f g uT (qT b) p q o, true, 0, 0⟩).map cut5 = some (.normal, roundVC f g i false true, sT (nextI i), sG f g uT (qT b) p q (stepQ p q false true o), true) := by kernel_rfl
theorem it_uq_tf (f g : Nat → Int) (a b p q o : Qd) (i : Int) : (evCode Try.prog (envZ true false) ⟨1000000, [(28, true)]⟩ bothL ⟨sT i, sG f g uT (qT b) p q o, true, 0, 0⟩).map cut5 = some (.normal, roundVC f g i true false, sT (nextI i), sG f g uT (qT b) p q (stepQ p q true false o), true) := by kernel_rfl
theorem it_uq_tt (f g : Nat → Int) (a b p q o : Qd) (i : Int) : (evCode Try.prog (envZ true true) ⟨1000000, [(28, true)]⟩ bothL ⟨sT i, sG f g uT (qT b) p q o, true, 0, 0⟩).map cut5 = some (.normal, roundVC f g i true true, sT (nextI i), sG f g uT (qT b) p q (stepQ p q true true o), true) := by kernel_rfl
theorem it_uq_end (f g : Nat → Int) (a b p q o : Qd) : (evCode Try.prog envB0 10 bothL ⟨sT 256, sG f g uT (qT b) p q o, true, 0, 0⟩).map cut5 = some (.exit 0, true, sT 256, sG f g uT (qT b) p q o, true) := by kernel_rfl
theorem post_uq (f g : Nat → Int) (a b p q o : Qd) : (evCode Try.prog envB0 10 bothPost ⟨sT 256, sG f g uT (qT b) p q o, true, 0, 0⟩).map cut5 = some (.ret, true, sT 256, sG' f g uT (qT b) p q o, true) := by kernel_rfl
theorem it_uu_ff (f g : Nat → Int) (a b p q o : Qd) (i : Int) : (evCode Try.prog (envZ false false) ⟨1000000, [(28, true)]⟩ bothL ⟨sT i, sG f g uT uT p q o, true, 0, 0⟩).map cut5 = some (.normal, roundVC f g i false false, sT (nextI i), sG f g uT uT p q (stepQ p q false false o), true) := by kernel_rfl
theorem it_uu_ft (f g : Nat → Int) (a b p q o : Qd) (i : Int) : (evCode Try.prog (envZ false true) ⟨1000000, [(28, true)]⟩ bothL ⟨sT i, sG f g uT uT p q o, true, 0, 0⟩).map cut5 = some (.normal, roundVC f g i false true, sT (nextI i), sG f g uT uT p q (stepQ p q false true o), true) := by kernel_rfl
theorem it_uu_tf (f g : Nat → Int) (a b p q o : Qd) (i : Int) : (evCode Try.prog (envZ true false) ⟨1000000, [(28, true)]⟩ bothL ⟨sT i, sG f g uT uT p q o, true, 0, 0⟩).map cut5 = some (.normal, roundVC f g i true false, sT (nextI i), sG f g uT uT p q (stepQ p q true false o), true) := by kernel_rfl
theorem it_uu_tt (f g : Nat → Int) (a b p q o : Qd) (i : Int) : (evCode Try.prog (envZ true true) ⟨1000000, [(28, true)]⟩ bothL ⟨sT i, sG f g uT uT p q o, true, 0, 0⟩).map cut5 = some (.normal, roundVC f g i true true, sT (nextI i), sG f g uT uT p q (stepQ p q true true o), true) := by kernel_rfl
theorem it_uu_end (f g : Nat → Int) (a b p q o : Qd) : (evCode Try.prog envB0 10 bothL ⟨sT 256, sG f g uT uT p q o, true, 0, 0⟩).map cut5 = some (.exit 0, true, sT 256, sG f g uT uT p q o, true) := by kernel_rfl
theorem post_uu (f g : Nat → Int) (a b p q o : Qd) : (evCode Try.prog envB0 10 bothPost ⟨sT 256, sG f g uT uT p q o, true, 0, 0⟩).map cut5 = some (.ret, true, sT 256, sG' f g uT uT p q o, true) := by kernel_rfl

def Form (s : T) (a : Qd) : Prop := s = qT a ∨ s = uT
theorem round_tr {f g : Nat → Int} {s s' : T} {a b : Qd} (hs : Form s a) (hs' : Form s' b) (p q o : Qd) (i : Int) (x y : Bool) (h : roundVC f g i x y = true) :
    Tr Try.prog 0 bothL ⟨sT i, sG f g s s' p q o, true, 0, 0⟩ .normal ⟨sT (nextI i), sG f g s s' p q (stepQ p q x y o), true, 0, 0⟩ := by
  rcases hs with rfl | rfl <;> rcases hs' with rfl | rfl <;> cases x <;> cases y
  · exact Tr.of_map (envZ_ok _ _) mix (it_qq_ff f g a b p q o i) h rfl rfl
  · exact Tr.of_map (envZ_ok _ _) mix (it_qq_ft f g a b p q o i) h rfl rfl
  · exact Tr.of_map (envZ_ok _ _) mix (it_qq_tf f g a b p q o i) h rfl rfl
  · exact Tr.of_map (envZ_ok _ _) mix (it_qq_tt f g a b p q o i) h rfl rfl
  · exact Tr.of_map (envZ_ok _ _) mix (it_qu_ff f g a zQ p q o i) h rfl rfl
  · exact Tr.of_map (envZ_ok _ _) mix (it_qu_ft f g a zQ p q o i) h rfl rfl
  · exact Tr.of_map (envZ_ok _ _) mix (it_qu_tf f g a zQ p q o i) h rfl rfl
  · exact Tr.of_map (envZ_ok _ _) mix (it_qu_tt f g a zQ p q o i) h rfl rfl
  · exact Tr.of_map (envZ_ok _ _) mix (it_uq_ff f g zQ b p q o i) h rfl rfl
  · exact Tr.of_map (envZ_ok _ _) mix (it_uq_ft f g zQ b p q o i) h rfl rfl
  · exact Tr.of_map (envZ_ok _ _) mix (it_uq_tf f g zQ b p q o i) h rfl rfl
  · exact Tr.of_map (envZ_ok _ _) mix (it_uq_tt f g zQ b p q o i) h rfl rfl
  · exact Tr.of_map (envZ_ok _ _) mix (it_uu_ff f g zQ zQ p q o i) h rfl rfl
  · exact Tr.of_map (envZ_ok _ _) mix (it_uu_ft f g zQ zQ p q o i) h rfl rfl
  · exact Tr.of_map (envZ_ok _ _) mix (it_uu_tf f g zQ zQ p q o i) h rfl rfl
  · exact Tr.of_map (envZ_ok _ _) mix (it_uu_tt f g zQ zQ p q o i) h rfl rfl
theorem end_tr {f g : Nat → Int} {s s' : T} {a b : Qd} (hs : Form s a) (hs' : Form s' b) (p q o : Qd) :
    Tr Try.prog 0 bothL ⟨sT 256, sG f g s s' p q o, true, 0, 0⟩ (.exit 0) ⟨sT 256, sG f g s s' p q o, true, 0, 0⟩ := by
  rcases hs with rfl | rfl <;> rcases hs' with rfl | rfl
  · exact Tr.of_map envB0_ok mix (it_qq_end f g a b p q o) rfl rfl rfl
  · exact Tr.of_map envB0_ok mix (it_qu_end f g a zQ p q o) rfl rfl rfl
  · exact Tr.of_map envB0_ok mix (it_uq_end f g zQ b p q o) rfl rfl rfl
  · exact Tr.of_map envB0_ok mix (it_uu_end f g zQ zQ p q o) rfl rfl rfl
theorem post_tr {f g : Nat → Int} {s s' : T} {a b : Qd} (hs : Form s a) (hs' : Form s' b) (p q o : Qd) :
    Tr Try.prog 0 bothPost ⟨sT 256, sG f g s s' p q o, true, 0, 0⟩ .ret ⟨sT 256, sG' f g s s' p q o, true, 0, 0⟩ := by
  rcases hs with rfl | rfl <;> rcases hs' with rfl | rfl
  · exact Tr.of_map envB0_ok mix (post_qq f g a b p q o) rfl rfl rfl
  · exact Tr.of_map envB0_ok mix (post_qu f g a zQ p q o) rfl rfl rfl
  · exact Tr.of_map envB0_ok mix (post_uq f g zQ b p q o) rfl rfl rfl
  · exact Tr.of_map envB0_ok mix (post_uu f g zQ zQ p q o) rfl rfl rfl

end Go.Proofs.Ytiolcdjnmnhcgaa
