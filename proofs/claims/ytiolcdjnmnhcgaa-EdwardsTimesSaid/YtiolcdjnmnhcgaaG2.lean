/- edwards.Both: the whole. No condition. -/
import Derived.Test.YtiolcdjnmnhcgaaG1
namespace Go.Proofs.Ytiolcdjnmnhcgaa
open Go.AE Fardel
set_option maxRecDepth 100000

def bitAt (f : Nat → Int) (k : Nat) : Bool := decide ((f (k / 8)).toNat / 2 ^ (k % 8) % 2 = 1)
noncomputable def bothN (p q : Qd) (f g : Nat → Int) : Nat → Qd
  | 0 => zQ
  | i + 1 => stepQ p q (bitAt f (255 - i)) (bitAt g (255 - i)) (bothN p q f g i)

theorem shrI_u8 (x : Int) (n : Nat) (hn : n ≤ 8) : shrI .u8 x n = x / 2 ^ n := by
  unfold shrI
  have : min ((n : Int)).toNat IntKind.u8.bits = n := by simp [IntKind.bits]; omega
  rw [this, Int.fdiv_eq_ediv_of_nonneg _ (Int.le_of_lt (Int.pow_pos (by decide)))]

theorem kI_eq {i : Nat} (h : i < 256) : kI i = ((255 - i : Nat) : Int) := by
  unfold kI
  rw [IntKind.wrap_i64]
  omega
theorem qI_eq (k : Nat) (h : k < 256) : qI k = ((k / 8 : Nat) : Int) := by
  unfold qI
  rw [Int.tdiv_eq_ediv_of_nonneg (by omega), IntKind.wrap_i64]
  omega
theorem tmod_eq (k : Nat) : (k : Int).tmod 8 = ((k % 8 : Nat) : Int) := by
  rw [Int.tmod_eq_emod_of_nonneg (by omega)]
  omega

theorem bitVC_eq (k : Nat) (h : k < 256) : bitVC k = true := by
  unfold bitVC
  rw [qI_eq k h, tmod_eq]
  have h1 : (0 : Int) ≤ ((k / 8 : Nat) : Int) ∧ ((k / 8 : Nat) : Int) < 32 := by omega
  have h2 : (((k / 8 : Nat) : Int)).toNat < 32 := by omega
  have h3 : (0 : Int) ≤ ((k % 8 : Nat) : Int) := by omega
  simp only [h1, h2, h3, and_self, decide_true, Bool.and_true]

theorem bitV_eq {f : Nat → Int} (hf : bytesB 32 f = true) (k : Nat) (h : k < 256) : bitV f k = b2i (bitAt f k) := by
  have hb := bytesB_spec hf (k / 8) (by omega)
  unfold bitV bitAt
  rw [qI_eq k h, tmod_eq, shrI_u8 _ _ (by omega)]
  rw [show (((k / 8 : Nat) : Int)).toNat = k / 8 by omega]
  obtain ⟨v, hv⟩ := Int.eq_ofNat_of_zero_le hb.1
  have hv' : v < 256 := by omega
  rw [hv, show ((v : Int) / 2 ^ (k % 8)) = ((v / 2 ^ (k % 8) : Nat) : Int) by simp]
  have hd : v / 2 ^ (k % 8) < 256 := Nat.lt_of_le_of_lt (Nat.div_le_self _ _) hv'
  rw [and1_u8 _ hd]
  rw [Int.toNat_natCast]
  generalize v / 2 ^ (k % 8) = m
  rcases Nat.mod_two_eq_zero_or_one m with e | e <;> rw [e] <;> decide

theorem roundVC_eq {f g : Nat → Int} (hf : bytesB 32 f = true) (hg : bytesB 32 g = true) {i : Nat} (h : i < 256) : roundVC f g i (bitAt f (255 - i)) (bitAt g (255 - i)) = true := by
  unfold roundVC
  rw [kI_eq h, bitVC_eq _ (by omega), bitV_eq hf _ (by omega), bitV_eq hg _ (by omega)]
  have : (i : Int) < 256 := by omega
  simp [this]

theorem nextI_eq {i : Nat} (h : i < 256) : nextI i = ((i + 1 : Nat) : Int) := by
  unfold nextI
  rw [IntKind.wrap_i64]
  omega

theorem both_loop {f g : Nat → Int} {s s' : T} {a b : Qd} (hs : Form s a) (hs' : Form s' b) (hf : bytesB 32 f = true) (hg : bytesB 32 g = true) (p q : Qd) : ∀ m, m ≤ 256 →
    TrN Try.prog 0 bothL (m + 1) ⟨sT ((256 - m : Nat) : Int), sG f g s s' p q (bothN p q f g (256 - m)), true, 0, 0⟩ (.exit 0) ⟨sT 256, sG f g s s' p q (bothN p q f g 256), true, 0, 0⟩
  | 0, _ => TrN.done (end_tr hs hs' p q _) (fun h => by cases h)
  | m + 1, h => by
    have hr := round_tr hs hs' p q (bothN p q f g (256 - (m + 1))) ((256 - (m + 1) : Nat) : Int) _ _ (roundVC_eq hf hg (i := 256 - (m + 1)) (by omega))
    rw [nextI_eq (by omega)] at hr
    have e : 256 - (m + 1) + 1 = 256 - m := by omega
    have e2 : stepQ p q (bitAt f (255 - (256 - (m + 1)))) (bitAt g (255 - (256 - (m + 1)))) (bothN p q f g (256 - (m + 1))) = bothN p q f g (256 - m) := by rw [← e]; rfl
    rw [e2, e] at hr
    exact TrN.next hr (both_loop hs hs' hf hg p q m (by omega))

def tA : List T := [.any, .any, .any, .any, .ptr 0 [], .ptr 1 [], .ptr 2 [], .ptr 3 [], .ptr 4 [], .any, .any, .any, .any, .any, .any, .any, .any, .any, .any, .any, .any, .any, .any, .any, .any, .any, .any, .any, .any, .any, .any, .any, .any, .any, .any, .any, .any, .any, .any, .any, .any, .any, .any, .any, .any, .any, .any, .any, .any, .any]
def tB : List T := [.any, .any, .any, .any, .ptr 0 [], .ptr 1 [], .ptr 2 [], .ptr 3 [], .ptr 4 [], .ptr 5 [], .any, .any, .any, .any, .any, .any, .any, .any, .any, .any, .any, .any, .any, .any, .any, .any, .any, .any, .any, .any, .any, .any, .any, .any, .any, .any, .any, .any, .any, .any, .any, .any, .any, .any, .any, .any, .any, .any, .any, .any]
def tC : List T := [.any, .any, .any, .any, .ptr 0 [], .ptr 1 [], .ptr 2 [], .ptr 3 [], .ptr 4 [], .ptr 5 [], .ptr 6 [], .any, .any, .any, .any, .any, .any, .any, .any, .any, .any, .any, .any, .any, .any, .any, .any, .any, .any, .any, .any, .any, .any, .any, .any, .any, .any, .any, .any, .any, .any, .any, .any, .any, .any, .any, .any, .any, .any, .any]
def gA (f g : Nat → Int) (s s' : T) : Heap := [some (.ints .u8 32 f), some s, some (.ints .u8 32 g), some s', some zT]
noncomputable def gB (f g : Nat → Int) (s s' : T) (p q : Qd) : Heap := [some (.ints .u8 32 f), some s, some (.ints .u8 32 g), some s', some zT, some (allT zQ p q (adQ p q))]
theorem pa_qq (f g : Nat → Int) (p q : Qd) : (evCode Try.prog envB0 10 (cL bothC) ⟨[.ints .u8 32 f, (qT p), .ints .u8 32 g, (qT q)] ++ undefs 46, [], true, 0, 0⟩).map (cutN 5 496) = some (.normal, true, tA, gA f g (qT p) (qT q), true) := by kernel_rfl
theorem pb_qq (f g : Nat → Int) (p q : Qd) : (evCode Try.prog envB0 10 (cL (cR bothC)) ⟨tA, gA f g (qT p) (qT q), true, 0, 0⟩).map (cutN 6 1008) = some (.normal, true, tB, gB f g (qT p) (qT q) p q, true) := by kernel_rfl
theorem pc_qq (f g : Nat → Int) (p q : Qd) : (evCode Try.prog envB0 10 (cL (cR (cR bothC))) ⟨tB, gB f g (qT p) (qT q) p q, true, 0, 0⟩).map (cutN 7 2032) = some (.normal, true, tC, sG f g (qT p) (qT q) p q zQ, true) := by kernel_rfl
theorem pd_qq (f g : Nat → Int) (p q : Qd) : (evCode Try.prog envB0 10 (cL (cL (cR (cR (cR bothC))))) ⟨tC, sG f g (qT p) (qT q) p q zQ, true, 0, 0⟩).map (cutN 7 keepM) = some (.normal, true, sT 0, sG f g (qT p) (qT q) p q zQ, true) := by kernel_rfl
theorem pa_qu (f g : Nat → Int) (p q : Qd) : (evCode Try.prog envB0 10 (cL bothC) ⟨[.ints .u8 32 f, (qT p), .ints .u8 32 g, uT] ++ undefs 46, [], true, 0, 0⟩).map (cutN 5 496) = some (.normal, true, tA, gA f g (qT p) uT, true) := by kernel_rfl
theorem pb_qu (f g : Nat → Int) (p q : Qd) : (evCode Try.prog envB0 10 (cL (cR bothC)) ⟨tA, gA f g (qT p) uT, true, 0, 0⟩).map (cutN 6 1008) = some (.normal, true, tB, gB f g (qT p) uT p zQ, true) := by kernel_rfl
theorem pc_qu (f g : Nat → Int) (p q : Qd) : (evCode Try.prog envB0 10 (cL (cR (cR bothC))) ⟨tB, gB f g (qT p) uT p zQ, true, 0, 0⟩).map (cutN 7 2032) = some (.normal, true, tC, sG f g (qT p) uT p zQ zQ, true) := by kernel_rfl
theorem pd_qu (f g : Nat → Int) (p q : Qd) : (evCode Try.prog envB0 10 (cL (cL (cR (cR (cR bothC))))) ⟨tC, sG f g (qT p) uT p zQ zQ, true, 0, 0⟩).map (cutN 7 keepM) = some (.normal, true, sT 0, sG f g (qT p) uT p zQ zQ, true) := by kernel_rfl
theorem pa_uq (f g : Nat → Int) (p q : Qd) : (evCode Try.prog envB0 10 (cL bothC) ⟨[.ints .u8 32 f, uT, .ints .u8 32 g, (qT q)] ++ undefs 46, [], true, 0, 0⟩).map (cutN 5 496) = some (.normal, true, tA, gA f g uT (qT q), true) := by kernel_rfl
theorem pb_uq (f g : Nat → Int) (p q : Qd) : (evCode Try.prog envB0 10 (cL (cR bothC)) ⟨tA, gA f g uT (qT q), true, 0, 0⟩).map (cutN 6 1008) = some (.normal, true, tB, gB f g uT (qT q) zQ q, true) := by kernel_rfl
theorem pc_uq (f g : Nat → Int) (p q : Qd) : (evCode Try.prog envB0 10 (cL (cR (cR bothC))) ⟨tB, gB f g uT (qT q) zQ q, true, 0, 0⟩).map (cutN 7 2032) = some (.normal, true, tC, sG f g uT (qT q) zQ q zQ, true) := by kernel_rfl
theorem pd_uq (f g : Nat → Int) (p q : Qd) : (evCode Try.prog envB0 10 (cL (cL (cR (cR (cR bothC))))) ⟨tC, sG f g uT (qT q) zQ q zQ, true, 0, 0⟩).map (cutN 7 keepM) = some (.normal, true, sT 0, sG f g uT (qT q) zQ q zQ, true) := by kernel_rfl
theorem pa_uu (f g : Nat → Int) (p q : Qd) : (evCode Try.prog envB0 10 (cL bothC) ⟨[.ints .u8 32 f, uT, .ints .u8 32 g, uT] ++ undefs 46, [], true, 0, 0⟩).map (cutN 5 496) = some (.normal, true, tA, gA f g uT uT, true) := by kernel_rfl
theorem pb_uu (f g : Nat → Int) (p q : Qd) : (evCode Try.prog envB0 10 (cL (cR bothC)) ⟨tA, gA f g uT uT, true, 0, 0⟩).map (cutN 6 1008) = some (.normal, true, tB, gB f g uT uT zQ zQ, true) := by kernel_rfl
theorem pc_uu (f g : Nat → Int) (p q : Qd) : (evCode Try.prog envB0 10 (cL (cR (cR bothC))) ⟨tB, gB f g uT uT zQ zQ, true, 0, 0⟩).map (cutN 7 2032) = some (.normal, true, tC, sG f g uT uT zQ zQ zQ, true) := by kernel_rfl
theorem pd_uu (f g : Nat → Int) (p q : Qd) : (evCode Try.prog envB0 10 (cL (cL (cR (cR (cR bothC))))) ⟨tC, sG f g uT uT zQ zQ zQ, true, 0, 0⟩).map (cutN 7 keepM) = some (.normal, true, sT 0, sG f g uT uT zQ zQ zQ, true) := by kernel_rfl

theorem both_tr {f g : Nat → Int} {s s' : T} {p q : Qd} (hs : s = qT p ∨ (s = uT ∧ p = zQ)) (hs' : s' = qT q ∨ (s' = uT ∧ q = zQ)) (hf : bytesB 32 f = true) (hg : bytesB 32 g = true) :
    Tr Try.prog 0 bothC ⟨[.ints .u8 32 f, s, .ints .u8 32 g, s'] ++ undefs 46, [], true, 0, 0⟩ .ret ⟨sT 256, sG' f g s s' p q (bothN p q f g 256), true, 0, 0⟩ := by
  have h1 : Form s p := hs.imp id fun h => h.1
  have h2 : Form s' q := hs'.imp id fun h => h.1
  have hl : Tr Try.prog 0 (.block 0 (.loop bothL)) ⟨sT 0, sG f g s s' p q zQ, true, 0, 0⟩ .normal ⟨sT 256, sG f g s s' p q (bothN p q f g 256), true, 0, 0⟩ := Tr.blockX (Tr.loop (both_loop h1 h2 hf hg p q 256 (Nat.le_refl _)))
  have hp := post_tr (f := f) (g := g) h1 h2 p q (bothN p q f g 256)
  rw [bothC_eq]
  rcases hs with rfl | ⟨rfl, rfl⟩ <;> rcases hs' with rfl | ⟨rfl, rfl⟩
  · exact Tr.seq (Tr.of_map envB0_ok mix (pa_qq f g p q) rfl rfl rfl) (Tr.seq (Tr.of_map envB0_ok mix (pb_qq f g p q) rfl rfl rfl) (Tr.seq (Tr.of_map envB0_ok mix (pc_qq f g p q) rfl rfl rfl) (Tr.seq (Tr.seq (Tr.of_map envB0_ok mix (pd_qq f g p q) rfl rfl rfl) hl) hp)))
  · exact Tr.seq (Tr.of_map envB0_ok mix (pa_qu f g p zQ) rfl rfl rfl) (Tr.seq (Tr.of_map envB0_ok mix (pb_qu f g p zQ) rfl rfl rfl) (Tr.seq (Tr.of_map envB0_ok mix (pc_qu f g p zQ) rfl rfl rfl) (Tr.seq (Tr.seq (Tr.of_map envB0_ok mix (pd_qu f g p zQ) rfl rfl rfl) hl) hp)))
  · exact Tr.seq (Tr.of_map envB0_ok mix (pa_uq f g zQ q) rfl rfl rfl) (Tr.seq (Tr.of_map envB0_ok mix (pb_uq f g zQ q) rfl rfl rfl) (Tr.seq (Tr.of_map envB0_ok mix (pc_uq f g zQ q) rfl rfl rfl) (Tr.seq (Tr.seq (Tr.of_map envB0_ok mix (pd_uq f g zQ q) rfl rfl rfl) hl) hp)))
  · exact Tr.seq (Tr.of_map envB0_ok mix (pa_uu f g zQ zQ) rfl rfl rfl) (Tr.seq (Tr.of_map envB0_ok mix (pb_uu f g zQ zQ) rfl rfl rfl) (Tr.seq (Tr.of_map envB0_ok mix (pc_uu f g zQ zQ) rfl rfl rfl) (Tr.seq (Tr.seq (Tr.of_map envB0_ok mix (pd_uu f g zQ zQ) rfl rfl rfl) hl) hp)))

/-! ### What the loop comes to -/

theorem selQ_is {p q : Qd} {A B : Pt} (hp : p.is A) (hq : q.is B) (x y : Bool) (h : (x || y) = true) : (selQ p q x y).is ((A.smul x.toNat).add (B.smul y.toNat)) := by
  cases x <;> cases y
  · cases h
  · show q.is ((A.smul 0).add (B.smul 1))
    rw [smul_zero, smul_one, Pt.zero_add]; exact hq
  · show p.is ((A.smul 1).add (B.smul 0))
    rw [smul_zero, smul_one, Pt.add_zero]; exact hp
  · show (adQ p q).is ((A.smul 1).add (B.smul 1))
    rw [smul_one, smul_one]; exact adQ_is hp hq

theorem stepQ_is {p q o : Qd} {A B O : Pt} (hp : p.is A) (hq : q.is B) (ho : o.is O) (x y : Bool) : (stepQ p q x y o).is ((O.add O).add ((A.smul x.toNat).add (B.smul y.toNat))) := by
  unfold stepQ
  cases h : (x || y) with
  | false =>
    have : x = false ∧ y = false := by simpa using h
    rw [this.1, this.2]
    show (dbQ o).is ((O.add O).add ((A.smul 0).add (B.smul 0)))
    rw [smul_zero, smul_zero, Pt.add_zero, Pt.add_zero]
    exact dbQ_is ho
  | true => exact adQ_is (dbQ_is ho) (selQ_is hp hq x y h)

/-- The first i bits of thirty-two bytes, the highest first. -/
def hi (f : Nat → Int) : Nat → Nat
  | 0 => 0
  | i + 1 => 2 * hi f i + (bitAt f (255 - i)).toNat

theorem bothN_is {p q : Qd} {A B : Pt} (hp : p.is A) (hq : q.is B) (f g : Nat → Int) : ∀ i, (bothN p q f g i).is ((A.smul (hi f i)).add (B.smul (hi g i)))
  | 0 => by
    show zQ.is ((A.smul 0).add (B.smul 0))
    rw [smul_zero, smul_zero, Pt.add_zero]
    exact zQ_is
  | i + 1 => by
    have h := stepQ_is hp hq (bothN_is hp hq f g i) (bitAt f (255 - i)) (bitAt g (255 - i))
    have e : ∀ (C : Pt) (n b : Nat), C.smul (2 * n + b) = ((C.smul n).add (C.smul n)).add (C.smul b) := by
      intro C n b
      rw [Nat.two_mul, smul_add, smul_add]
    show (stepQ p q (bitAt f (255 - i)) (bitAt g (255 - i)) (bothN p q f g i)).is ((A.smul (2 * hi f i + (bitAt f (255 - i)).toNat)).add (B.smul (2 * hi g i + (bitAt g (255 - i)).toNat)))
    rw [e, e, add4, add4 (A.smul (hi f i))]
    exact h

def asF : T → Option Qd
  | .cons (.cons (.abs (.fe x)) (.cons (.abs (.fe y)) (.cons (.abs (.fe z)) (.cons (.abs (.fe t)) .nil)))) (.cons (.bool true) .nil) => some ⟨x, y, z, t⟩
  | _ => none

theorem both_sound (s s' : T) (p q : Qd) (hs : s = qT p ∨ (s = uT ∧ p = zQ)) (hs' : s' = qT q ∨ (s' = uT ∧ q = zQ)) (f g : Nat → Int) (hf : bytesB 32 f = true) (hg : bytesB 32 g = true) :
    SoundM Try.prog 25 (pureModel fun args => open Classical in if args = [.ints .u8 32 f, s, .ints .u8 32 g, s'] then some (true, qT (bothN p q f g 256)) else none) := by
  refine SoundM.of_tr0 (fn := Try.f25) (c := bothC) (by kernel_rfl) (by kernel_rfl) (by kernel_rfl) ?_
  intro args vc v hm hvc
  split at hm
  · rename_i e
    cases hm
    subst e
    refine ⟨?_, rfl, .ret, _, [qT (bothN p q f g 256)], 16, .inl rfl, both_tr hs hs' hf hg, ?_, rfl⟩
    · rcases hs with rfl | ⟨rfl, rfl⟩ <;> rcases hs' with rfl | ⟨rfl, rfl⟩ <;> rfl
    · rcases hs with rfl | ⟨rfl, rfl⟩ <;> rcases hs' with rfl | ⟨rfl, rfl⟩ <;> kernel_rfl
  · cases hm

end Go.Proofs.Ytiolcdjnmnhcgaa
