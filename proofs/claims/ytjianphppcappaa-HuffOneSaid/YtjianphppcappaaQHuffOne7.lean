/- Part 7 of the proof. No condition. -/
import Derived.Test.YtjianphppcappaaQHuffOne6
set_option linter.unusedVariables false
set_option linter.unusedSimpArgs false
set_option linter.unusedSectionVars false

/-! huff.Code.Put: its models. No condition. -/
namespace Go.Proofs.Ytjianphppcappaa
open Go.AE
set_option maxRecDepth 100000
def lenS (c : Nat → Int) (s : Int) : Nat := (c s.toNat).toNat
/-- All bits behind a Put. -/
def ptB (c w : Nat → Int) (s : Int) (k : Nat) (la n : Int) (f : Nat → Int) : Nat → Int := bW k la n.toNat f (w s.toNat) (lenS c s)
def ptM (c : Nat → Int) (s : Int) (k : Nat) (n : Int) : Nat := 8 * k + n.toNat + lenS c s
structure PtOK (N N' k k' : Nat) (c w : Nat → Int) (s la n : Int) (f : Nat → Int) : Prop where
  same : N' = N ∧ k' = k
  arg : PtIn N c w s
  len : 1 ≤ c s.toNat ∧ c s.toNat ≤ 15
  wr : WrIn k la n f
noncomputable def Put1M : Model
  | [.fp (.cons (.fsi .i64 N c none) (.cons (.fsi .u32 N' w _) _)), .ptr 0 [], x], [some (.cons (.slice 1 [] 0 1 k none) (.cons (.int .u64 la) (.cons (.int .i64 n) .nil))), some (.ints .u8 k' f)] => match numOf x with
    | some s => some ⟨holds (PtOK N N' k k' c w s la n f ∧ ptM c s k n / 8 = k), .int .i64 0, [some (wS 1 k (pk (ptB c w s k la n f) (8 * k) (ptM c s k n % 8)) (ptM c s k n % 8 : Nat)), some (.ints .u8 k' f)], 3, 3⟩
    | none => none
  | _, _ => none
noncomputable def Put2M : Model
  | [.fp (.cons (.fsi .i64 N c none) (.cons (.fsi .u32 N' w _) _)), .ptr 0 [], x], [some (.cons (.slice 1 [] 0 1 k none) (.cons (.int .u64 la) (.cons (.int .i64 n) .nil))), some (.ints .u8 k' f)] => match numOf x with
    | some s => some ⟨holds (PtOK N N' k k' c w s la n f ∧ ptM c s k n / 8 ≠ k), .int .i64 0, [some (wS 2 (ptM c s k n / 8) (pk (ptB c w s k la n f) (8 * (ptM c s k n / 8)) (ptM c s k n % 8)) (ptM c s k n % 8 : Nat)), none, some (.ints .u8 (ptM c s k n / 8) (byB (ptB c w s k la n f)))], 3, 3⟩
    | none => none
  | _, _ => none
noncomputable def PutEM : Model
  | [.fp (.cons (.fsi .i64 N c none) (.cons (.fsi .u32 N' w _) _)), .ptr 0 [], x], [some (.cons (.slice 1 [] 0 1 k none) (.cons (.int .u64 la) (.cons (.int .i64 n) .nil))), some (.ints .u8 k' f)] => match numOf x with
    | some s => some ⟨holds (N' = N ∧ k' = k ∧ WrIn k la n f ∧ (s < 0 ∨ s ≥ N ∨ c s.toNat = 0)), .int .i64 1, [some (wS 1 k la n), some (.ints .u8 k' f)], 3, 3⟩
    | none => none
  | _, _ => none
theorem stat2 {t u v : T} {vc : Bool} {r : Heap} (h : 2 ≤ r.length) : AE.Stat [some t, some u] ⟨vc, v, r, 3, 3⟩ := by
  refine ⟨h, fun k hk hw => ⟨hw, ?_⟩, fun k hk hw => ?_⟩
  · rcases (show k = 0 ∨ k = 1 from by have hk' : k < 2 := hk; omega) with rfl | rfl <;> exact ⟨_, rfl⟩
  · rcases (show k = 0 ∨ k = 1 from by have hk' : k < 2 := hk; omega) with rfl | rfl
    · exact absurd (show Nat.testBit 3 0 = false from hw) (by decide)
    · exact absurd (show Nat.testBit 3 1 = false from hw) (by decide)
/-- The writer as bits. -/
theorem wr_in {t : T} {x : T} {s : Int} {k : Nat} {la n : Int} {f : Nat → Int} {e : Ex} {s2 : St} {b : Nat → Int} {m : Nat} (hx : numOf x = some s) (hk : m / 8 = k) (hn : ((m % 8 : Nat) : Int) = n) (hla : pk b (8 * k) (m % 8) = la) (hf : ∀ j, j < k → f j = byB b j)
    (h : Tr Try.prog 2 cpC (stW 2 3 ([.fp t, .ptr 0 [], .int .i64 s] ++ undefs 58) (wP b m)) e s2) : Tr Try.prog 2 cpC (stW 2 0 ([.fp t, .ptr 0 [], x] ++ undefs 58) [some (wS 1 k la n), some (.ints .u8 k f)]) e s2 := by
  subst hk hn hla
  refine Tr.widen0 (W := 3) ?_ (fun j _ h => by simp [stW] at h) (fun j hj h => mask_bit hj)
  exact Tr.weak0 (s := stW 2 3 ([.fp t, .ptr 0 [], .int .i64 s] ++ undefs 58) (wP b m)) h (St.leL (L := [(0, .fp t), (1, .ptr 0 []), (2, x)]) (L' := [(0, .fp t), (1, .ptr 0 []), (2, .int .i64 s)]) (n := 61) (G := [some (wS 1 (m / 8) (pk b (8 * (m / 8)) (m % 8)) (m % 8 : Nat)), some (.ints .u8 (m / 8) f)]) (G' := wP b m)
    ⟨rfl, fun _ _ h => h, rfl, fun _ _ h => h, rfl, fun ρ y hy => numOf_R hx ρ y hy, trivial⟩ ⟨⟨rfl, fun _ _ h => h⟩, ints_le hf, trivial⟩ fun j hj hw => by
      rcases (show j = 0 ∨ j = 1 from by have hj' : j < 2 := hj; omega) with rfl | rfl
      · exact absurd hw (by decide)
      · exact absurd hw (by decide))
theorem pt_run {N N' k k' : Nat} {c w : Nat → Int} {cw : Option Nat} {t x : T} {s la n : Int} {f : Nat → Int} (hx : numOf x = some s) (h : PtOK N N' k k' c w s la n f) :
    Tr Try.prog 2 cpC (stW 2 0 ([.fp (.cons (.fsi .i64 N c none) (.cons (.fsi .u32 N' w cw) t)), .ptr 0 [], x] ++ undefs 58) [some (wS 1 k la n), some (.ints .u8 k' f)]) .ret
      (stW 2 3 (tmk [(6, .int .i64 0)] 0 61) (wSt (ptB c w s k la n f) (8 * k + n.toNat) (ptM c s k n))) := by
  obtain ⟨⟨rfl, rfl⟩, h2, h3, h4⟩ := h
  have hn := h4.num
  have hr := h4.room
  obtain ⟨q1, q2⟩ := wr_heap h4 (w s.toNat) (lenS c s)
  refine wr_in (t := cpT N' c w cw t) (b := ptB c w s k' la n f) (m := 8 * k' + n.toNat) hx (by omega) (by omega) (by rw [show (8 * k' + n.toNat) % 8 = n.toNat by omega]; exact q1) (fun j hj => (q2 j hj).symm) ?_
  refine cp_all (l := lenS c s) h2 (by unfold lenS; omega) (by unfold lenS; omega) (bW_bits _ _ _ _ _ _) (by omega) fun i hi => ?_
  unfold ptB bW
  rw [if_neg (by omega), if_neg (by omega), show 8 * k' + n.toNat + i - 8 * k' - n.toNat = i by omega]
theorem Put1_ok : SoundL Try.prog 24 Put1M := by
  refine SoundL.of_tr (fn := Try.f24) (c := cpC) (by kernel_rfl) (by kernel_rfl) (by kernel_rfl) (fun args G r hm => ?_) fun args G r hm hvc => ?_
  · unfold Put1M at hm
    split at hm
    · split at hm
      · cases hm; exact stat2 (Nat.le_refl _)
      · cases hm
    · cases hm
  · unfold Put1M at hm
    split at hm
    · rename_i N c N' w cw t x k la n k' f
      split at hm
      · rename_i s hs
        cases hm
        obtain ⟨h1, h2⟩ := of_holds hvc
        have h := pt_run (cw := cw) (t := t) hs h1
        obtain ⟨⟨rfl, rfl⟩, _, _, h4⟩ := h1
        have hn := h4.num
        obtain ⟨q1, q2⟩ := wr_heap h4 (w s.toNat) (lenS c s)
        refine ⟨.ret, stW 2 3 (tmk [(6, .int .i64 0)] 0 61) [some (wS 1 k' (pk (ptB c w s k' la n f) (8 * k') (ptM c s k' n % 8)) (ptM c s k' n % 8 : Nat)), some (.ints .u8 k' f)], [.int .i64 0], 0, .inl rfl, ?_, rfl, rfl, rfl, rfl⟩
        refine Tr.weak h ?_
        have e : wSt (ptB c w s k' la n f) (8 * k' + n.toNat) (ptM c s k' n) = hP k' (pk (ptB c w s k' la n f) (8 * k') (ptM c s k' n % 8)) (ptM c s k' n % 8 : Nat) (byB (ptB c w s k' la n f)) := by
          unfold wSt wP
          rw [if_pos (by omega), h2]
        rw [e]
        exact St.leL (LeL.refl _) ⟨⟨rfl, fun _ _ h => h⟩, ints_le q2, trivial⟩ fun j hj hw => by
          rcases (show j = 0 ∨ j = 1 from by have hj' : j < 2 := hj; omega) with rfl | rfl
          · exact absurd hw (by decide)
          · exact absurd hw (by decide)
      · cases hm
    · cases hm
theorem Put2_ok : SoundL Try.prog 24 Put2M := by
  refine SoundL.of_tr (fn := Try.f24) (c := cpC) (by kernel_rfl) (by kernel_rfl) (by kernel_rfl) (fun args G r hm => ?_) fun args G r hm hvc => ?_
  · unfold Put2M at hm
    split at hm
    · split at hm
      · cases hm; exact stat2 (Nat.le_succ _)
      · cases hm
    · cases hm
  · unfold Put2M at hm
    split at hm
    · rename_i N c N' w cw t x k la n k' f
      split at hm
      · rename_i s hs
        cases hm
        obtain ⟨h1, h2⟩ := of_holds hvc
        have h := pt_run (cw := cw) (t := t) hs h1
        obtain ⟨⟨rfl, rfl⟩, _, _, h4⟩ := h1
        have hn := h4.num
        have e : wSt (ptB c w s k' la n f) (8 * k' + n.toNat) (ptM c s k' n) = wQ (ptB c w s k' la n f) (ptM c s k' n) := by
          unfold wSt
          rw [if_neg (by omega)]
        rw [e] at h
        exact ⟨.ret, _, [.int .i64 0], 0, .inl rfl, h, rfl, rfl, rfl, rfl⟩
      · cases hm
    · cases hm
theorem PutE_ok : SoundL Try.prog 24 PutEM := by
  refine SoundL.of_tr (fn := Try.f24) (c := cpC) (by kernel_rfl) (by kernel_rfl) (by kernel_rfl) (fun args G r hm => ?_) fun args G r hm hvc => ?_
  · unfold PutEM at hm
    split at hm
    · split at hm
      · cases hm; exact stat2 (Nat.le_refl _)
      · cases hm
    · cases hm
  · unfold PutEM at hm
    split at hm
    · rename_i N c N' w cw t x k la n k' f
      split at hm
      · rename_i s hs
        cases hm
        obtain ⟨rfl, rfl, h4, h5⟩ := of_holds hvc
        have hn := h4.num
        obtain ⟨q1, q2⟩ := wr_heap h4 0 0
        have h := wr_in (t := cpT N' c w cw t) (b := bW k' la n.toNat f 0 0) (m := 8 * k' + n.toNat) (k := k') (la := la) (n := n) (f := f) hs (by omega) (by omega) (by rw [show (8 * k' + n.toNat) % 8 = n.toNat by omega]; exact q1) (fun j hj => (q2 j hj).symm) (cp_err h5)
        have e : wP (bW k' la n.toNat f 0 0) (8 * k' + n.toNat) = hP k' la n (byB (bW k' la n.toNat f 0 0)) := by
          unfold wP
          rw [show (8 * k' + n.toNat) / 8 = k' by omega, show (8 * k' + n.toNat) % 8 = n.toNat by omega, q1, show ((n.toNat : Nat) : Int) = n by omega]
        rw [e] at h
        refine ⟨.ret, stW 2 3 (tmk [(6, .int .i64 1)] 0 61) [some (wS 1 k' la n), some (.ints .u8 k' f)], [.int .i64 1], 0, .inl rfl, ?_, rfl, rfl, rfl, rfl⟩
        exact Tr.weak h (St.leL (LeL.refl _) ⟨⟨rfl, fun _ _ h => h⟩, ints_le q2, trivial⟩ fun j hj hw => by
          rcases (show j = 0 ∨ j = 1 from by have hj' : j < 2 := hj; omega) with rfl | rfl
          · exact absurd hw (by decide)
          · exact absurd hw (by decide))
      · cases hm
    · cases hm
end Go.Proofs.Ytjianphppcappaa

/-! bits.Reader.Take and huff.Code.Take where the bytes are told by a name: their parts. No condition. -/
namespace Go.Proofs.Ytjianphppcappaa
open Go.AE
set_option maxRecDepth 100000
def rdS (n : Nat) (a : Int) : T := .cons (.slice 1 [] 0 1 n none) (.cons (.int .i64 a) .nil)
def rdH (n : Nat) (f : Nat → Int) (a : Int) : Heap := [some (rdS n a), some (.ints .u8 n f)]

theorem rj_0 (n : Nat) (f : Nat → Int) (a : Int) : Tr Try.prog 2 (cL rtC) (stW 2 1 (tmk ([(0, .ptr 0 []), (1, .int .i64 1)]) 0 79) (rdH n f a)) (.normal) (stW 2 1 (tmk ([(0, .ptr 0 []), (1, .int .i64 1), (4, .int .u64 0), (5, .int .i64 0)]) 0 79) (rdH n f a)) :=
  Tr.evW (n := ⟨1000000, []⟩) (N := 2) (keep := maskOf [0, 1, 4, 5]) (nm := maskOf []) (vc := true) envRT_ok mix (by kernel_rfl) rfl rfl rfl (rfl)

noncomputable def rj_1V (n : Nat) (f : Nat → Int) (a : Int) : Bool := (decide (0 ≤ IntKind.i64.wrap (a.tdiv 8) ∧ IntKind.i64.wrap (a.tdiv 8) < (↑n : Int)) && (decide (0 + (IntKind.i64.wrap (a.tdiv 8)).toNat < n) && true && (decide (0 ≤ a.tmod 8) && (decide (0 ≤ if IntKind.i64.wrap (1 - 0) < IntKind.i64.wrap (8 - a.tmod 8) then IntKind.i64.wrap (1 - 0) else IntKind.i64.wrap (8 - a.tmod 8)) && true))) && (decide (1 > IntKind.i64.wrap (IntKind.i64.wrap (8 * (↑n : Int)) - a)) == false && true && true))
theorem rj_1 (n : Nat) (f : Nat → Int) (a : Int) (hv : rj_1V n f a = true) : Tr Try.prog 2 (rtI) (stW 2 1 (tmk ([(0, .ptr 0 []), (1, .int .i64 1), (4, .int .u64 0), (5, .int .i64 0)]) 0 79) (rdH n f a)) (.goto 0) (stW 2 1 (tmk ([(0, .ptr 0 []), (1, .int .i64 1), (4, .int .u64 (rtB (fun j => f (0 + j)) a)), (6, .int .i64 (IntKind.i64.wrap (0 + rtK a)))]) 0 79) (rdH n f (IntKind.i64.wrap (a + rtK a)))) :=
  Tr.evW (n := ⟨1000000, [(21, false)]⟩) (N := 2) (keep := maskOf [0, 1, 4, 6]) (nm := maskOf []) (vc := rj_1V n f a) envRT_ok mix (by kernel_rfl) hv rfl rfl (rfl)

theorem rj_2 (n : Nat) (f : Nat → Int) (a : Int) (x : Int) : Tr Try.prog 2 (rtL) (stW 2 1 (tmk ([(0, .ptr 0 []), (1, .int .i64 1), (4, .int .u64 x), (6, .int .i64 1)]) 0 79) (rdH n f a)) (.ret) (stW 2 1 (tmk ([(4, .int .u64 x), (5, .int .i64 0)]) 0 79) (rdH n f a)) :=
  Tr.evW (n := ⟨1000000, []⟩) (N := 2) (keep := maskOf [4, 5]) (nm := maskOf []) (vc := true) envRT_ok mix (by kernel_rfl) rfl rfl rfl (rfl)

noncomputable def rj_3V (n : Nat) (f : Nat → Int) (a : Int) : Bool := (decide (1 > IntKind.i64.wrap (IntKind.i64.wrap (8 * (↑n : Int)) - a)) == true && true && true)
theorem rj_3 (n : Nat) (f : Nat → Int) (a : Int) (hv : rj_3V n f a = true) : Tr Try.prog 2 (rtI) (stW 2 1 (tmk ([(0, .ptr 0 []), (1, .int .i64 1), (4, .int .u64 0), (5, .int .i64 0)]) 0 79) (rdH n f a)) (.ret) (stW 2 1 (tmk ([(4, .int .u64 0), (5, .int .i64 120)]) 0 79) (rdH n f a)) :=
  Tr.evW (n := ⟨1000000, [(21, true)]⟩) (N := 2) (keep := maskOf [4, 5]) (nm := maskOf []) (vc := rj_3V n f a) envRT_ok mix (by kernel_rfl) hv rfl rfl (rfl)

end Go.Proofs.Ytjianphppcappaa

/-! bits.Reader.Take of one bit of bytes that are told by a name. No condition. -/
namespace Go.Proofs.Ytjianphppcappaa
open Go.AE
set_option maxRecDepth 100000
noncomputable def Rj1M : Model
  | [.ptr 0 [], .int .i64 1], [some (.cons (.slice 1 [] 0 1 n none) (.cons (.int .i64 a) .nil)), some (.ints .u8 n'' f)] =>
    some ⟨holds (n'' = n ∧ RdIn n f a), .tup (.cons (.int .u64 (rdV n f a)) (.cons (.int .i64 (rdE n a)) .nil)), [some (rdS n (rdA n a)), some (.ints .u8 n'' f)], 3, 1⟩
  | _, _ => none
theorem rj_all {n : Nat} {f : Nat → Int} {a : Int} (h : RdIn n f a) :
    Tr Try.prog 2 rtC (stW 2 1 ([.ptr 0 [], .int .i64 1] ++ undefs 77) (rdH n f a)) .ret (stW 2 1 (tmk [(4, .int .u64 (rdV n f a)), (5, .int .i64 (rdE n a))] 0 79) (rdH n f (rdA n a))) := by
  obtain ⟨h1, h2, h3, h4⟩ := h
  rw [rkC_eq]
  refine Tr.seq (rj_0 n f a) ?_
  have hw : IntKind.i64.wrap (a.tdiv 8) = a / 8 := by rw [(tdiv_mod h3).1, IntKind.wrap_i64]; omega
  by_cases h5 : a < 8 * (n : Int)
  · unfold rdV rdE rdA
    rw [if_pos h5, if_pos h5, if_pos h5]
    have hk := rtK_eq (a := a) (by omega)
    obtain ⟨A, rfl⟩ := Int.eq_ofNat_of_zero_le h3
    have hb := rtB_eq (f := f) (a := A) (by omega) (h2 (A / 8) (by omega))
    have hb0 : (fun j => f (0 + j)) = f := by funext j; rw [Nat.zero_add]
    have e8 : IntKind.i64.wrap (IntKind.i64.wrap (8 * (n : Int)) - A) = 8 * (n : Int) - A := by rw [IntKind.wrap_i64 (8 * (n : Int)), IntKind.wrap_i64]; omega
    have hs := rj_1 n f A (by
      unfold rj_1V
      rw [show (if IntKind.i64.wrap (1 - 0) < IntKind.i64.wrap (8 - (A : Int).tmod 8) then IntKind.i64.wrap (1 - 0) else IntKind.i64.wrap (8 - (A : Int).tmod 8)) = rtK A from rfl, hk, hw, (tdiv_mod h3).2, e8]
      simp only [Bool.and_true, Bool.or_false, Bool.and_eq_true, decide_eq_true_eq, decide_eq_false_iff_not, beq_iff_eq]
      omega)
    have e1 : IntKind.i64.wrap ((A : Int) + 1) = A + 1 := by rw [IntKind.wrap_i64]; omega
    have e2 : IntKind.i64.wrap (0 + 1) = 1 := by rw [IntKind.wrap_i64]; rfl
    rw [hb0, hk, hb, e1, e2] at hs
    rw [Int.toNat_natCast]
    exact Tr.scope (n := 0) (S := fun _ => stW 2 1 (tmk [(0, .ptr 0 []), (1, .int .i64 1), (4, .int .u64 (bitF f A)), (6, .int .i64 1)] 0 79) (rdH n f ((A : Int) + 1))) rkL_eq hs (fun i hi => absurd hi (Nat.not_lt_zero _)) (rj_2 n f ((A : Int) + 1) (bitF f A)) (by intro l h; cases h)
  · unfold rdV rdE rdA
    rw [if_neg h5, if_neg h5, if_neg h5]
    refine Tr.scopeX (rj_3 n f a ?_) (by intro l h; cases h)
    have e8 : IntKind.i64.wrap (IntKind.i64.wrap (8 * (n : Int)) - a) = 8 * (n : Int) - a := by rw [IntKind.wrap_i64 (8 * (n : Int)), IntKind.wrap_i64]; omega
    unfold rj_3V
    rw [e8]
    simp only [Bool.and_true, Bool.or_false, Bool.and_eq_true, decide_eq_true_eq, decide_eq_false_iff_not, beq_iff_eq]
    omega
theorem stat3 {t u v t' : T} {vc : Bool} : AE.Stat [some t, some u] ⟨vc, v, [some t', some u], 3, 1⟩ := by
  refine ⟨Nat.le_refl _, fun k hk hw => ⟨?_, ?_⟩, fun k hk hw => ?_⟩
  · rcases (show k = 0 ∨ k = 1 from by have hk' : k < 2 := hk; omega) with rfl | rfl
    · show Nat.testBit 3 0 = true; decide
    · show Nat.testBit 3 1 = true; decide
  · rcases (show k = 0 ∨ k = 1 from by have hk' : k < 2 := hk; omega) with rfl | rfl <;> exact ⟨_, rfl⟩
  · rcases (show k = 0 ∨ k = 1 from by have hk' : k < 2 := hk; omega) with rfl | rfl
    · exact absurd (show Nat.testBit 1 0 = false from hw) (by decide)
    · rfl
theorem Rj1_ok : SoundL Try.prog 42 Rj1M := by
  refine SoundL.of_tr (fn := Try.f42) (c := rtC) (by kernel_rfl) (by kernel_rfl) (by kernel_rfl) (fun args G r hm => ?_) fun args G r hm hvc => ?_
  · unfold Rj1M at hm
    split at hm
    · cases hm; exact stat3
    · cases hm
  · unfold Rj1M at hm
    split at hm
    · rename_i n a n'' f
      cases hm
      obtain ⟨rfl, hI⟩ := of_holds hvc
      refine ⟨.ret, stW 2 1 (tmk [(4, .int .u64 (rdV _ f a)), (5, .int .i64 (rdE _ a))] 0 79) (rdH _ f (rdA _ a)), [.int .u64 (rdV _ f a), .int .i64 (rdE _ a)], 0, .inl rfl, ?_, rfl, rfl, rfl, rfl⟩
      exact Tr.widen0 (s := stW 2 0 ([.ptr 0 [], .int .i64 1] ++ undefs 77) (rdH _ f a)) (W := 1) (rj_all hI) (fun j _ h => by simp [stW] at h) (fun j hj h => mask_bit hj)
    · cases hm
end Go.Proofs.Ytjianphppcappaa

/-! huff.Code.Take of bytes that are told by a name: its parts. No condition. -/
namespace Go.Proofs.Ytjianphppcappaa
open Go.AE
set_option maxRecDepth 100000
noncomputable def envCU : Env := env0.set 42 (liftL reach Rj1M)
theorem envCU_ok : EnvOK Try.prog envCU := (env0_ok _).set (Rj1_ok.lift reach)

theorem cu_0 (t : T) (n : Nat) (f : Nat → Int) (a : Int) : (evCode Try.prog envCU ⟨1000000, []⟩ (preC 3 (ctC)) (stW 2 3 (tmk ([(0, .fp t), (1, .ptr 0 [])]) 0 88) (rdH n f a))).map (cutPW 2 3 (maskOf [0, 1, 6]) (maskOf [])) =
    some (.normal, true, (tmk (ctT0 t 0) 0 88), rdH n f a, true) := by kernel_rfl

theorem cu_4 (t : T) (x : Int) (n : Nat) (f : Nat → Int) (a : Int) : Tr Try.prog 2 (cL (cL ctX)) (stW 2 3 (tmk (ctT0 t x) 0 88) (rdH n f a)) (.normal) (stW 2 3 (tmk (ctT t x 1) 0 88) (rdH n f a)) :=
  Tr.evW (n := ⟨1000000, []⟩) (N := 2) (keep := maskOf [0, 1, 6, 7]) (nm := maskOf [7]) (vc := true) envCU_ok mix (by kernel_rfl) rfl rfl rfl (rfl)

noncomputable def cu_5V (t : T) (x l : Int) (n : Nat) (f : Nat → Int) (a : Int) : Bool := (decide (l < 16) == true && true && true)
theorem cu_5 (t : T) (x l : Int) (n : Nat) (f : Nat → Int) (a : Int) (hv : cu_5V t x l n f a = true) : Tr Try.prog 2 (cL ctB) (stW 2 3 (tmk (ctT t x l) 0 88) (rdH n f a)) (.normal) (stW 2 3 (tmk (ctT t x l) 0 88) (rdH n f a)) :=
  Tr.evW (n := ⟨1000000, [(14, true)]⟩) (N := 2) (keep := maskOf [0, 1, 6, 7]) (nm := maskOf [7]) (vc := cu_5V t x l n f a) envCU_ok mix (by kernel_rfl) hv rfl rfl (rfl)

noncomputable def cu_5xV (t : T) (x l : Int) (n : Nat) (f : Nat → Int) (a : Int) : Bool := (decide (l < 16) == false && true && true)
theorem cu_5x (t : T) (x l : Int) (n : Nat) (f : Nat → Int) (a : Int) (hv : cu_5xV t x l n f a = true) : Tr Try.prog 2 (ctB) (stW 2 3 (tmk (ctT t x l) 0 88) (rdH n f a)) (.exit 0) (stW 2 3 (tmk ([]) 0 88) (rdH n f a)) :=
  Tr.evW (n := ⟨1000000, [(14, false)]⟩) (N := 2) (keep := maskOf []) (nm := maskOf []) (vc := cu_5xV t x l n f a) envCU_ok mix (by kernel_rfl) hv rfl rfl (rfl)

noncomputable def cu_7V (t : T) (x l : Int) (n : Nat) (f : Nat → Int) (a : Int) : Bool := (holds (n = n ∧ RdIn n f a) && true && true && true)
theorem cu_7 (t : T) (x l : Int) (n : Nat) (f : Nat → Int) (a : Int) (hv : cu_7V t x l n f a = true) : Tr Try.prog 2 (cL ctY) (stW 2 3 (tmk (ctT t x l) 0 88) (rdH n f a)) (.normal) (stW 2 3 (tmk (ctT8 t x l (rdV n f a) (rdE n a)) 0 88) (rdH n f (rdA n a))) :=
  Tr.evW (n := ⟨1000000, []⟩) (N := 2) (keep := maskOf [0, 1, 6, 7, 8, 9]) (nm := maskOf [7]) (vc := cu_7V t x l n f a) envCU_ok mix (by kernel_rfl) hv rfl rfl (rfl)

noncomputable def cu_8V (t : T) (x l b e : Int) (n : Nat) (f : Nat → Int) (a : Int) : Bool := ((!e == 0) == false && true && true)
theorem cu_8 (t : T) (x l b e : Int) (n : Nat) (f : Nat → Int) (a : Int) (hv : cu_8V t x l b e n f a = true) : Tr Try.prog 2 (cL (cR ctY)) (stW 2 3 (tmk (ctT8 t x l b e) 0 88) (rdH n f a)) (.normal) (stW 2 3 (tmk (ctT9 t x l b) 0 88) (rdH n f a)) :=
  Tr.evW (n := ⟨1000000, [(23, false)]⟩) (N := 2) (keep := maskOf [0, 1, 6, 7, 8]) (nm := maskOf [7]) (vc := cu_8V t x l b e n f a) envCU_ok mix (by kernel_rfl) hv rfl rfl (rfl)

noncomputable def cu_8eV (t : T) (x l b e : Int) (n : Nat) (f : Nat → Int) (a : Int) : Bool := ((!e == 0) == true && true && true)
theorem cu_8e (t : T) (x l b e : Int) (n : Nat) (f : Nat → Int) (a : Int) (hv : cu_8eV t x l b e n f a = true) : Tr Try.prog 2 (cL (cR ctY)) (stW 2 3 (tmk (ctT8 t x l b e) 0 88) (rdH n f a)) (.ret) (stW 2 3 (tmk ([(4, .int .i64 0), (5, .int .i64 e)]) 0 88) (rdH n f a)) :=
  Tr.evW (n := ⟨1000000, [(23, true)]⟩) (N := 2) (keep := maskOf [4, 5]) (nm := maskOf []) (vc := cu_8eV t x l b e n f a) envCU_ok mix (by kernel_rfl) hv rfl rfl (rfl)

theorem cu_10 (t : T) (x l b : Int) (n : Nat) (f : Nat → Int) (a : Int) : Tr Try.prog 2 (cL (cR (cR ctY))) (stW 2 3 (tmk (ctT9 t x l b) 0 88) (rdH n f a)) (.normal) (stW 2 3 (tmk (ctT t (bits .or .u32 (shlI .u32 x 1) (IntKind.u32.wrap b)) l) 0 88) (rdH n f a)) :=
  Tr.evW (n := ⟨1000000, []⟩) (N := 2) (keep := maskOf [0, 1, 6, 7]) (nm := maskOf [7]) (vc := true) envCU_ok mix (by kernel_rfl) rfl rfl rfl (rfl)

noncomputable def cu_11V (N : Nat) (c w F : Nat → Int) (k : Nat → Nat) (g : Nat → Nat → Int) (z : Int) (x : Int) (j : Nat) (n : Nat) (f : Nat → Int) (a : Int) : Bool := (decide (0 ≤ (↑(j + 1) : Int) ∧ (↑(j + 1) : Int) < (↑16 : Int)) && decide ((↑(j + 1) : Int).toNat < 16) && (decide (0 ≤ IntKind.i64.wrap (IntKind.i64.wrap x - IntKind.i64.wrap (F (↑(j + 1) : Int).toNat)) ∧ IntKind.i64.wrap (IntKind.i64.wrap x - IntKind.i64.wrap (F (↑(j + 1) : Int).toNat)) < (↑(k (↑(j + 1) : Int).toNat) : Int)) && true) && (decide (IntKind.i64.wrap (IntKind.i64.wrap x - IntKind.i64.wrap (F (↑(j + 1) : Int).toNat)) ≥ 0) == true && ((false || decide (0 ≤ (↑(j + 1) : Int) ∧ (↑(j + 1) : Int) < (↑16 : Int)) && decide ((↑(j + 1) : Int).toNat < 16)) && (decide (IntKind.i64.wrap (IntKind.i64.wrap x - IntKind.i64.wrap (F (↑(j + 1) : Int).toNat)) < (↑(k (↑(j + 1) : Int).toNat) : Int)) == true && true)) && (decide (0 ≤ (↑(j + 1) : Int) ∧ (↑(j + 1) : Int) < (↑16 : Int)) && decide ((↑(j + 1) : Int).toNat < 16) && true && true)))
theorem cu_11 (N : Nat) (c w F : Nat → Int) (k : Nat → Nat) (g : Nat → Nat → Int) (z : Int) (x : Int) (j : Nat) (n : Nat) (f : Nat → Int) (a : Int) (hv : cu_11V N c w F k g z x j n f a = true) : Tr Try.prog 2 (cL ctZ) (stW 2 3 (tmk (ctT (codZ N c w F k g z) x ((j + 1 : Nat) : Int)) 0 88) (rdH n f a)) (.ret) (stW 2 3 (tmk ([(4, .int .i64 (g (j + 1) (IntKind.i64.wrap (IntKind.i64.wrap x - IntKind.i64.wrap (F (j + 1)))).toNat)), (5, .int .i64 0)]) 0 88) (rdH n f a)) :=
  Tr.evW (n := ⟨1000000, [(42, true), (52, true)]⟩) (N := 2) (keep := maskOf [4, 5]) (nm := maskOf []) (vc := cu_11V N c w F k g z x j n f a) envCU_ok mix (by kernel_rfl) hv rfl rfl (rfl)

noncomputable def cu_12aV (N : Nat) (c w F : Nat → Int) (k : Nat → Nat) (g : Nat → Nat → Int) (z : Int) (x : Int) (j : Nat) (n : Nat) (f : Nat → Int) (a : Int) : Bool := (decide (IntKind.i64.wrap (IntKind.i64.wrap x - IntKind.i64.wrap (F (↑(j + 1) : Int).toNat)) ≥ 0) == false && true && (decide (0 ≤ (↑(j + 1) : Int) ∧ (↑(j + 1) : Int) < (↑16 : Int)) && decide ((↑(j + 1) : Int).toNat < 16) && true && true))
theorem cu_12a (N : Nat) (c w F : Nat → Int) (k : Nat → Nat) (g : Nat → Nat → Int) (z : Int) (x : Int) (j : Nat) (n : Nat) (f : Nat → Int) (a : Int) (hv : cu_12aV N c w F k g z x j n f a = true) : Tr Try.prog 2 (cL ctZ) (stW 2 3 (tmk (ctT (codZ N c w F k g z) x ((j + 1 : Nat) : Int)) 0 88) (rdH n f a)) (.normal) (stW 2 3 (tmk (ctT (codZ N c w F k g z) x ((j + 1 : Nat) : Int)) 0 88) (rdH n f a)) :=
  Tr.evW (n := ⟨1000000, [(42, false), (52, false)]⟩) (N := 2) (keep := maskOf [0, 1, 6, 7]) (nm := maskOf [7]) (vc := cu_12aV N c w F k g z x j n f a) envCU_ok mix (by kernel_rfl) hv rfl rfl (rfl)

noncomputable def cu_12bV (N : Nat) (c w F : Nat → Int) (k : Nat → Nat) (g : Nat → Nat → Int) (z : Int) (x : Int) (j : Nat) (n : Nat) (f : Nat → Int) (a : Int) : Bool := (decide (IntKind.i64.wrap (IntKind.i64.wrap x - IntKind.i64.wrap (F (↑(j + 1) : Int).toNat)) ≥ 0) == true && ((false || decide (0 ≤ (↑(j + 1) : Int) ∧ (↑(j + 1) : Int) < (↑16 : Int)) && decide ((↑(j + 1) : Int).toNat < 16)) && (decide (IntKind.i64.wrap (IntKind.i64.wrap x - IntKind.i64.wrap (F (↑(j + 1) : Int).toNat)) < (↑(k (↑(j + 1) : Int).toNat) : Int)) == false && true)) && (decide (0 ≤ (↑(j + 1) : Int) ∧ (↑(j + 1) : Int) < (↑16 : Int)) && decide ((↑(j + 1) : Int).toNat < 16) && true && true))
theorem cu_12b (N : Nat) (c w F : Nat → Int) (k : Nat → Nat) (g : Nat → Nat → Int) (z : Int) (x : Int) (j : Nat) (n : Nat) (f : Nat → Int) (a : Int) (hv : cu_12bV N c w F k g z x j n f a = true) : Tr Try.prog 2 (cL ctZ) (stW 2 3 (tmk (ctT (codZ N c w F k g z) x ((j + 1 : Nat) : Int)) 0 88) (rdH n f a)) (.normal) (stW 2 3 (tmk (ctT (codZ N c w F k g z) x ((j + 1 : Nat) : Int)) 0 88) (rdH n f a)) :=
  Tr.evW (n := ⟨1000000, [(42, true), (52, false)]⟩) (N := 2) (keep := maskOf [0, 1, 6, 7]) (nm := maskOf [7]) (vc := cu_12bV N c w F k g z x j n f a) envCU_ok mix (by kernel_rfl) hv rfl rfl (rfl)

noncomputable def cu_14aV (N : Nat) (c w F : Nat → Int) (k : Nat → Nat) (g : Nat → Nat → Int) (z : Int) (x l : Int) (n : Nat) (f : Nat → Int) (a : Int) : Bool := (((↑(k (Int.toNat 1)) : Int) == 1) == false && true && true)
theorem cu_14a (N : Nat) (c w F : Nat → Int) (k : Nat → Nat) (g : Nat → Nat → Int) (z : Int) (x l : Int) (n : Nat) (f : Nat → Int) (a : Int) (hv : cu_14aV N c w F k g z x l n f a = true) : Tr Try.prog 2 (cR ctZ) (stW 2 3 (tmk (ctT (codZ N c w F k g z) x l) 0 88) (rdH n f a)) (.normal) (stW 2 3 (tmk (ctT (codZ N c w F k g z) x l) 0 88) (rdH n f a)) :=
  Tr.evW (n := ⟨1000000, [(69, false), (73, false), (87, false)]⟩) (N := 2) (keep := maskOf [0, 1, 6, 7]) (nm := maskOf [7]) (vc := cu_14aV N c w F k g z x l n f a) envCU_ok mix (by kernel_rfl) hv rfl rfl (rfl)

noncomputable def cu_14bV (N : Nat) (c w F : Nat → Int) (k : Nat → Nat) (g : Nat → Nat → Int) (z : Int) (x l : Int) (n : Nat) (f : Nat → Int) (a : Int) : Bool := (((↑(k (Int.toNat 1)) : Int) == 1) == true && ((x == 1) == false && true) && true)
theorem cu_14b (N : Nat) (c w F : Nat → Int) (k : Nat → Nat) (g : Nat → Nat → Int) (z : Int) (x l : Int) (n : Nat) (f : Nat → Int) (a : Int) (hv : cu_14bV N c w F k g z x l n f a = true) : Tr Try.prog 2 (cR ctZ) (stW 2 3 (tmk (ctT (codZ N c w F k g z) x l) 0 88) (rdH n f a)) (.normal) (stW 2 3 (tmk (ctT (codZ N c w F k g z) x l) 0 88) (rdH n f a)) :=
  Tr.evW (n := ⟨1000000, [(69, true), (73, false), (87, false)]⟩) (N := 2) (keep := maskOf [0, 1, 6, 7]) (nm := maskOf [7]) (vc := cu_14bV N c w F k g z x l n f a) envCU_ok mix (by kernel_rfl) hv rfl rfl (rfl)

noncomputable def cu_14cV (N : Nat) (c w F : Nat → Int) (k : Nat → Nat) (g : Nat → Nat → Int) (z : Int) (x l : Int) (n : Nat) (f : Nat → Int) (a : Int) : Bool := (((↑(k (Int.toNat 1)) : Int) == 1) == true && ((x == 1) == true && ((false || decide (-9223372036854775808 ≤ z + 1 ∧ z + 1 ≤ 9223372036854775807)) && (((↑N : Int) == z + 1) == false && true))) && true)
theorem cu_14c (N : Nat) (c w F : Nat → Int) (k : Nat → Nat) (g : Nat → Nat → Int) (z : Int) (x l : Int) (n : Nat) (f : Nat → Int) (a : Int) (hv : cu_14cV N c w F k g z x l n f a = true) : Tr Try.prog 2 (cR ctZ) (stW 2 3 (tmk (ctT (codZ N c w F k g z) x l) 0 88) (rdH n f a)) (.normal) (stW 2 3 (tmk (ctT (codZ N c w F k g z) x l) 0 88) (rdH n f a)) :=
  Tr.evW (n := ⟨1000000, [(69, true), (73, true), (87, false)]⟩) (N := 2) (keep := maskOf [0, 1, 6, 7]) (nm := maskOf [7]) (vc := cu_14cV N c w F k g z x l n f a) envCU_ok mix (by kernel_rfl) hv rfl rfl (rfl)

noncomputable def cu_14dV (N : Nat) (c w F : Nat → Int) (k : Nat → Nat) (g : Nat → Nat → Int) (z : Int) (x l : Int) (n : Nat) (f : Nat → Int) (a : Int) : Bool := (((↑(k (Int.toNat 1)) : Int) == 1) == true && ((x == 1) == true && ((false || decide (-9223372036854775808 ≤ z + 1 ∧ z + 1 ≤ 9223372036854775807)) && (((↑N : Int) == z + 1) == true && true))) && true)
theorem cu_14d (N : Nat) (c w F : Nat → Int) (k : Nat → Nat) (g : Nat → Nat → Int) (z : Int) (x l : Int) (n : Nat) (f : Nat → Int) (a : Int) (hv : cu_14dV N c w F k g z x l n f a = true) : Tr Try.prog 2 (cR ctZ) (stW 2 3 (tmk (ctT (codZ N c w F k g z) x l) 0 88) (rdH n f a)) (.exit 0) (stW 2 3 (tmk ([]) 0 88) (rdH n f a)) :=
  Tr.evW (n := ⟨1000000, [(69, true), (73, true), (87, true)]⟩) (N := 2) (keep := maskOf []) (nm := maskOf []) (vc := cu_14dV N c w F k g z x l n f a) envCU_ok mix (by kernel_rfl) hv rfl rfl (rfl)

noncomputable def cu_6V (t : T) (x l : Int) (n : Nat) (f : Nat → Int) (a : Int) : Bool := (decide (-9223372036854775808 ≤ l + 1 ∧ l + 1 ≤ 9223372036854775807) && true && true)
theorem cu_6 (t : T) (x l : Int) (n : Nat) (f : Nat → Int) (a : Int) (hv : cu_6V t x l n f a = true) : Tr Try.prog 2 (cR (cR ctB)) (stW 2 3 (tmk (ctT t x l) 0 88) (rdH n f a)) (.normal) (stW 2 3 (tmk (ctT t x (l + 1)) 0 88) (rdH n f a)) :=
  Tr.evW (n := ⟨1000000, []⟩) (N := 2) (keep := maskOf [0, 1, 6, 7]) (nm := maskOf [7]) (vc := cu_6V t x l n f a) envCU_ok mix (by kernel_rfl) hv rfl rfl (rfl)

theorem cu_15 (n : Nat) (f : Nat → Int) (a : Int) : Tr Try.prog 2 (cR ctX) (stW 2 3 (tmk ([]) 0 88) (rdH n f a)) (.ret) (stW 2 3 (tmk ([(4, .int .i64 0), (5, .int .i64 130)]) 0 88) (rdH n f a)) :=
  Tr.evW (n := ⟨1000000, []⟩) (N := 2) (keep := maskOf [4, 5]) (nm := maskOf []) (vc := true) envCU_ok mix (by kernel_rfl) rfl rfl rfl (rfl)

end Go.Proofs.Ytjianphppcappaa

/-! huff.Code.Take of bytes that are told by a name, by its model. No condition. -/
namespace Go.Proofs.Ytjianphppcappaa
open Go.AE
set_option maxRecDepth 100000
noncomputable def cuS (C : Cd) (n : Nat) (f : Nat → Int) (j : Nat) (x : Int) (a : Nat) : St := stW 2 3 (tmk (ctT C.z x ((j + 1 : Nat) : Int)) 0 88) (rdH n f a)
/-- How it goes on from a length. -/
theorem cu_run {C : Cd} {n : Nat} {f : Nat → Int} (hC : CdIn C) (hn : n ≤ 1099511627) (hf : ∀ i, i < n → 0 ≤ f i ∧ f i < 256) : ∀ (d j : Nat) (x : Int) (a : Nat), j + d = 15 → 0 ≤ x ∧ x < 2 ^ j → a ≤ 8 * n →
    ∃ m, TrN Try.prog 2 ctB m (cuS C n f j x a) .ret (stW 2 3 (tmk [(4, .int .i64 (tkF C n f d j x a).1), (5, .int .i64 (tkF C n f d j x a).2.1)] 0 88) (rdH n f (tkF C n f d j x a).2.2)) ∨
      ((tkF C n f d j x a).1 = 0 ∧ (tkF C n f d j x a).2.1 = 130 ∧ TrN Try.prog 2 ctB m (cuS C n f j x a) (.exit 0) (stW 2 3 (tmk [] 0 88) (rdH n f (tkF C n f d j x a).2.2)))
  | 0, j, x, a, hj, hx, ha => by
    refine ⟨1, .inr ⟨rfl, rfl, TrN.done (n := 0) ?_ (by intro h; cases h)⟩⟩
    have h := cu_5x C.z x ((j + 1 : Nat) : Int) n f a (by unfold cu_5xV; rw [decide_eq_false (show ¬ (((j + 1 : Nat) : Int) < 16) by omega)]; rfl)
    exact h
  | d + 1, j, x, a, hj, hx, ha => by
    have hp := pow15 (k := j) (by omega)
    have hI : RdIn n f a := ⟨hn, hf, by omega⟩
    have h5 := cu_5 C.z x ((j + 1 : Nat) : Int) n f a (by unfold cu_5V; rw [decide_eq_true (show ((j + 1 : Nat) : Int) < 16 by omega)]; rfl)
    have h7 := cu_7 C.z x ((j + 1 : Nat) : Int) n f a (by unfold cu_7V; rw [holds_of (show n = n ∧ RdIn n f a from ⟨rfl, hI⟩)]; rfl)
    unfold cuS
    rw [tkF]
    by_cases h8 : 8 * n ≤ a
    · rw [if_pos h8]
      have e1 : rdE n a = 120 := by unfold rdE; rw [if_neg (by omega)]
      have e2 : rdA n a = a := by unfold rdA; rw [if_neg (by omega)]
      rw [e1, e2] at h7
      refine ⟨1, .inl (TrN.done (n := 0) ?_ (by intro h; cases h))⟩
      rw [ctB_eq]
      exact Tr.seq h5 (Tr.seqX (Tr.block (Tr.seq h7 (Tr.seqX (cu_8e C.z x ((j + 1 : Nat) : Int) _ 120 n f a rfl) (by intro h; cases h))) (by intro i h; cases h)) (by intro h; cases h))
    · rw [if_neg h8]
      have e1 : rdE n a = 0 := by unfold rdE; rw [if_pos (by omega)]
      have e2 : rdA n a = ((a + 1 : Nat) : Int) := by unfold rdA; rw [if_pos (by omega)]; omega
      have e3 : rdV n f a = bitF f a := by unfold rdV; rw [if_pos (by omega), Int.toNat_natCast]
      rw [e1, e2, e3] at h7
      have hb := bit01 f a
      have h10 := cu_10 C.z x ((j + 1 : Nat) : Int) (bitF f a) n f ((a + 1 : Nat) : Int)
      rw [join32 (by omega) hb] at h10
      have hx2 : 0 ≤ 2 * x + bitF f a ∧ 2 * x + bitF f a < 2 ^ (j + 1) := by rw [Int.pow_succ]; omega
      have hp2 := pow15 (k := j + 1) (by omega)
      generalize hX : 2 * x + bitF f a = X at *
      have pre : ∀ {e : Ex} {s' : St}, Tr Try.prog 2 (.seq (cL ctZ) (cR ctZ)) (stW 2 3 (tmk (ctT C.z X ((j + 1 : Nat) : Int)) 0 88) (rdH n f ((a + 1 : Nat) : Int))) e s' →
          Tr Try.prog 2 (.seq (cL ctY) (.seq (cL (cR ctY)) (.seq (cL (cR (cR ctY))) (.seq (cL ctZ) (cR ctZ))))) (stW 2 3 (tmk (ctT C.z x ((j + 1 : Nat) : Int)) 0 88) (rdH n f a)) e s' := fun h =>
        Tr.seq h7 (Tr.seq (cu_8 C.z x ((j + 1 : Nat) : Int) _ 0 n f _ rfl) (Tr.seq h10 h))
      have hF := hC.F (j + 1) (by omega)
      have hk := hC.k (j + 1)
      have eA : IntKind.i64.wrap (IntKind.i64.wrap X - IntKind.i64.wrap (C.F (j + 1))) = X - C.F (j + 1) := by
        rw [IntKind.wrap_i64 X, IntKind.wrap_i64 (C.F (j + 1)), IntKind.wrap_i64]; omega
      have dl : decide (0 ≤ ((j + 1 : Nat) : Int) ∧ ((j + 1 : Nat) : Int) < 16) = true := decide_eq_true (by omega)
      have dl2 : decide (((j + 1 : Nat) : Int).toNat < 16) = true := decide_eq_true (by omega)
      by_cases hh : C.hit (j + 1) X
      · rw [if_pos hh]
        refine ⟨1, .inl (TrN.done (n := 0) ?_ (by intro h; cases h))⟩
        rw [ctB_eq]
        have h11 := cu_11 C.N C.c C.w C.F C.k C.g (C.k 0) X j n f ((a + 1 : Nat) : Int) (by
          unfold cu_11V
          rw [dl, dl2, Int.toNat_natCast, eA, decide_eq_true (show 0 ≤ X - C.F (j + 1) ∧ X - C.F (j + 1) < (C.k (j + 1) : Int) from hh), decide_eq_true (show X - C.F (j + 1) ≥ 0 from hh.1), decide_eq_true hh.2]; rfl)
        rw [eA] at h11
        exact Tr.seq h5 (Tr.seqX (Tr.block (pre (Tr.seqX h11 (by intro h; cases h))) (by intro i h; cases h)) (by intro h; cases h))
      · rw [if_neg hh]
        have h12 : Tr Try.prog 2 (cL ctZ) (stW 2 3 (tmk (ctT C.z X ((j + 1 : Nat) : Int)) 0 88) (rdH n f ((a + 1 : Nat) : Int))) .normal (stW 2 3 (tmk (ctT C.z X ((j + 1 : Nat) : Int)) 0 88) (rdH n f ((a + 1 : Nat) : Int))) := by
          by_cases h0 : X - C.F (j + 1) ≥ 0
          · exact cu_12b C.N C.c C.w C.F C.k C.g (C.k 0) X j n f ((a + 1 : Nat) : Int) (by
              unfold cu_12bV
              rw [dl, dl2, Int.toNat_natCast, eA, decide_eq_true h0, decide_eq_false (show ¬ X - C.F (j + 1) < (C.k (j + 1) : Int) from fun h => hh ⟨h0, h⟩)]; rfl)
          · exact cu_12a C.N C.c C.w C.F C.k C.g (C.k 0) X j n f ((a + 1 : Nat) : Int) (by
              unfold cu_12aV
              rw [dl, dl2, Int.toNat_natCast, eA, decide_eq_false h0]; rfl)
        have hz : decide (-9223372036854775808 ≤ ((C.k 0 : Nat) : Int) + 1 ∧ ((C.k 0 : Nat) : Int) + 1 ≤ 9223372036854775807) = true := decide_eq_true (by have := hC.k 0; omega)
        by_cases hs : C.stop X
        · rw [if_pos hs]
          refine ⟨1, .inr ⟨rfl, rfl, TrN.done (n := 0) ?_ (by intro h; cases h)⟩⟩
          rw [ctB_eq]
          obtain ⟨s1, s2, s3⟩ := hs
          have h14 := cu_14d C.N C.c C.w C.F C.k C.g (C.k 0) X ((j + 1 : Nat) : Int) n f ((a + 1 : Nat) : Int) (by
            unfold cu_14dV
            rw [show (1 : Int).toNat = 1 from rfl, hz, s1, s2, s3]
            simp)
          exact Tr.seq h5 (Tr.seqX (Tr.block (pre (Tr.seq h12 h14)) (by intro i h; cases h; decide)) (by intro h; cases h))
        · rw [if_neg hs]
          have h14 : Tr Try.prog 2 (cR ctZ) (stW 2 3 (tmk (ctT C.z X ((j + 1 : Nat) : Int)) 0 88) (rdH n f ((a + 1 : Nat) : Int))) .normal (stW 2 3 (tmk (ctT C.z X ((j + 1 : Nat) : Int)) 0 88) (rdH n f ((a + 1 : Nat) : Int))) := by
            by_cases s1 : C.k 1 = 1
            · by_cases s2 : X = 1
              · have s3 : ¬ C.N = C.k 0 + 1 := fun h => hs ⟨s1, s2, h⟩
                exact cu_14c C.N C.c C.w C.F C.k C.g (C.k 0) X ((j + 1 : Nat) : Int) n f ((a + 1 : Nat) : Int) (by
                  unfold cu_14cV
                  rw [show (1 : Int).toNat = 1 from rfl, hz, s1, s2, beq_eq_false_iff_ne.2 (show (C.N : Int) ≠ (C.k 0 : Int) + 1 by omega)]
                  rfl)
              · exact cu_14b C.N C.c C.w C.F C.k C.g (C.k 0) X ((j + 1 : Nat) : Int) n f ((a + 1 : Nat) : Int) (by
                  unfold cu_14bV
                  rw [show (1 : Int).toNat = 1 from rfl, s1, beq_eq_false_iff_ne.2 s2]
                  rfl)
            · exact cu_14a C.N C.c C.w C.F C.k C.g (C.k 0) X ((j + 1 : Nat) : Int) n f ((a + 1 : Nat) : Int) (by
                unfold cu_14aV
                rw [show (1 : Int).toNat = 1 from rfl, beq_eq_false_iff_ne.2 (show ((C.k 1 : Nat) : Int) ≠ 1 by omega)]
                rfl)
          have h6 := cu_6 C.z X ((j + 1 : Nat) : Int) n f ((a + 1 : Nat) : Int) (by
            unfold cu_6V
            rw [decide_eq_true (show -9223372036854775808 ≤ ((j + 1 : Nat) : Int) + 1 ∧ ((j + 1 : Nat) : Int) + 1 ≤ 9223372036854775807 by omega)]; rfl)
          have hstep : Tr Try.prog 2 ctB (stW 2 3 (tmk (ctT C.z x ((j + 1 : Nat) : Int)) 0 88) (rdH n f a)) .normal (cuS C n f (j + 1) X (a + 1)) := by
            rw [ctB_eq]
            exact Tr.seq h5 (Tr.seq (Tr.block (pre (Tr.seq h12 h14)) (by intro i h; cases h)) h6)
          obtain ⟨m, hm⟩ := cu_run hC hn hf d (j + 1) X (a + 1) (by omega) hx2 (by omega)
          rcases hm with hm | ⟨g1, g2, hm⟩
          · exact ⟨m + 1, .inl (TrN.next hstep hm)⟩
          · exact ⟨m + 1, .inr ⟨g1, g2, TrN.next hstep hm⟩⟩
theorem cu_all {C : Cd} {n : Nat} {f : Nat → Int} {a : Nat} (hC : CdIn C) (hn : n ≤ 1099511627) (hf : ∀ i, i < n → 0 ≤ f i ∧ f i < 256) (ha : a ≤ 8 * n) :
    Tr Try.prog 2 ctC (stW 2 3 ([.fp C.t, .ptr 0 []] ++ undefs 86) (rdH n f a)) .ret (stW 2 3 (tmk [(4, .int .i64 (tkF C n f 15 0 0 a).1), (5, .int .i64 (tkF C n f 15 0 0 a).2.1)] 0 88) (rdH n f (tkF C n f 15 0 0 a).2.2)) := by
  refine Tr.weak0 (s := stW 2 3 ([.fp C.z, .ptr 0 []] ++ undefs 86) (rdH n f a)) ?_ (St.leL (L := [(0, .fp C.t), (1, .ptr 0 [])]) (L' := [(0, .fp C.z), (1, .ptr 0 [])]) (n := 88) ⟨rfl, fp_le (z_le C), rfl, fun _ _ h => h, trivial⟩ (LeG.refl _) fun _ _ _ => rfl)
  refine Tr.preW envCU_ok mix 3 3 (maskOf [0, 1, 6]) (maskOf []) (cu_0 C.z n f a) rfl rfl ?_
  show Tr Try.prog 2 ctX _ _ _
  rw [ctX_eq]
  obtain ⟨m, hm⟩ := cu_run hC hn hf 15 0 0 a rfl (by decide) ha
  rcases hm with hm | ⟨g1, g2, hm⟩
  · exact Tr.seqX (Tr.seq (cu_4 C.z 0 n f a) (Tr.block (Tr.loop hm) (by intro i h; cases h))) (by intro h; cases h)
  · rw [g1, g2]
    exact Tr.seq (Tr.seq (cu_4 C.z 0 n f a) (Tr.blockX (Tr.loop hm))) (cu_15 n f _)
noncomputable def TakeSM : Model
  | [.fp (.cons (.fsi .i64 N c none) (.cons (.fsi .u32 N' w (some N'')) (.cons (.ints .u32 16 F) (.cons (.rows 16 1 H) .nil)))), .ptr 0 []], [some (.cons (.slice 1 [] 0 1 n none) (.cons (.int .i64 a) .nil)), some (.ints .u8 n'' f)] =>
    some ⟨holds (n'' = n ∧ N' = N ∧ N'' = N ∧ (∀ l, H l = .fsi .i64 (kOf H l) (gOf H l) none) ∧ CdIn (cdOf N c w F H) ∧ RdIn n f a),
      .tup (.cons (.int .i64 (tkF (cdOf N c w F H) n f 15 0 0 a.toNat).1) (.cons (.int .i64 (tkF (cdOf N c w F H) n f 15 0 0 a.toNat).2.1) .nil)), [some (rdS n (tkF (cdOf N c w F H) n f 15 0 0 a.toNat).2.2), some (.ints .u8 n'' f)], 3, 3⟩
  | _, _ => none
theorem TakeS_ok : SoundL Try.prog 22 TakeSM := by
  refine SoundL.of_tr (fn := Try.f22) (c := ctC) (by kernel_rfl) (by kernel_rfl) (by kernel_rfl) (fun args G r hm => ?_) fun args G r hm hvc => ?_
  · unfold TakeSM at hm
    split at hm
    · cases hm; exact stat2 (Nat.le_refl _)
    · cases hm
  · unfold TakeSM at hm
    split at hm
    · rename_i N c N' w N'' F H n a n'' f
      cases hm
      obtain ⟨q3, q1, q2, hH, hC, hR⟩ := of_holds hvc
      subst q1
      subst q2
      subst q3
      obtain ⟨A, rfl⟩ := Int.eq_ofNat_of_zero_le hR.place.1
      have hp := hR.place
      have h := cu_all (a := A) hC hR.len hR.byte (by omega)
      have eC : (cdOf N'' c w F H).t = .cons (.fsi .i64 N'' c none) (.cons (.fsi .u32 N'' w (some N'')) (.cons (.ints .u32 16 F) (.cons (.rows 16 1 H) .nil))) := by
        unfold cdOf Cd.t
        rw [show (fun l => T.fsi .i64 (kOf H l) (gOf H l) none) = H from funext fun l => (hH l).symm]
      rw [eC] at h
      refine ⟨.ret, _, [.int .i64 (tkF (cdOf N'' c w F H) n'' f 15 0 0 A).1, .int .i64 (tkF (cdOf N'' c w F H) n'' f 15 0 0 A).2.1], 0, .inl rfl, Tr.widen0 (s := stW 2 0 ([.fp (.cons (.fsi .i64 N'' c none) (.cons (.fsi .u32 N'' w (some N'')) (.cons (.ints .u32 16 F) (.cons (.rows 16 1 H) .nil)))), .ptr 0 []] ++ undefs 86) (rdH n'' f A)) (W := 3) h (fun j _ h => by simp [stW] at h) (fun j hj h => mask_bit hj), rfl, ?_, ?_, rfl⟩
      · rw [Int.toNat_natCast]; rfl
      · rw [Int.toNat_natCast]; rfl
    · cases hm
end Go.Proofs.Ytjianphppcappaa

/-! HuffLower: its parts. No condition. -/
namespace Go.Proofs.Ytjianphppcappaa
open Go.AE
set_option maxRecDepth 100000
noncomputable def envL : Env := (envN.set 14 (lift 0 LenV)).set 16 (lift 0 RefRoomV)
theorem envL_ok : EnvOK Try.prog envL := (envN_ok.set (Len_ok.lift 0)).set (RefRoom_ok.lift 0)
noncomputable def envLO : Env := envL.set 14 (lift 0 LenOneV)
theorem envLO_ok : EnvOK Try.prog envLO := envL_ok.set (LenOne_ok.lift 0)
noncomputable def envLE : Env := envL.set 14 (lift 0 LenErrV)
theorem envLE_ok : EnvOK Try.prog envLE := envL_ok.set (LenErr_ok.lift 0)
noncomputable def envC : Env := envL.set 15 (lift 0 CostV)
theorem envC_ok : EnvOK Try.prog envC := envL_ok.set (Cost_ok.lift 0)
noncomputable def envCB : Env := envL.set 15 (lift 0 CostBadV)
theorem envCB_ok : EnvOK Try.prog envCB := envL_ok.set (CostBad_ok.lift 0)
noncomputable def lwC : Code := bodyC Try.f5
noncomputable def lwY : Code := cR (cR (cR lwC))
noncomputable def lwZ : Code := postC 4 lwY
noncomputable def lwB : Code := cB (cB (cR (cL lwZ)))
noncomputable def lwW : Code := cR (cR lwZ)
section
variable (N N' : Nat) (c o : Nat → Int) (m : Int)
def lwT : List (Nat × T) := [(0, .fsi .u32 N c none), (1, .num m), (2, .fsi .i64 N' o none), (7, .bool true)]
def lwT1 (k : Int) : List (Nat × T) := [(0, .fsi .u32 N c none), (1, .num m), (2, .fsi .i64 N' o none), (7, .bool true), (8, outS N 0), (10, .num k)]
def lwT2 (k i : Int) : List (Nat × T) := [(0, .fsi .u32 N c none), (1, .num m), (2, .fsi .i64 N' o none), (7, .bool true), (8, outS N 0), (10, .num k), (11, .num i)]
def lwT3 (k s : Int) : List (Nat × T) := [(0, .fsi .u32 N c none), (1, .num m), (2, .fsi .i64 N' o none), (7, .bool true), (10, .num k), (12, .int .u64 s), (13, .bool true)]
def retT : List (Nat × T) := [(6, .bool true)]
end
def liG (N : Nat) (l : Nat → Int) : Heap := [some (.ints .i64 N l)]

theorem lw_0 (N N' : Nat) (c o : Nat → Int) (m : Int) : (evCode Try.prog envL ⟨1000000, []⟩ (preC 2 (lwC)) (stW 0 0 (tmk ([(0, .fsi .u32 N c none), (1, .int .i64 m), (2, .fsi .i64 N' o none)]) 0 101) ([]))).map (cutPW 0 0 (maskOf [0, 1, 2, 7]) (maskOf [1])) =
    some (.normal, true, (tmk (lwT N N' c o m) 0 101), [], true) := by kernel_rfl

noncomputable def lw_1V (N N' : Nat) (c o : Nat → Int) (m : Int) : Bool := (decide ((↑N : Int) > 60) == true && true && true)
theorem lw_1 (N N' : Nat) (c o : Nat → Int) (m : Int) (hv : lw_1V N N' c o m = true) : Tr Try.prog 0 (cL (cR (cR lwC))) (stW 0 0 (tmk (lwT N N' c o m) 0 101) ([])) (.ret) (stW 0 0 (tmk (retT) 0 101) ([])) :=
  Tr.evW (n := ⟨1000000, [(20, true), (27, true), (31, true), (34, true)]⟩) (N := 0) (keep := maskOf [6]) (nm := maskOf []) (vc := lw_1V N N' c o m) envL_ok mix (by kernel_rfl) hv rfl rfl (rfl)

noncomputable def lw_2V (N N' : Nat) (c o : Nat → Int) (m : Int) : Bool := (decide ((↑N : Int) > 60) == false && ((!(↑N' : Int) == (↑N : Int)) == true && true) && true)
theorem lw_2 (N N' : Nat) (c o : Nat → Int) (m : Int) (hv : lw_2V N N' c o m = true) : Tr Try.prog 0 (cL (cR (cR lwC))) (stW 0 0 (tmk (lwT N N' c o m) 0 101) ([])) (.ret) (stW 0 0 (tmk (retT) 0 101) ([])) :=
  Tr.evW (n := ⟨1000000, [(20, false), (27, true), (31, true), (34, true)]⟩) (N := 0) (keep := maskOf [6]) (nm := maskOf []) (vc := lw_2V N N' c o m) envL_ok mix (by kernel_rfl) hv rfl rfl (rfl)

noncomputable def lw_3V (N N' : Nat) (c o : Nat → Int) (m : Int) : Bool := (decide ((↑N : Int) > 60) == false && ((!(↑N' : Int) == (↑N : Int)) == false && (decide (m < 1) == true && true)) && true)
theorem lw_3 (N N' : Nat) (c o : Nat → Int) (m : Int) (hv : lw_3V N N' c o m = true) : Tr Try.prog 0 (cL (cR (cR lwC))) (stW 0 0 (tmk (lwT N N' c o m) 0 101) ([])) (.ret) (stW 0 0 (tmk (retT) 0 101) ([])) :=
  Tr.evW (n := ⟨1000000, [(20, false), (27, false), (31, true), (34, true)]⟩) (N := 0) (keep := maskOf [6]) (nm := maskOf []) (vc := lw_3V N N' c o m) envL_ok mix (by kernel_rfl) hv rfl rfl (rfl)

noncomputable def lw_4V (N N' : Nat) (c o : Nat → Int) (m : Int) : Bool := (decide ((↑N : Int) > 60) == false && ((!(↑N' : Int) == (↑N : Int)) == false && (decide (m < 1) == false && (decide (m > 15) == true && true))) && true)
theorem lw_4 (N N' : Nat) (c o : Nat → Int) (m : Int) (hv : lw_4V N N' c o m = true) : Tr Try.prog 0 (cL (cR (cR lwC))) (stW 0 0 (tmk (lwT N N' c o m) 0 101) ([])) (.ret) (stW 0 0 (tmk (retT) 0 101) ([])) :=
  Tr.evW (n := ⟨1000000, [(20, false), (27, false), (31, false), (34, true)]⟩) (N := 0) (keep := maskOf [6]) (nm := maskOf []) (vc := lw_4V N N' c o m) envL_ok mix (by kernel_rfl) hv rfl rfl (rfl)

noncomputable def lw_5V (N N' : Nat) (c o : Nat → Int) (m : Int) : Bool := (decide ((↑N : Int) > 60) == false && ((!(↑N' : Int) == (↑N : Int)) == false && (decide (m < 1) == false && (decide (m > 15) == false && true))) && true)
theorem lw_5 (N N' : Nat) (c o : Nat → Int) (m : Int) (hv : lw_5V N N' c o m = true) : Tr Try.prog 0 (cL (cR (cR lwC))) (stW 0 0 (tmk (lwT N N' c o m) 0 101) ([])) (.normal) (stW 0 0 (tmk (lwT N N' c o m) 0 101) ([])) :=
  Tr.evW (n := ⟨1000000, [(20, false), (27, false), (31, false), (34, false)]⟩) (N := 0) (keep := maskOf [0, 1, 2, 7]) (nm := maskOf [1]) (vc := lw_5V N N' c o m) envL_ok mix (by kernel_rfl) hv rfl rfl (rfl)

noncomputable def lw_6V (N N' : Nat) (c o : Nat → Int) (m : Int) : Bool := (holds (N ≤ 1000 ∧ (∀ (i : Nat), i < N → 0 ≤ c i ∧ c i < 4294967296) ∧ (m < 1 ∨ m > 15 ∨ (leafs c N).length > 2 ^ m.toNat)) && true && true && true)
theorem lw_6 (N N' : Nat) (c o : Nat → Int) (m : Int) (hv : lw_6V N N' c o m = true) : Tr Try.prog 0 (lwY) (stW 0 0 (tmk (lwT N N' c o m) 0 101) ([])) (.ret) (stW 0 0 (tmk (retT) 0 101) ([])) :=
  Tr.evW (n := ⟨1000000, []⟩) (N := 0) (keep := maskOf [6]) (nm := maskOf []) (vc := lw_6V N N' c o m) envLE_ok mix (by kernel_rfl) hv rfl rfl (rfl)

noncomputable def lw_7V (N N' : Nat) (c o : Nat → Int) (m : Int) : Bool := ((!(↑N : Int) == (↑N : Int)) == false && true && (holds (LnIn N c m ∧ (leafs c N).length ≠ 1) && true && true && true))
theorem lw_7 (N N' : Nat) (c o : Nat → Int) (m : Int) : (evCode Try.prog envL ⟨1000000, [(53, false)]⟩ (preC 4 (lwY)) (stW 0 0 (tmk (lwT N N' c o m) 0 101) ([]))).map (cutPW 0 0 (maskOf [0, 1, 2, 7, 8, 10]) (maskOf [1, 10])) =
    some (.normal, lw_7V N N' c o m, (tmk (lwT1 N N' c o m 0) 0 101), liG N (lenN c N m.toNat), true) := by kernel_rfl

noncomputable def lw_8V (N N' : Nat) (c o : Nat → Int) (m : Int) : Bool := ((!(↑N : Int) == (↑N : Int)) == false && true && (holds (LnIn N c m ∧ (leafs c N).length = 1) && true && true && true))
theorem lw_8 (N N' : Nat) (c o : Nat → Int) (m : Int) : (evCode Try.prog envLO ⟨1000000, [(53, false)]⟩ (preC 4 (lwY)) (stW 0 0 (tmk (lwT N N' c o m) 0 101) ([]))).map (cutPW 0 0 (maskOf [0, 1, 2, 7, 8, 10]) (maskOf [1, 10])) =
    some (.normal, lw_8V N N' c o m, (tmk (lwT1 N N' c o m 0) 0 101), liG N (oneF (theOne c N)), true) := by kernel_rfl

theorem lw_10 (N N' : Nat) (c o : Nat → Int) (m : Int) (l : Nat → Int) (k : Int) : Tr Try.prog 0 (cL (cL lwZ)) (stW 0 0 (tmk (lwT1 N N' c o m k) 0 101) (liG N l)) (.normal) (stW 0 0 (tmk (lwT2 N N' c o m k 0) 0 101) (liG N l)) :=
  Tr.evW (n := ⟨1000000, []⟩) (N := 1) (keep := maskOf [0, 1, 2, 7, 8, 10, 11]) (nm := maskOf [1, 10, 11]) (vc := true) envL_ok mix (by kernel_rfl) rfl rfl rfl (rfl)

noncomputable def lw_11V (N N' : Nat) (c o : Nat → Int) (m : Int) (l : Nat → Int) (k i : Int) : Bool := (decide (-9223372036854775808 ≤ i + 1 ∧ i + 1 ≤ 9223372036854775807) && true && (decide (-9223372036854775808 ≤ k + 1 ∧ k + 1 ≤ 9223372036854775807) && true && (decide (0 ≤ i ∧ i < (↑N : Int)) && (decide (c i.toNat > 0) == true && true) && (decide (i < (↑N : Int)) == true && true && true))))
theorem lw_11 (N N' : Nat) (c o : Nat → Int) (m : Int) (l : Nat → Int) (k i : Int) (hv : lw_11V N N' c o m l k i = true) : Tr Try.prog 0 (lwB) (stW 0 0 (tmk (lwT2 N N' c o m k i) 0 101) (liG N l)) (.normal) (stW 0 0 (tmk (lwT2 N N' c o m (k + 1) (i + 1)) 0 101) (liG N l)) :=
  Tr.evW (n := ⟨1000000, [(57, true), (64, true)]⟩) (N := 1) (keep := maskOf [0, 1, 2, 7, 8, 10, 11]) (nm := maskOf [1, 10, 11]) (vc := lw_11V N N' c o m l k i) envL_ok mix (by kernel_rfl) hv rfl rfl (rfl)

noncomputable def lw_12V (N N' : Nat) (c o : Nat → Int) (m : Int) (l : Nat → Int) (k i : Int) : Bool := (decide (-9223372036854775808 ≤ i + 1 ∧ i + 1 ≤ 9223372036854775807) && true && (decide (0 ≤ i ∧ i < (↑N : Int)) && (decide (c i.toNat > 0) == false && true) && (decide (i < (↑N : Int)) == true && true && true)))
theorem lw_12 (N N' : Nat) (c o : Nat → Int) (m : Int) (l : Nat → Int) (k i : Int) (hv : lw_12V N N' c o m l k i = true) : Tr Try.prog 0 (lwB) (stW 0 0 (tmk (lwT2 N N' c o m k i) 0 101) (liG N l)) (.normal) (stW 0 0 (tmk (lwT2 N N' c o m k (i + 1)) 0 101) (liG N l)) :=
  Tr.evW (n := ⟨1000000, [(57, true), (64, false)]⟩) (N := 1) (keep := maskOf [0, 1, 2, 7, 8, 10, 11]) (nm := maskOf [1, 10, 11]) (vc := lw_12V N N' c o m l k i) envL_ok mix (by kernel_rfl) hv rfl rfl (rfl)

noncomputable def lw_13V (N N' : Nat) (c o : Nat → Int) (m : Int) (l : Nat → Int) (k i : Int) : Bool := (decide (i < (↑N : Int)) == false && true && true)
theorem lw_13 (N N' : Nat) (c o : Nat → Int) (m : Int) (l : Nat → Int) (k i : Int) (hv : lw_13V N N' c o m l k i = true) : Tr Try.prog 0 (lwB) (stW 0 0 (tmk (lwT2 N N' c o m k i) 0 101) (liG N l)) (.exit 0) (stW 0 0 (tmk (lwT1 N N' c o m k) 0 101) (liG N l)) :=
  Tr.evW (n := ⟨1000000, [(57, false)]⟩) (N := 1) (keep := maskOf [0, 1, 2, 7, 8, 10]) (nm := maskOf [1, 10]) (vc := lw_13V N N' c o m l k i) envL_ok mix (by kernel_rfl) hv rfl rfl (rfl)

noncomputable def lw_15V (N N' : Nat) (c o : Nat → Int) (m : Int) (l : Nat → Int) (k : Int) : Bool := (decide (0 + N ≤ N) && N.ble N && true && true && (holds (N = N ∧ CoIn N c m ∧ mayL N c (fun j => l (0 + j)) m) && true) && true && true)
theorem lw_15 (N N' : Nat) (c o : Nat → Int) (m : Int) (l : Nat → Int) (k : Int) (hv : lw_15V N N' c o m l k = true) : Tr Try.prog 0 (cL (cR lwZ)) (stW 0 0 (tmk (lwT1 N N' c o m k) 0 101) (liG N l)) (.normal) (stW 0 0 (tmk (lwT3 N N' c o m k (coI c (fun j => l (0 + j)) N)) 0 101) (liG N l)) :=
  Tr.evW (n := ⟨1000000, []⟩) (N := 1) (keep := maskOf [0, 1, 2, 7, 10, 12, 13]) (nm := maskOf [1, 10]) (vc := lw_15V N N' c o m l k) envC_ok mix (by kernel_rfl) hv rfl rfl (rfl)

noncomputable def lw_16V (N N' : Nat) (c o : Nat → Int) (m : Int) (l : Nat → Int) (k s : Int) : Bool := (holds (N' = N ∧ CoIn N c m ∧ ¬mayL N c o m) && true && true && true)
theorem lw_16 (N N' : Nat) (c o : Nat → Int) (m : Int) (l : Nat → Int) (k s : Int) (hv : lw_16V N N' c o m l k s = true) : Tr Try.prog 0 (lwW) (stW 0 0 (tmk (lwT3 N N' c o m k s) 0 101) (liG N l)) (.ret) (stW 0 0 (tmk (retT) 0 101) (liG N l)) :=
  Tr.evW (n := ⟨1000000, []⟩) (N := 1) (keep := maskOf [6]) (nm := maskOf []) (vc := lw_16V N N' c o m l k s) envCB_ok mix (by kernel_rfl) hv rfl rfl (rfl)

noncomputable def lw_17V (N N' : Nat) (c o : Nat → Int) (m : Int) (l : Nat → Int) (k s : Int) : Bool := (decide (k < 2) == true && true && (holds (N' = N ∧ CoIn N c m ∧ mayL N c o m) && true && true && true))
theorem lw_17 (N N' : Nat) (c o : Nat → Int) (m : Int) (l : Nat → Int) (k s : Int) (hv : lw_17V N N' c o m l k s = true) : Tr Try.prog 0 (lwW) (stW 0 0 (tmk (lwT3 N N' c o m k s) 0 101) (liG N l)) (.ret) (stW 0 0 (tmk (retT) 0 101) (liG N l)) :=
  Tr.evW (n := ⟨1000000, [(89, true), (93, true)]⟩) (N := 1) (keep := maskOf [6]) (nm := maskOf []) (vc := lw_17V N N' c o m l k s) envC_ok mix (by kernel_rfl) hv rfl rfl (rfl)

noncomputable def lw_18V (N N' : Nat) (c o : Nat → Int) (m : Int) (l : Nat → Int) (k s : Int) : Bool := (decide (k < 2) == false && ((false || holds (N' ≤ 100000 ∧ lenOK N' o) && true) && (decide (rmI o N' > 32768) == true && true)) && (holds (N' = N ∧ CoIn N c m ∧ mayL N c o m) && true && true && true))
theorem lw_18 (N N' : Nat) (c o : Nat → Int) (m : Int) (l : Nat → Int) (k s : Int) (hv : lw_18V N N' c o m l k s = true) : Tr Try.prog 0 (lwW) (stW 0 0 (tmk (lwT3 N N' c o m k s) 0 101) (liG N l)) (.ret) (stW 0 0 (tmk (retT) 0 101) (liG N l)) :=
  Tr.evW (n := ⟨1000000, [(89, false), (93, true)]⟩) (N := 1) (keep := maskOf [6]) (nm := maskOf []) (vc := lw_18V N N' c o m l k s) envC_ok mix (by kernel_rfl) hv rfl rfl (rfl)

noncomputable def lw_19V (N N' : Nat) (c o : Nat → Int) (m : Int) (l : Nat → Int) (k s : Int) : Bool := ((decide (s ≤ coI c o N) == true || false) && true && (decide (k < 2) == false && ((false || holds (N' ≤ 100000 ∧ lenOK N' o) && true) && (decide (rmI o N' > 32768) == false && true)) && (holds (N' = N ∧ CoIn N c m ∧ mayL N c o m) && true && true && true)))
theorem lw_19 (N N' : Nat) (c o : Nat → Int) (m : Int) (l : Nat → Int) (k s : Int) (hv : lw_19V N N' c o m l k s = true) : Tr Try.prog 0 (lwW) (stW 0 0 (tmk (lwT3 N N' c o m k s) 0 101) (liG N l)) (.ret) (stW 0 0 (tmk (retT) 0 101) (liG N l)) :=
  Tr.evW (n := ⟨1000000, [(89, false), (93, false), (99, true)]⟩) (N := 1) (keep := maskOf [6]) (nm := maskOf []) (vc := lw_19V N N' c o m l k s) envC_ok mix (by kernel_rfl) hv rfl rfl (rfl)

theorem lwZ_eq : lwZ = .seq (.seq (cL (cL lwZ)) (.block 0 (.loop lwB))) (.seq (cL (cR lwZ)) lwW) := by kernel_rfl
theorem lwX_eq : postC 2 lwC = .seq (cL (cR (cR lwC))) lwY := by kernel_rfl
end Go.Proofs.Ytjianphppcappaa

/-! HuffLower. No condition. -/
namespace Go.Proofs.Ytjianphppcappaa
open Go.AE Go.Pm
set_option maxRecDepth 100000
theorem wf_u32 {x : Int} (h : (Lit.int .u32 x).wf = true) : 0 ≤ x ∧ x < 4294967296 := by
  simp [Lit.wf, IntKind.min, IntKind.max, IntKind.signed, IntKind.bits] at h
  omega
theorem wf_i64 {x : Int} (h : (Lit.int .i64 x).wf = true) : -9223372036854775808 ≤ x ∧ x ≤ 9223372036854775807 := by
  simp [Lit.wf, IntKind.min, IntKind.max, IntKind.signed, IntKind.bits] at h
  omega
theorem jsO_succ (c : Nat → Int) (n : Nat) : jsO c (n + 1) = jsO c n ++ if c n > 0 then [n] else [] := by
  unfold jsO
  rw [List.range_succ, List.filter_append]
  congr 1
  by_cases h : c n > 0
  · rw [if_pos h, List.filter_cons_of_pos (by simpa using h)]; rfl
  · rw [if_neg h, List.filter_cons_of_neg (by simpa using h)]; rfl
theorem leafs_lenS (c : Nat → Int) (n : Nat) : (leafs c (n + 1)).length = (leafs c n).length + if c n > 0 then 1 else 0 := by
  rw [leafs, List.length_append]
  split <;> rfl
theorem sI_co {c l : Nat → Int} : ∀ N, (∀ i, i < N → 0 ≤ c i) → sI (jsO c N) (fun j => c j * l j) = coI c l N
  | 0, _ => rfl
  | n + 1, h => by
    rw [jsO_succ, sI_app, sI_co n fun i hi => h i (by omega), coI]
    by_cases hc : c n > 0
    · rw [if_pos hc]; simp [sI]
    · have : c n = 0 := by have := h n (by omega); omega
      rw [if_neg hc, this]; simp [sI]
theorem sI_rm {c l : Nat → Int} : ∀ N, (∀ i, i < N → (l i > 0 ↔ c i > 0)) → sI (jsO c N) (fun j => 2 ^ (15 - (l j).toNat)) = rmI l N
  | 0, _ => rfl
  | n + 1, h => by
    rw [jsO_succ, sI_app, sI_rm n fun i hi => h i (by omega), rmI]
    have hn := h n (by omega)
    by_cases hc : c n > 0
    · rw [if_pos hc, if_pos (hn.2 hc)]; simp [sI]
    · rw [if_neg hc, if_neg (fun h => hc (hn.1 h))]; simp [sI]
/-- What Lengths tells may be. -/
theorem lenN_may {N M : Nat} {c : Nat → Int} (hI : LnIn N c M) (h1 : (leafs c N).length ≠ 1) : mayL N c (lenN c N M) M := by
  have hm := hI.m
  have hk := hI.k
  rw [Int.toNat_natCast] at hk
  intro i hi
  have hc := hI.cs i hi
  by_cases h2 : 2 ≤ (leafs c N).length
  · have hL := lenLaw hI.n hI.cs (M := M) (by omega) (by rw [jsO_len]; exact h2) (by rw [jsO_len]; exact hk)
    by_cases h0 : c i > 0
    · have := hL.some i hi h0
      exact ⟨by omega, this.2, ⟨fun h => by omega, fun h => by omega⟩⟩
    · have := hL.none i (fun h => h0 h.2)
      exact ⟨by omega, by omega, ⟨fun _ => by omega, fun _ => this⟩⟩
  · have h0 : (leafs c N).length = 0 := by omega
    have hc0 : ¬ c i > 0 := fun h => by
      have : leaf c i ∈ leafs c N := by
        clear hc hI h1 h2 hk
        induction N with
        | zero => omega
        | succ n ih =>
          rw [leafs_lenS] at h0
          rw [leafs]
          by_cases e : i = n
          · subst e; rw [if_pos h] at h0; omega
          · exact List.mem_append_left _ (ih (by omega) (by omega))
      rw [List.length_eq_zero_iff.1 h0] at this
      simp at this
    have hz : lenN c N M i = 0 := by
      unfold lenN
      rw [h0]; rfl
    exact ⟨by omega, by omega, ⟨fun _ => by omega, fun _ => hz⟩⟩
theorem oneF_eq (i j : Nat) : oneF i j = if j = i then 1 else 0 := by
  unfold oneF
  rw [Int.toNat_natCast, Nat.zero_add]
  by_cases h : j = i
  · subst h; rw [Nat.beq_refl, if_pos rfl]; rfl
  · have hb : Nat.beq j i = false := by
      cases hb : Nat.beq j i with
      | false => rfl
      | true => exact absurd (Nat.eq_of_beq_eq_true hb) h
    rw [hb, if_neg h]; rfl
theorem mem_leafs2 {c : Nat → Int} {i : Nat} : ∀ {n}, i < n → c i > 0 → leaf c i ∈ leafs c n
  | n + 1, h, hc => by
    rw [leafs]
    by_cases e : i = n
    · subst e; rw [if_pos hc]; exact List.mem_append_right _ (by simp)
    · exact List.mem_append_left _ (mem_leafs2 (by omega) hc)
theorem leaf_inj {c : Nat → Int} {i j : Nat} (h : leaf c i = leaf c j) : i = j := by
  unfold leaf chA at h
  simp at h
  omega
theorem one_pos {N : Nat} {c : Nat → Int} (h1 : (leafs c N).length = 1) : ∀ i, i < N → (c i > 0 ↔ i = theOne c N) := by
  obtain ⟨a, b⟩ := theOne_ok h1
  intro i hi
  constructor
  · intro h
    have := mem_leafs2 hi h
    rw [b] at this
    exact leaf_inj (List.mem_singleton.1 this)
  · rintro rfl
    have : leaf c (theOne c N) ∈ leafs c N := by rw [b]; simp
    obtain ⟨k, _, h2, h3⟩ := mem_leafs this
    rw [leaf_inj h3]; exact h2
theorem oneF_may {N M : Nat} {c : Nat → Int} (hI : LnIn N c M) (h1 : (leafs c N).length = 1) : mayL N c (oneF (theOne c N)) M := by
  have hm := hI.m
  intro i hi
  have hc := hI.cs i hi
  have hp := one_pos h1 i hi
  rw [oneF_eq]
  by_cases h : i = theOne c N
  · rw [if_pos h]
    have := hp.2 h
    exact ⟨by omega, by omega, ⟨fun h => by omega, fun h => by omega⟩⟩
  · rw [if_neg h]
    have : ¬ c i > 0 := fun h2 => h (hp.1 h2)
    exact ⟨by omega, by omega, ⟨fun _ => by omega, fun _ => rfl⟩⟩
theorem lw_loop {N N' : Nat} {c o l : Nat → Int} {m : Int} (hN : N ≤ 1000) : Tr Try.prog 0 (.seq (cL (cL lwZ)) (.block 0 (.loop lwB))) (stW 0 0 (tmk (lwT1 N N' c o m 0) 0 101) (liG N l)) .normal (stW 0 0 (tmk (lwT1 N N' c o m (leafs c N).length) 0 101) (liG N l)) := by
  refine Tr.seq (lw_10 N N' c o m l 0) ?_
  refine Tr.iter (n := N) (S := fun i => stW 0 0 (tmk (lwT2 N N' c o m ((leafs c i).length : Nat) (i : Nat)) 0 101) (liG N l)) (fun i hi => ?_) (lw_13 N N' c o m l _ N (by unfold lw_13V; simp))
  have hb := leafs_len c i
  by_cases h : c i > 0
  · have hs := lw_11 N N' c o m l ((leafs c i).length : Nat) i (by
      unfold lw_11V
      rw [Int.toNat_natCast]
      simp only [Bool.and_true, Bool.and_eq_true, decide_eq_true_eq, beq_iff_eq]
      omega)
    show Tr Try.prog 0 lwB _ _ (stW 0 0 (tmk (lwT2 N N' c o m ((leafs c (i + 1)).length : Nat) ((i + 1 : Nat) : Int)) 0 101) (liG N l))
    rw [show (((leafs c (i + 1)).length : Nat) : Int) = ((leafs c i).length : Nat) + 1 by rw [leafs_lenS, if_pos h]; omega]
    exact hs
  · have hs := lw_12 N N' c o m l ((leafs c i).length : Nat) i (by
      unfold lw_12V
      rw [Int.toNat_natCast]
      simp only [Bool.and_true, Bool.and_eq_true, decide_eq_true_eq, beq_iff_eq, decide_eq_false_iff_not]
      omega)
    show Tr Try.prog 0 lwB _ _ (stW 0 0 (tmk (lwT2 N N' c o m ((leafs c (i + 1)).length : Nat) ((i + 1 : Nat) : Int)) 0 101) (liG N l))
    rw [show (((leafs c (i + 1)).length : Nat) : Int) = ((leafs c i).length : Nat) by rw [leafs_lenS, if_neg h]; omega]
    exact hs
/-- The rest, of any lengths that may be and are no worse. -/
theorem lw_rest {N : Nat} {c o l : Nat → Int} {M : Nat} (hI : CoIn N c M) (hl : mayL N c l M)
    (hle : 2 ≤ (leafs c N).length → mayL N c o M → rmI o N ≤ 32768 → coI c l N ≤ coI c o N) :
    Tr Try.prog 0 lwZ (stW 0 0 (tmk (lwT1 N N c o M 0) 0 101) (liG N l)) .ret (stW 0 0 (tmk retT 0 101) (liG N l)) := by
  have hN := hI.n
  have hm := hI.m
  have hlen := leafs_len c N
  rw [lwZ_eq]
  refine Tr.seq (lw_loop hN) (Tr.seq (lw_15 N N c o M l _ ?_) ?_)
  · unfold lw_15V
    rw [holds_of (show N = N ∧ CoIn N c M ∧ mayL N c (fun j => l (0 + j)) M from ⟨rfl, hI, fun i hi => by
      show 0 ≤ l (0 + i) ∧ l (0 + i) ≤ M ∧ (l (0 + i) = 0 ↔ c i = 0)
      rw [Nat.zero_add]; exact hl i hi⟩), decide_eq_true (show 0 + N ≤ N by omega), show Nat.ble N N = true by simp]
    rfl
  · have es : coI c (fun j => l (0 + j)) N = coI c l N := by
      congr 1; funext j; rw [Nat.zero_add]
    rw [es]
    by_cases ho : mayL N c o M
    · have hH : holds (N = N ∧ CoIn N c M ∧ mayL N c o M) = true := holds_of ⟨rfl, hI, ho⟩
      by_cases h2 : 2 ≤ (leafs c N).length
      · have hL : holds (N ≤ 100000 ∧ lenOK N o) = true := holds_of ⟨by omega, fun i hi => by
          have := ho i hi
          omega⟩
        by_cases hr : rmI o N > 32768
        · exact lw_18 N N c o M l _ _ (by
            unfold lw_18V
            rw [hH, hL, decide_eq_false (show ¬ (((leafs c N).length : Nat) : Int) < 2 by omega), decide_eq_true hr]; rfl)
        · exact lw_19 N N c o M l _ _ (by
            unfold lw_19V
            rw [hH, hL, decide_eq_false (show ¬ (((leafs c N).length : Nat) : Int) < 2 by omega), decide_eq_false hr, decide_eq_true (hle h2 ho (by omega))]; rfl)
      · exact lw_17 N N c o M l _ _ (by
          unfold lw_17V
          rw [hH, decide_eq_true (show (((leafs c N).length : Nat) : Int) < 2 by omega)]; rfl)
    · exact lw_16 N N c o M l _ _ (by
        unfold lw_16V
        rw [holds_of (show N = N ∧ CoIn N c M ∧ ¬ mayL N c o M from ⟨rfl, hI, ho⟩)]; rfl)
theorem lw_all {N N' : Nat} {c o : Nat → Int} {m : Int} (hc : ∀ i, 0 ≤ c i ∧ c i < 4294967296) :
    Tr Try.prog 0 lwC (stW 0 0 ([.fsi .u32 N c none, .int .i64 m, .fsi .i64 N' o none] ++ undefs 98) []) .ret (stW 0 0 (tmk retT 0 101) []) := by
  refine Tr.preW envL_ok mix 0 2 (maskOf [0, 1, 2, 7]) (maskOf [1]) (lw_0 N N' c o m) rfl rfl ?_
  rw [lwX_eq]
  by_cases h1 : (N : Int) > 60
  · exact Tr.seqX (lw_1 N N' c o m (by unfold lw_1V; rw [decide_eq_true h1]; rfl)) (by intro h; cases h)
  by_cases h2 : ¬ (N' : Int) = N
  · exact Tr.seqX (lw_2 N N' c o m (by unfold lw_2V; rw [decide_eq_false h1, beq_eq_false_iff_ne.2 h2]; rfl)) (by intro h; cases h)
  have h2' : N' = N := by omega
  subst h2'
  have hbb : ((N' : Int) == N') = true := by simp
  by_cases h3 : m < 1
  · exact Tr.seqX (lw_3 N' N' c o m (by unfold lw_3V; rw [decide_eq_false h1, hbb, decide_eq_true h3]; rfl)) (by intro h; cases h)
  by_cases h4 : m > 15
  · exact Tr.seqX (lw_4 N' N' c o m (by unfold lw_4V; rw [decide_eq_false h1, hbb, decide_eq_false h3, decide_eq_true h4]; rfl)) (by intro h; cases h)
  refine Tr.seq (lw_5 N' N' c o m (by unfold lw_5V; rw [decide_eq_false h1, hbb, decide_eq_false h3, decide_eq_false h4]; rfl)) ?_
  obtain ⟨M, rfl⟩ := Int.eq_ofNat_of_zero_le (show 0 ≤ m by omega)
  by_cases hk : (leafs c N').length > 2 ^ M
  · exact lw_6 N' N' c o M (by
      unfold lw_6V
      rw [holds_of (show N' ≤ 1000 ∧ (∀ i : Nat, i < N' → 0 ≤ c i ∧ c i < 4294967296) ∧ ((M : Int) < 1 ∨ (M : Int) > 15 ∨ (leafs c N').length > 2 ^ (M : Int).toNat) from ⟨by omega, fun i _ => hc i, .inr (.inr (by rw [Int.toNat_natCast]; exact hk))⟩)]; rfl)
  have hI : LnIn N' c M := ⟨by omega, fun i _ => hc i, by omega, by rw [Int.toNat_natCast]; omega⟩
  have hC : CoIn N' c M := ⟨by omega, fun i _ => hc i, by omega⟩
  refine Tr.pick [] (maskOf [6]) (tm := tmk retT 0 101) (G := liG N' (if (leafs c N').length = 1 then oneF (theOne c N') else lenN c N' M)) ?_ (by kernel_rfl) (by kernel_rfl) (by kernel_rfl) trivial (by kernel_rfl) (by kernel_rfl)
  by_cases h5 : (leafs c N').length = 1
  · rw [if_pos h5]
    refine Tr.preW envLO_ok mix 0 4 (maskOf [0, 1, 2, 7, 8, 10]) (maskOf [1, 10]) (lw_8 N' N' c o M) (by
      unfold lw_8V
      rw [holds_of (show LnIn N' c M ∧ (leafs c N').length = 1 from ⟨hI, h5⟩), hbb]; rfl) (by kernel_rfl) ?_
    exact lw_rest hC (oneF_may hI h5) fun h => by omega
  · rw [if_neg h5]
    refine Tr.preW envL_ok mix 0 4 (maskOf [0, 1, 2, 7, 8, 10]) (maskOf [1, 10]) (lw_7 N' N' c o M) (by
      unfold lw_7V
      rw [holds_of (show LnIn N' c M ∧ (leafs c N').length ≠ 1 from ⟨hI, h5⟩), hbb]; rfl) (by kernel_rfl) ?_
    refine lw_rest hC (lenN_may hI h5) fun h6 ho hr => ?_
    have hL := lenLaw (c := c) (N := N') (M := M) hI.n hI.cs (by omega) (by rw [jsO_len]; exact h6) (by rw [jsO_len]; omega)
    have hiff : ∀ i, i < N' → (o i > 0 ↔ c i > 0) := fun i hi => by
      have := ho i hi
      have := hc i
      constructor <;> intro h <;> (have h2 : ¬ _ := fun h3 => by omega) <;> omega
    have := hL.least o (fun j hj hcj => by
      have h7 := ho j hj
      have := (hiff j hj).2 hcj
      omega) (by rw [sI_rm N' hiff]; exact hr)
    rw [sI_co N' fun i _ => (hc i).1, sI_co N' fun i _ => (hc i).1] at this
    exact this
theorem huffLower_ok (N : Nat) (c : Nat → Int) (m : Int) (N' : Nat) (o : Nat → Int) (_ : N ≤ 9223372036854775807) (w0 : ∀ i, (Lit.int .u32 (c i)).wf = true) (_ : (Lit.int .i64 m).wf = true) (_ : N' ≤ 9223372036854775807) (_ : ∀ i, (Lit.int .i64 (o i)).wf = true) :
    Answers Try.prog 5 [.fsi .u32 N c none, .int .i64 m, .fsi .i64 N' o none] := by
  refine ⟨onlyV [.fsi .u32 N c none, .int .i64 m, .fsi .i64 N' o none] ⟨true, .bool true, [], true⟩, ?_, _, onlyV_self _ _, rfl, rfl⟩
  refine SoundV.of_tr (fn := Try.f5) (c := lwC) (by kernel_rfl) (by kernel_rfl) (by kernel_rfl) ?_
  intro args r hr _
  obtain ⟨rfl, rfl⟩ := onlyV_spec hr
  exact ⟨.ret, _, [.bool true], 0, .inl rfl, lw_all fun i => wf_u32 (w0 i), rfl, rfl, rfl, fun _ => rfl⟩
end Go.Proofs.Ytjianphppcappaa

/-! HuffOne: its parts. No condition. -/
namespace Go.Proofs.Ytjianphppcappaa
open Go.AE
set_option maxRecDepth 100000
noncomputable def foC : Code := bodyC Try.f10
noncomputable def foN (k : Nat) : Code := cL (postC k foC)
noncomputable def envFO : Env := ((((envLO.set 21 (lift 0 NewV)).set 24 (liftL reach Put1M)).set 22 (liftL reach TakeSM)).set 23 (evFn Try.prog env0 1000000 Try.f23)).set 25 (evFn Try.prog env0 1000000 Try.f25)
theorem envFO_ok : EnvOK Try.prog envFO := ((((envLO_ok.set (New_ok.lift 0)).set (Put1_ok.lift reach)).set (TakeS_ok.lift reach)).set (SoundM.of_ev (env0_ok _) mix (by kernel_rfl) (by kernel_rfl) (by kernel_rfl))).set (SoundM.of_ev (env0_ok _) mix (by kernel_rfl) (by kernel_rfl) (by kernel_rfl))

def fo8 (x : Int) : Nat → Int := fun j => bif Nat.beq j 0 then x else 0
def foCd (N : Nat) (l : Nat → Int) : Cd := cdOf N l (wordF l N) (fstF l (wordF l N) N) fun q => .fsi .i64 (cntS l N q) (symF l N q) none
def foT (N i : Nat) (l : Nat → Int) : List (Nat × T) := [(7, .bool true), (8, .num N), (9, .num i), (11, .fsi .i64 N l (some N)), (12, .int .i64 0)]
def foT13 (N i : Nat) (l : Nat → Int) : List (Nat × T) := [(7, .bool true), (8, .num N), (9, .num i), (11, .fsi .i64 N l (some N)), (13, .fp (codT N l (wordF l N)))]
def foT15 (N i : Nat) (l : Nat → Int) : List (Nat × T) := [(7, .bool true), (9, .num i), (11, .fsi .i64 N l (some N)), (13, .fp (codT N l (wordF l N))), (15, .ptr 0 [])]
def foT16 (N i : Nat) (l : Nat → Int) : List (Nat × T) := [(7, .bool true), (9, .num i), (11, .fsi .i64 N l (some N)), (13, .fp (codT N l (wordF l N))), (15, .ptr 0 []), (16, .int .i64 0)]
def foT18 (N i : Nat) (l : Nat → Int) (v e : Int) : List (Nat × T) := [(7, .bool true), (9, .num i), (11, .fsi .i64 N l (some N)), (13, .fp (codT N l (wordF l N))), (15, .ptr 0 []), (16, .int .i64 0), (17, .int .i64 v), (18, .int .i64 e)]
def foT20 (N i : Nat) (l : Nat → Int) (v e e' : Int) : List (Nat × T) := [(7, .bool true), (9, .num i), (11, .fsi .i64 N l (some N)), (15, .ptr 0 []), (16, .int .i64 0), (17, .int .i64 v), (18, .int .i64 e), (20, .int .i64 e')]
def foW (la n : Int) : Heap := [some (wS 1 0 la n), some (.ints .u8 0 fun _ => 0)]

theorem fo_0 (a b c : Int) : (evCode Try.prog envFO ⟨1000000, []⟩ (preC 2 (foC)) (stW 0 0 (tmk ([(0, .int .u16 a), (1, .int .u16 b), (2, .int .u32 c)]) 0 114) ([]))).map (cutPW 0 0 (maskOf [0, 1, 2, 7]) (maskOf [])) =
    some (.normal, true, (tmk ([(0, .int .u16 a), (1, .int .u16 b), (2, .int .u32 c), (7, .bool true)]) 0 114), [], true) := by kernel_rfl

theorem fo_2 (a b c : Int) : Tr Try.prog 0 (foN 2) (stW 0 0 (tmk ([(0, .int .u16 a), (1, .int .u16 b), (2, .int .u32 c), (7, .bool true)]) 0 114) ([])) (.normal) (stW 0 0 (tmk ([(0, .int .u16 a), (1, .int .u16 b), (2, .int .u32 c), (7, .bool true), (8, .num (IntKind.i64.wrap ((IntKind.i64.wrap b).tmod 1000 + 1)))]) 0 114) ([])) :=
  Tr.evW (n := ⟨1000000, []⟩) (N := 0) (keep := maskOf [0, 1, 2, 7, 8]) (nm := maskOf [8]) (vc := true) envFO_ok mix (by kernel_rfl) rfl rfl rfl (rfl)

noncomputable def fo_3V (a b c z : Int) : Bool := (decide (0 ≤ IntKind.i64.wrap a ∧ 0 < z) && true && true)
theorem fo_3 (a b c z : Int) (hv : fo_3V a b c z = true) : Tr Try.prog 0 (foN 3) (stW 0 0 (tmk ([(0, .int .u16 a), (1, .int .u16 b), (2, .int .u32 c), (7, .bool true), (8, .num z)]) 0 114) ([])) (.normal) (stW 0 0 (tmk ([(2, .int .u32 c), (7, .bool true), (8, .num z), (9, .num (IntKind.i64.wrap a % z))]) 0 114) ([])) :=
  Tr.evW (n := ⟨1000000, []⟩) (N := 0) (keep := maskOf [2, 7, 8, 9]) (nm := maskOf [8, 9]) (vc := fo_3V a b c z) envFO_ok mix (by kernel_rfl) hv rfl rfl (rfl)

noncomputable def fo_4V (c : Int) (N i : Nat) : Bool := (decide (0 ≤ (↑N : Int) ∧ (↑N : Int) ≤ (↑N : Int)) && decide ((↑Try.prog.types[24].bytes : Int) * (↑N : Int) ≤ 281474976710656 ∧ (↑N : Int) ≤ 9223372036854775807) && true && true)
theorem fo_4 (c : Int) (N i : Nat) (hv : fo_4V c N i = true) : Tr Try.prog 0 (foN 4) (stW 0 0 (tmk ([(2, .int .u32 c), (7, .bool true), (8, .num N), (9, .num i)]) 0 114) ([])) (.normal) (stW 0 0 (tmk ([(2, .int .u32 c), (7, .bool true), (8, .num N), (9, .num i), (10, outS N 0)]) 0 114) ([some (.ints .u32 N fun _ => 0)])) :=
  Tr.evW (n := ⟨1000000, []⟩) (N := 1) (keep := maskOf [2, 7, 8, 9, 10]) (nm := maskOf [8, 9]) (vc := fo_4V c N i) envFO_ok mix (by kernel_rfl) hv rfl rfl (rfl)

noncomputable def fo_5V (c : Int) (N i : Nat) (f : Nat → Int) : Bool := (decide (0 ≤ (↑i : Int) ∧ (↑i : Int) < (↑N : Int)) && (decide (0 + (↑i : Int).toNat < N) && true && true) && true)
theorem fo_5 (c : Int) (N i : Nat) (f : Nat → Int) (hv : fo_5V c N i f = true) : Tr Try.prog 0 (foN 5) (stW 0 0 (tmk ([(2, .int .u32 c), (7, .bool true), (8, .num N), (9, .num i), (10, outS N 0)]) 0 114) ([some (.ints .u32 N f)])) (.normal) (stW 0 0 (tmk ([(7, .bool true), (8, .num N), (9, .num i), (10, outS N 0)]) 0 114) ([some (.ints .u32 N (up1 f (0 + (i : Int).toNat) (IntKind.u32.wrap (c.tmod 1000 + 1))))])) :=
  Tr.evW (n := ⟨1000000, []⟩) (N := 1) (keep := maskOf [7, 8, 9, 10]) (nm := maskOf [8, 9]) (vc := fo_5V c N i f) envFO_ok mix (by kernel_rfl) hv rfl rfl (rfl)

noncomputable def fo_6V (N i : Nat) (f : Nat → Int) : Bool := (decide (0 + N ≤ N) && N.ble N && true && true && (holds (LnIn N (fun j => f (0 + j)) 15 ∧ (leafs (fun j => f (0 + j)) N).length = 1) && true) && true && true)
theorem fo_6 (N i : Nat) (f : Nat → Int) (hv : fo_6V N i f = true) : Tr Try.prog 0 (foN 6) (stW 0 0 (tmk ([(7, .bool true), (8, .num N), (9, .num i), (10, outS N 0)]) 0 114) ([some (.ints .u32 N f)])) (.normal) (stW 0 0 (tmk ([(7, .bool true), (8, .num N), (9, .num i), (11, outS N 1), (12, .int .i64 0)]) 0 114) ([some (.ints .u32 N f), some (.ints .i64 N (oneF (theOne (fun j => f (0 + j)) N)))])) :=
  Tr.evW (n := ⟨1000000, []⟩) (N := 2) (keep := maskOf [7, 8, 9, 11, 12]) (nm := maskOf [8, 9]) (vc := fo_6V N i f) envFO_ok mix (by kernel_rfl) hv rfl rfl (rfl)

noncomputable def fo_7V (N i : Nat) (l : Nat → Int) : Bool := (holds (WoIn N l) && true && true && true)
theorem fo_7 (N i : Nat) (l : Nat → Int) (hv : fo_7V N i l = true) : Tr Try.prog 0 (foN 7) (stW 0 0 (tmk (foT N i l) 0 114) ([])) (.normal) (stW 0 0 (tmk (foT N i l ++ [(13, .fp (codT N l (wordF l N))), (14, .int .i64 0)]) 0 114) ([])) :=
  Tr.evW (n := ⟨1000000, []⟩) (N := 0) (keep := maskOf [7, 8, 9, 11, 12, 13, 14]) (nm := maskOf [8, 9]) (vc := fo_7V N i l) envFO_ok mix (by kernel_rfl) hv rfl rfl (rfl)

noncomputable def fo_8V (N i : Nat) (l : Nat → Int) : Bool := ((!(↑N : Int) == (↑N : Int)) == false && true && true)
theorem fo_8 (N i : Nat) (l : Nat → Int) (hv : fo_8V N i l = true) : Tr Try.prog 0 (foN 8) (stW 0 0 (tmk (foT N i l ++ [(13, .fp (codT N l (wordF l N))), (14, .int .i64 0)]) 0 114) ([])) (.normal) (stW 0 0 (tmk (foT13 N i l) 0 114) ([])) :=
  Tr.evW (n := ⟨1000000, [(60, false), (63, false)]⟩) (N := 0) (keep := maskOf [7, 8, 9, 11, 13]) (nm := maskOf [8, 9]) (vc := fo_8V N i l) envFO_ok mix (by kernel_rfl) hv rfl rfl (rfl)

theorem fo_9 (N i : Nat) (l : Nat → Int) : Tr Try.prog 0 (foN 9) (stW 0 0 (tmk (foT13 N i l) 0 114) ([])) (.normal) (stW 0 0 (tmk (foT15 N i l) 0 114) ([some (.cons .nilslice (.cons (.int .u64 0) (.cons (.int .i64 0) .nil)))])) :=
  Tr.evW (n := ⟨1000000, []⟩) (N := 1) (keep := maskOf [7, 9, 11, 13, 15]) (nm := maskOf [9]) (vc := true) envFO_ok mix (by kernel_rfl) rfl rfl rfl (rfl)

noncomputable def fo_10V (N i : Nat) (l : Nat → Int) : Bool := (holds ((PtOK N N 0 0 l (wordF l N) (↑i : Int) 0 0 fun x => 0) ∧ ptM l (↑i : Int) 0 0 / 8 = 0) && true && true && true)
theorem fo_10 (N i : Nat) (l : Nat → Int) (hv : fo_10V N i l = true) : Tr Try.prog 0 (foN 10) (stW 0 0 (tmk (foT15 N i l) 0 114) (foW 0 0)) (.normal) (stW 0 0 (tmk (foT16 N i l) 0 114) (foW (pk (ptB l (wordF l N) i 0 0 0 fun _ => 0) (8 * 0) (ptM l i 0 0 % 8)) (ptM l i 0 0 % 8 : Nat))) :=
  Tr.evW (n := ⟨1000000, []⟩) (N := 2) (keep := maskOf [7, 9, 11, 13, 15, 16]) (nm := maskOf [9]) (vc := fo_10V N i l) envFO_ok mix (by kernel_rfl) hv rfl rfl (rfl)

noncomputable def fo_11V (N i : Nat) (l : Nat → Int) (la n : Int) : Bool := (holds (1 = 1 ∧ N = N ∧ N = N ∧ (∀ (l_1 : Nat), (fun l_2 => T.fsi IntKind.i64 (cntS l N l_2) (symF l N l_2) none) l_1 = T.fsi IntKind.i64 (kOf (fun l_2 => T.fsi IntKind.i64 (cntS l N l_2) (symF l N l_2) none) l_1) (gOf (fun l_2 => T.fsi IntKind.i64 (cntS l N l_2) (symF l N l_2) none) l_1) none) ∧ CdIn (cdOf N l (wordF l N) (fstF l (wordF l N) N) fun l_1 => T.fsi IntKind.i64 (cntS l N l_1) (symF l N l_1) none) ∧ RdIn 1 (fun j => bif j.beq (0, Operand.const (Value.int IntKind.u8 254)).fst then 254 else (fun x => 0) j) 0) && true && true && true)
theorem fo_11 (N i : Nat) (l : Nat → Int) (la n : Int) (hv : fo_11V N i l la n = true) : Tr Try.prog 0 (foN 11) (stW 0 0 (tmk (foT16 N i l) 0 114) (foW la n)) (.normal) (stW 0 0 (tmk (foT18 N i l (tkF (foCd N l) 1 (fo8 254) 15 0 0 (0 : Int).toNat).1 (tkF (foCd N l) 1 (fo8 254) 15 0 0 (0 : Int).toNat).2.1) 0 114) (foW la n)) :=
  Tr.evW (n := ⟨1000000, []⟩) (N := 2) (keep := maskOf [7, 9, 11, 13, 15, 16, 17, 18]) (nm := maskOf [9]) (vc := fo_11V N i l la n) envFO_ok mix (by kernel_rfl) hv rfl rfl (rfl)

noncomputable def fo_12V (N i : Nat) (l : Nat → Int) (la n v e : Int) : Bool := (holds (1 = 1 ∧ N = N ∧ N = N ∧ (∀ (l_1 : Nat), (fun l_2 => T.fsi IntKind.i64 (cntS l N l_2) (symF l N l_2) none) l_1 = T.fsi IntKind.i64 (kOf (fun l_2 => T.fsi IntKind.i64 (cntS l N l_2) (symF l N l_2) none) l_1) (gOf (fun l_2 => T.fsi IntKind.i64 (cntS l N l_2) (symF l N l_2) none) l_1) none) ∧ CdIn (cdOf N l (wordF l N) (fstF l (wordF l N) N) fun l_1 => T.fsi IntKind.i64 (cntS l N l_1) (symF l N l_1) none) ∧ RdIn 1 (fun j => bif j.beq (0, Operand.const (Value.int IntKind.u8 1)).fst then 1 else (fun x => 0) j) 0) && true && true && true)
theorem fo_12 (N i : Nat) (l : Nat → Int) (la n v e : Int) (hv : fo_12V N i l la n v e = true) : Tr Try.prog 0 (foN 12) (stW 0 0 (tmk (foT18 N i l v e) 0 114) (foW la n)) (.normal) (stW 0 0 (tmk (foT20 N i l v e (tkF (foCd N l) 1 (fo8 1) 15 0 0 (0 : Int).toNat).2.1) 0 114) (foW la n)) :=
  Tr.evW (n := ⟨1000000, []⟩) (N := 2) (keep := maskOf [7, 9, 11, 15, 16, 17, 18, 20]) (nm := maskOf [9]) (vc := fo_12V N i l la n v e) envFO_ok mix (by kernel_rfl) hv rfl rfl (rfl)

noncomputable def fo_13V (N i : Nat) (l : Nat → Int) (la n v e e1 : Int) : Bool := ((false || decide (0 ≤ (↑i : Int) ∧ (↑i : Int) < (↑N : Int))) && ((l (↑i : Int).toNat == 1) == true && ((IntKind.i64.wrap (IntKind.i64.wrap (8 * (↑0 : Int)) + n) == 1) == true && ((v == (↑i : Int)) == true && ((e == 0) == true && (((e1 == 130) == true || false) && true))))) && true)
theorem fo_13 (N i : Nat) (l : Nat → Int) (la n v e e1 : Int) (hv : fo_13V N i l la n v e e1 = true) : Tr Try.prog 0 (postC 13 foC) (stW 0 0 (tmk (foT20 N i l v e e1) 0 114) (foW la n)) (.ret) (stW 0 0 (tmk ([(6, .bool true)]) 0 114) (foW la n)) :=
  Tr.evW (n := ⟨1000000, [(92, true), (96, true), (101, true), (106, true), (110, true), (112, true)]⟩) (N := 2) (keep := maskOf [6]) (nm := maskOf []) (vc := fo_13V N i l la n v e e1) envFO_ok mix (by kernel_rfl) hv rfl rfl (rfl)

theorem foC_eq : postC 2 foC = .seq (foN 2) (.seq (foN 3) (.seq (foN 4) (.seq (foN 5) (.seq (foN 6) (.seq (foN 7) (.seq (foN 8) (.seq (foN 9) (.seq (foN 10) (.seq (foN 11) (.seq (foN 12) (postC 13 foC))))))))))) := by kernel_rfl
end Go.Proofs.Ytjianphppcappaa

/-! HuffOne. No condition. -/
namespace Go.Proofs.Ytjianphppcappaa
open Go.AE
set_option maxRecDepth 100000
section
variable {N i : Nat}
theorem one_l (i j : Nat) : oneF i j = if j = i then 1 else 0 := oneF_eq i j
theorem one_rm (i : Nat) : ∀ n, rmI (oneF i) n = (if i < n then 16384 else 0) ∧ smI (oneF i) n = (if i < n then 1 else 0)
  | 0 => by simp [rmI, smI]
  | n + 1 => by
    obtain ⟨h1, h2⟩ := one_rm i n
    rw [rmI, smI, h1, h2, one_l]
    by_cases h : n = i
    · subst h; simp
    · by_cases h3 : i < n
      · have h4 : i < n + 1 := by omega
        simp [h, h3, h4]
      · have h4 : ¬ i < n + 1 := by omega
        simp [h, h3, h4]
theorem one_wo (hN : N ≤ 1000) (hi : i < N) : WoIn N (oneF i) := by
  obtain ⟨h1, h2⟩ := one_rm i N
  rw [if_pos hi] at h1 h2
  exact ⟨hN, fun j _ => by rw [one_l]; split <;> omega, .inr ⟨h2, h1⟩⟩
theorem one_cnt (i : Nat) : ∀ n, n ≤ i → cntF (oneF i) n 1 = 0
  | 0, _ => rfl
  | n + 1, h => by
    have e : oneF i n ≠ ((1 : Nat) : Int) := by rw [one_l, if_neg (by omega)]; decide
    rw [cntF, one_cnt i n (by omega), if_neg e]; rfl
theorem one_word (N : Nat) : wordF (oneF i) N i = 0 := by
  have e : oneF i i = 1 := by rw [one_l, if_pos rfl]
  unfold wordF
  rw [e, if_pos (by decide)]
  show stF (oneF i) N 1 + cntF (oneF i) i 1 = 0
  rw [one_cnt i i (Nat.le_refl _)]; rfl
theorem one_cd (w : Nat → Int) : ∀ n, (n ≤ i → cntS (oneF i) n 1 = 0 ∧ cntS (oneF i) n 0 = n ∧ fstF (oneF i) w n 1 = 0) ∧ (i < n → cntS (oneF i) n 1 = 1 ∧ cntS (oneF i) n 0 + 1 = n ∧ symF (oneF i) n 1 0 = i ∧ fstF (oneF i) w n 1 = w i)
  | 0 => ⟨fun _ => ⟨rfl, rfl, rfl⟩, fun h => absurd h (Nat.not_lt_zero _)⟩
  | n + 1 => by
    obtain ⟨h1, h2⟩ := one_cd w n
    have hc0 : ∀ q, cntS (oneF i) (n + 1) q = kU (cntS (oneF i) n) (oneF i n).toNat q := fun _ => rfl
    have hs0 : symF (oneF i) (n + 1) = gU (cntS (oneF i) n) (symF (oneF i) n) (oneF i n).toNat n := rfl
    by_cases h : n = i
    · subst h
      have e : oneF n n = 1 := by rw [one_l, if_pos rfl]
      obtain ⟨a1, a2, a3⟩ := h1 (Nat.le_refl _)
      refine ⟨fun h => absurd h (by omega), fun _ => ?_⟩
      rw [hc0, hc0, hs0, fstF, e]
      refine ⟨?_, ?_, ?_, ?_⟩
      · show cntS (oneF n) n 1 + 1 = 1
        rw [a1]
      · show cntS (oneF n) n 0 + 1 = n + 1
        rw [a2]
      · show catF (cntS (oneF n) n 1) (symF (oneF n) n 1) (one1 n) 0 = n
        rw [a1]; rfl
      · show (bif decide ((1 : Int) > 0) && Nat.beq (cntS (oneF n) n 1) 0 then up1 (fstF (oneF n) w n) 1 (w n) else fstF (oneF n) w n) 1 = w n
        rw [a1]; rfl
    · have e : oneF i n = 0 := by rw [one_l, if_neg h]
      rw [hc0, hc0, hs0, fstF, e]
      refine ⟨fun hn => ?_, fun hn => ?_⟩
      · obtain ⟨a1, a2, a3⟩ := h1 (by omega)
        exact ⟨a1, by show cntS (oneF i) n 0 + 1 = n + 1; rw [a2], a3⟩
      · obtain ⟨a1, a2, a3, a4⟩ := h2 (by omega)
        exact ⟨a1, by show cntS (oneF i) n 0 + 1 + 1 = n + 1; rw [a2], a3, a4⟩
end
theorem fstF_bnd {c w : Nat → Int} : ∀ n, (∀ j, j < n → 0 ≤ w j ∧ w j < 32768) → ∀ q, 0 ≤ fstF c w n q ∧ fstF c w n q ≤ 65536
  | 0, _, _ => by show 0 ≤ (0 : Int) ∧ (0 : Int) ≤ 65536; omega
  | n + 1, h, q => by
    have ih := fstF_bnd (c := c) n (fun j hj => h j (by omega)) q
    have hn := h n (by omega)
    rw [fstF]
    cases decide (c n > 0) && Nat.beq (cntS c n (c n).toNat) 0 with
    | false => exact ih
    | true =>
      show 0 ≤ up1 _ _ _ q ∧ up1 _ _ _ q ≤ 65536
      by_cases e : q = (c n).toNat
      · subst e; rw [up1_eq]; omega
      · rw [up1_ne e]; exact ih
/-- A code's own bounds. -/
theorem cd_in {N : Nat} {c : Nat → Int} (h : WoIn N c) : CdIn (foCd N c) :=
  ⟨h.n, fun l _ => fstF_bnd N (fun j hj => word_bnd h hj) l, fun l => by
    show cntS c N l ≤ 1000
    have := cntS_le c l N
    have := h.n
    omega⟩
theorem fo_bits : bitF (fo8 254) 0 = 0 ∧ bitF (fo8 1) 0 = 1 := by decide
theorem fo_rd {x : Int} (h : 0 ≤ x ∧ x < 256) : RdIn 1 (fo8 x) 0 := ⟨by omega, fun i hi => by
  have : i = 0 := by omega
  subst this
  exact h, by omega⟩
section
variable {N i : Nat} (hN : N ≤ 1000) (hi : i < N)
include hN hi
theorem fo_tk1 : (tkF (foCd N (oneF i)) 1 (fo8 254) 15 0 0 (0 : Int).toNat).1 = i ∧ (tkF (foCd N (oneF i)) 1 (fo8 254) 15 0 0 (0 : Int).toNat).2.1 = 0 := by
  obtain ⟨_, h2⟩ := one_cd (i := i) (wordF (oneF i) N) N
  obtain ⟨a1, a2, a3, a4⟩ := h2 hi
  rw [one_word] at a4
  show (tkF (foCd N (oneF i)) 1 (fo8 254) (14 + 1) 0 0 0).1 = i ∧ (tkF (foCd N (oneF i)) 1 (fo8 254) (14 + 1) 0 0 0).2.1 = 0
  rw [tkF, if_neg (by omega), fo_bits.1]
  have hF : (foCd N (oneF i)).F 1 = 0 := a4
  have hk : (foCd N (oneF i)).k 1 = 1 := a1
  have hh : (foCd N (oneF i)).hit (0 + 1) (2 * 0 + 0) := by
    show 0 ≤ (2 * 0 + 0 : Int) - (foCd N (oneF i)).F 1 ∧ (2 * 0 + 0 : Int) - (foCd N (oneF i)).F 1 < (foCd N (oneF i)).k 1
    rw [hF, hk]; omega
  rw [if_pos hh]
  refine ⟨?_, rfl⟩
  show symF (oneF i) N 1 (2 * 0 + 0 - (foCd N (oneF i)).F 1 : Int).toNat = i
  rw [hF]
  exact a3
theorem fo_tk2 : (tkF (foCd N (oneF i)) 1 (fo8 1) 15 0 0 (0 : Int).toNat).2.1 = 130 := by
  obtain ⟨_, h2⟩ := one_cd (i := i) (wordF (oneF i) N) N
  obtain ⟨a1, a2, a3, a4⟩ := h2 hi
  rw [one_word] at a4
  show (tkF (foCd N (oneF i)) 1 (fo8 1) (14 + 1) 0 0 0).2.1 = 130
  rw [tkF, if_neg (by omega), fo_bits.2]
  have hF : (foCd N (oneF i)).F 1 = 0 := a4
  have hk : (foCd N (oneF i)).k 1 = 1 := a1
  have hk0 : (foCd N (oneF i)).k 0 + 1 = N := a2
  have hh : ¬ (foCd N (oneF i)).hit (0 + 1) (2 * 0 + 1) := by
    show ¬ (0 ≤ (2 * 0 + 1 : Int) - (foCd N (oneF i)).F 1 ∧ (2 * 0 + 1 : Int) - (foCd N (oneF i)).F 1 < (foCd N (oneF i)).k 1)
    rw [hF, hk]; omega
  have hs : (foCd N (oneF i)).stop (2 * 0 + 1) := ⟨hk, rfl, hk0.symm⟩
  rw [if_neg hh, if_pos hs]
end
theorem leafs_one {v : Int} (hv : 0 < v) {i : Nat} : ∀ N, (leafs (fun j => if j = i then v else 0) N).length = if i < N then 1 else 0
  | 0 => by simp [leafs]
  | n + 1 => by
    rw [leafs_lenS, leafs_one hv n]
    by_cases h : n = i
    · subst h; simp [hv]
    · by_cases h3 : i < n
      · have h4 : i < n + 1 := by omega
        simp [h, h3, h4]
      · have h4 : ¬ i < n + 1 := by omega
        simp [h, h3, h4]
def foF (i : Nat) (v : Int) : Nat → Int := fun j => if j = i then v else 0
theorem fun00 (l : Nat → Int) : (fun j => l (0 + j)) = l := by funext j; rw [Nat.zero_add]
theorem fo_all {a b c : Int} (ha : 0 ≤ a ∧ a < 65536) (hb : 0 ≤ b ∧ b < 65536) (hc : 0 ≤ c ∧ c < 4294967296) :
    Tr Try.prog 0 foC (stW 0 0 ([.int .u16 a, .int .u16 b, .int .u32 c] ++ undefs 111) []) .ret (stW 0 0 (tmk [(6, .bool true)] 0 114) []) := by
  refine Tr.preW envFO_ok mix 0 2 (maskOf [0, 1, 2, 7]) (maskOf []) (fo_0 a b c) rfl rfl ?_
  rw [foC_eq]
  have w1 : IntKind.i64.wrap b = b := by rw [IntKind.wrap_i64]; omega
  have w2 : IntKind.i64.wrap a = a := by rw [IntKind.wrap_i64]; omega
  have w3 : b.tmod 1000 = b % 1000 := Int.tmod_eq_emod_of_nonneg hb.1
  have w4 : c.tmod 1000 = c % 1000 := Int.tmod_eq_emod_of_nonneg hc.1
  have w5 : IntKind.i64.wrap (b % 1000 + 1) = b % 1000 + 1 := by rw [IntKind.wrap_i64]; omega
  have w6 : IntKind.u32.wrap (c % 1000 + 1) = c % 1000 + 1 := wrap_u32 (by omega)
  obtain ⟨N, hN⟩ := Int.eq_ofNat_of_zero_le (show 0 ≤ b % 1000 + 1 by omega)
  have hN1 : 1 ≤ N ∧ N ≤ 1000 := by omega
  obtain ⟨i, hi⟩ := Int.eq_ofNat_of_zero_le (show 0 ≤ a % (N : Int) from Int.emod_nonneg _ (by omega))
  have hi1 : i < N := by
    have := Int.emod_lt_of_pos a (show (0 : Int) < N by omega)
    omega
  have h2 := fo_2 a b c
  rw [w1, w3, w5, hN] at h2
  have h3 := fo_3 a b c N (by unfold fo_3V; rw [w2, decide_eq_true (show 0 ≤ a ∧ 0 < (N : Int) by omega)]; rfl)
  rw [w2, hi] at h3
  have hb4 : Try.prog.types[24].bytes = 4 := by kernel_rfl
  have h4 := fo_4 c N i (by
    unfold fo_4V
    rw [hb4]
    simp only [Bool.and_true, Bool.and_eq_true, decide_eq_true_eq]
    omega)
  have h5 := fo_5 c N i (fun _ => 0) (by
    unfold fo_5V
    simp only [Bool.and_true, Bool.and_eq_true, decide_eq_true_eq]
    omega)
  rw [w4, w6, show 0 + (i : Int).toNat = i by omega] at h5
  have hv : 0 < c % 1000 + 1 := by omega
  have hv2 : c % 1000 + 1 ≤ 1000 := by omega
  generalize c % 1000 + 1 = v at *
  have ef : up1 (fun _ => 0) i v = foF i v := by
    funext j
    unfold foF
    by_cases h : j = i
    · subst h; rw [up1_eq, if_pos rfl]
    · rw [up1_ne h, if_neg h]
  rw [ef] at h5
  have hle : (leafs (foF i v) N).length = 1 := by
    have h := leafs_one hv (i := i) N
    rw [if_pos hi1] at h
    exact h
  have hL : LnIn N (foF i v) 15 := ⟨by omega, fun j _ => by show 0 ≤ (if j = i then v else 0) ∧ (if j = i then v else 0) < 4294967296; split <;> omega, by omega, by rw [hle]; decide⟩
  have h6 := fo_6 N i (foF i v) (by
    unfold fo_6V
    rw [fun00, holds_of ⟨hL, hle⟩, decide_eq_true (show 0 + N ≤ N by omega), show Nat.ble N N = true by simp]; rfl)
  have ho : theOne (foF i v) N = i := ((one_pos hle i hi1).1 (by show (if i = i then v else 0) > 0; rw [if_pos rfl]; omega)).symm
  rw [fun00, ho] at h6
  have hF := Tr.frz 3 0 h6 (tm' := tmk [(7, .bool true), (8, .num N), (9, .num i), (11, .fsi .i64 N (fun j => oneF i (0 + j)) (some N)), (12, .int .i64 0)] 0 114) (G' := [none, none]) (by kernel_rfl) (by kernel_rfl) (by kernel_rfl) (by
    refine frTOK_tmk (fun e he => ?_) 114 0
    rcases (show e = (7, .bool true) ∨ e = (8, .num N) ∨ e = (9, .num i) ∨ e = (11, outS N 1) ∨ e = (12, .int .i64 0) by simpa using he) with rfl | rfl | rfl | rfl | rfl
    · rfl
    · rfl
    · rfl
    · show ((true && decide (0 + N ≤ N)) && (true && Nat.ble N N)) = true
      rw [decide_eq_true (show 0 + N ≤ N by omega), show Nat.ble N N = true by simp]; rfl
    · rfl) (fun j hj => absurd hj (Nat.not_lt_zero _))
  rw [fun00] at hF
  have hF2 := Tr.pick [] (maskOf [7, 8, 9, 11, 12]) hF (tm' := tmk (foT N i (oneF i)) 0 114) (G' := []) (by kernel_rfl) (by kernel_rfl) (by kernel_rfl) trivial (by kernel_rfl) (by kernel_rfl)
  have hW := one_wo hN1.2 hi1
  have h7 := fo_7 N i (oneF i) (by unfold fo_7V; rw [holds_of hW]; rfl)
  have h8 := fo_8 N i (oneF i) (by unfold fo_8V; rw [show ((N : Int) == N) = true by simp]; rfl)
  have h9 := fo_9 N i (oneF i)
  have e1 : oneF i i = 1 := by rw [one_l, if_pos rfl]
  have eS : lenS (oneF i) i = 1 := by unfold lenS; rw [Int.toNat_natCast, e1]; rfl
  have eM : ptM (oneF i) i 0 0 = 1 := by unfold ptM; rw [eS]; rfl
  have hP : PtOK N N 0 0 (oneF i) (wordF (oneF i) N) i 0 0 fun _ => 0 := by
    refine ⟨⟨rfl, rfl⟩, ⟨by omega, ?_⟩, ?_, ⟨by omega, by omega, by decide, fun j hj => absurd hj (Nat.not_lt_zero _)⟩⟩
    · rw [Int.toNat_natCast, one_word]; omega
    · rw [Int.toNat_natCast, e1]; omega
  have h10 := fo_10 N i (oneF i) (by
    unfold fo_10V
    rw [holds_of (show (PtOK N N 0 0 (oneF i) (wordF (oneF i) N) (i : Int) 0 0 fun _ => 0) ∧ ptM (oneF i) (i : Int) 0 0 / 8 = 0 from ⟨hP, by rw [eM]⟩)]; rfl)
  have hh : ∀ p : Prop, p → (holds p && true && true && true) = true := fun p hp => by rw [holds_of hp]; rfl
  have hC := cd_in hW
  obtain ⟨t1, t2⟩ := fo_tk1 hN1.2 hi1
  have t3 := fo_tk2 hN1.2 hi1
  refine Tr.seq h2 (Tr.seq h3 (Tr.seq h4 (Tr.seq h5 (Tr.seq hF2 (Tr.seq h7 (Tr.seq h8 ?_))))))
  generalize pk (ptB (oneF i) (wordF (oneF i) N) i 0 0 0 fun _ => 0) (8 * 0) (ptM (oneF i) i 0 0 % 8) = la at h10
  rw [eM] at h10
  have h11 := fo_11 N i (oneF i) la (1 % 8 : Nat) (hh _ ⟨rfl, rfl, rfl, fun _ => rfl, hC, fo_rd (by omega)⟩)
  have h12 := fo_12 N i (oneF i) la (1 % 8 : Nat) (tkF (foCd N (oneF i)) 1 (fo8 254) 15 0 0 (0 : Int).toNat).1 (tkF (foCd N (oneF i)) 1 (fo8 254) 15 0 0 (0 : Int).toNat).2.1 (hh _ ⟨rfl, rfl, rfl, fun _ => rfl, hC, fo_rd (by omega)⟩)
  rw [t1, t2] at h11 h12
  rw [t3] at h12
  have h13 := fo_13 N i (oneF i) la (1 % 8 : Nat) i 0 130 (by
    unfold fo_13V
    rw [Int.toNat_natCast, e1, decide_eq_true (show 0 ≤ (i : Int) ∧ (i : Int) < N by omega), beq_self_eq_true (i : Int)]
    decide)
  have h9' : Tr Try.prog 0 (foN 9) (stW 0 0 (tmk (foT13 N i (oneF i)) 0 114) []) .normal (stW 0 0 (tmk (foT15 N i (oneF i)) 0 114) (foW 0 0)) := by
    have h := Tr.vac h9 (.ints .u8 0 fun _ => 0) rfl
    refine h.weak (St.leL (LeL.refl _) ⟨⟨rfl, fun ρ cs hc => cons_leaf (fun ρ cs hc => ?_) (fun _ _ h => h) ρ cs hc⟩, ⟨rfl, fun _ _ h => h⟩, trivial⟩ fun _ h => absurd h (Nat.not_lt_zero _))
    obtain ⟨x, e, hx⟩ := hc
    exact ⟨x, e, nil_slice hx⟩
  refine Tr.pick [] (maskOf [6]) (tm := tmk [(6, .bool true)] 0 114) (G := foW la (1 % 8 : Nat)) ?_ (by kernel_rfl) (by kernel_rfl) (by kernel_rfl) trivial (by kernel_rfl) (by kernel_rfl)
  exact Tr.seq h9' (Tr.seq h10 (Tr.seq h11 (Tr.seq h12 h13)))
theorem wf_u16 {x : Int} (h : (Lit.int .u16 x).wf = true) : 0 ≤ x ∧ x < 65536 := by
  simp [Lit.wf, IntKind.min, IntKind.max, IntKind.signed, IntKind.bits] at h
  omega
theorem huffOne_ok (a b c : Int) (h0 : (Lit.int .u16 a).wf = true) (h1 : (Lit.int .u16 b).wf = true) (h2 : (Lit.int .u32 c).wf = true) : Answers Try.prog 10 [.int .u16 a, .int .u16 b, .int .u32 c] := by
  refine ⟨onlyV [.int .u16 a, .int .u16 b, .int .u32 c] ⟨true, .bool true, [], true⟩, ?_, _, onlyV_self _ _, rfl, rfl⟩
  refine SoundV.of_tr (fn := Try.f10) (c := foC) (by kernel_rfl) (by kernel_rfl) (by kernel_rfl) ?_
  intro args r hr _
  obtain ⟨rfl, rfl⟩ := onlyV_spec hr
  exact ⟨.ret, _, [.bool true], 0, .inl rfl, fo_all (wf_u16 h0) (wf_u16 h1) (wf_u32 h2), rfl, rfl, rfl, fun _ => rfl⟩
end Go.Proofs.Ytjianphppcappaa
