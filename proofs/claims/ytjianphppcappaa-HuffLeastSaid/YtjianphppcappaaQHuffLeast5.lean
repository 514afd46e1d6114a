/- Part 5 of the proof. No condition. -/
import Derived.Test.YtjianphppcappaaQHuffLeast4
set_option linter.unusedVariables false
set_option linter.unusedSimpArgs false
set_option linter.unusedSectionVars false

/-! slices.insertionSortCmpFunc: what it leaves is in order, and the same. No condition. -/
namespace Go.Proofs.Ytjianphppcappaa
open Go.AE
set_option maxRecDepth 100000

/-! ### The same elements, in another order -/
theorem perm_of {g : Nat → T} {k : Nat} {σ τ : Nat → Nat} (h1 : ∀ i, i < k → σ i < k ∧ τ (σ i) = i) (h2 : ∀ i, i < k → τ i < k ∧ σ (τ i) = i) : ((List.range k).map fun i => g (σ i)).Perm ((List.range k).map g) := by
  have h : ((List.range k).map σ).Perm (List.range k) := by
    refine (List.perm_ext_iff_of_nodup ?_ List.nodup_range).2 fun a => ?_
    · unfold List.Nodup
      rw [List.pairwise_map]
      refine List.Pairwise.imp_of_mem ?_ (List.nodup_range (n := k))
      intro a b ha hb hne he
      have ea := (h1 a (by simpa using ha)).2
      have eb := (h1 b (by simpa using hb)).2
      rw [he] at ea
      exact hne (ea.symm.trans eb)
    · simp only [List.mem_map, List.mem_range]
      constructor
      · rintro ⟨i, hi, rfl⟩; exact (h1 i hi).1
      · intro ha; exact ⟨τ a, (h2 a ha).1, (h2 a ha).2⟩
  have := h.map g
  rw [List.map_map] at this
  exact this
/-- The same elements; those from one place to another one among themselves. -/
structure PM (k a b : Nat) (g g' : Nat → T) : Prop where
  perm : ((List.range k).map g').Perm ((List.range k).map g)
  out : ∀ j, j < a ∨ b ≤ j → g' j = g j
  ins : ∀ j, a ≤ j → j < b → ∃ i, a ≤ i ∧ i < b ∧ g' j = g i
theorem PM.refl (k a b : Nat) (g : Nat → T) : PM k a b g g := ⟨.refl _, fun _ _ => rfl, fun j h1 h2 => ⟨j, h1, h2, rfl⟩⟩
theorem PM.trans {k a b : Nat} {g g' g'' : Nat → T} (h : PM k a b g g') (h' : PM k a b g' g'') : PM k a b g g'' := by
  refine ⟨h'.perm.trans h.perm, fun j hj => (h'.out j hj).trans (h.out j hj), fun j h1 h2 => ?_⟩
  obtain ⟨i, i1, i2, e⟩ := h'.ins j h1 h2
  obtain ⟨l, l1, l2, e'⟩ := h.ins i i1 i2
  exact ⟨l, l1, l2, e.trans e'⟩
theorem PM.mono {k a b a' b' : Nat} {g g' : Nat → T} (h : PM k a b g g') (ha : a' ≤ a) (hb : b ≤ b') : PM k a' b' g g' := by
  refine ⟨h.perm, fun j hj => h.out j (by omega), fun j h1 h2 => ?_⟩
  by_cases hj : a ≤ j ∧ j < b
  · obtain ⟨i, i1, i2, e⟩ := h.ins j hj.1 hj.2
    exact ⟨i, by omega, by omega, e⟩
  · exact ⟨j, h1, h2, h.out j (by omega)⟩
theorem PM.all {k a b : Nat} {g g' : Nat → T} (h : PM k a b g g') (hb : b ≤ k) {p : T → Prop} (hp : ∀ i, i < k → p (g i)) : ∀ i, i < k → p (g' i) := fun i hi => by
  by_cases hj : a ≤ i ∧ i < b
  · obtain ⟨l, _, l2, e⟩ := h.ins i hj.1 hj.2
    rw [e]; exact hp l (by omega)
  · rw [h.out i (by omega)]; exact hp i hi
theorem PM.seg {k a b : Nat} {g g' : Nat → T} (h : PM k a b g g') {p : T → Prop} (hp : ∀ i, a ≤ i → i < b → p (g i)) : ∀ i, a ≤ i → i < b → p (g' i) := fun i h1 h2 => by
  obtain ⟨l, l1, l2, e⟩ := h.ins i h1 h2
  rw [e]; exact hp l l1 l2
theorem PM.ch {k a b : Nat} {g g' : Nat → T} (h : PM k a b g g') (hb : b ≤ k) (hp : ∀ i, i < k → isCh (g i) = true) : ∀ i, i < k → isCh (g' i) = true := h.all hb (p := fun t => isCh t = true) hp
theorem PM_swp {k a b x y : Nat} (g : Nat → T) (hk : b ≤ k) (hx : a ≤ x ∧ x < b) (hy : a ≤ y ∧ y < b) : PM k a b g (swp g x y) := by
  refine ⟨?_, fun j hj => ?_, fun j h1 h2 => ?_⟩
  · have e : (List.range k).map (swp g x y) = (List.range k).map fun i => g (if i = y then x else if i = x then y else i) := by
      refine List.map_congr_left fun i _ => ?_
      unfold swp
      split
      · rfl
      · split <;> rfl
    rw [e]
    refine perm_of (τ := fun i => if i = y then x else if i = x then y else i) (fun i hi => ?_) (fun i hi => ?_)
    all_goals (constructor <;> (repeat' split) <;> omega)
  · unfold swp
    rw [if_neg (by omega), if_neg (by omega)]
  · unfold swp
    by_cases e1 : j = y
    · exact ⟨x, hx.1, hx.2, by rw [if_pos e1]⟩
    · by_cases e2 : j = x
      · exact ⟨y, hy.1, hy.2, by rw [if_neg e1, if_pos e2]⟩
      · exact ⟨j, h1, h2, by rw [if_neg e1, if_neg e2]⟩
/-- In order. -/
def Srt (g : Nat → T) (a b : Nat) : Prop := ∀ i j, a ≤ i → i ≤ j → j < b → sumT (g i) ≤ sumT (g j)

/-! ### The walk -/
noncomputable def envIn : Env := env0.set 33 (lift 0 L1V)
theorem envIn_ok : EnvOK Try.prog envIn := (env0_ok _).set (L1_ok.lift 0)
noncomputable def inC : Code := bodyC Try.f50
noncomputable def inB : Code := cB (cB (cR inC))
theorem inC_eq : inC = .seq (cL inC) (.block 0 (.loop inB)) := by kernel_rfl
noncomputable def inM : Code := cB (cL (cR inB))
noncomputable def inI : Code := cB (cB (cR inM))
theorem inB_eq : inB = .seq (cL inB) (.seq (.block 1 (.seq (cL inM) (.block 2 (.loop inI)))) (cR (cR inB))) := by kernel_rfl
def inT (k : Nat) (a b i : Int) : List (Nat × T) := [(0, soS k), (1, .num a), (2, .num b), (3, lsF), (8, .num i)]
def inK : Nat := maskOf [0, 1, 2, 3, 8, 9]
theorem cmpI_lt {x y : Int} : cmpI x y < 0 ↔ x < y := by
  unfold cmpI
  split
  · simp [*]
  · split <;> simp [*]
section
variable (g : Nat → T) (k : Nat) (a b i j : Int)
theorem in_i (hv : (i64B (a + 1) && true && true) = true) : Tr Try.prog 1 (cL inC) (stW 1 1 ((soS k :: ([a, b].map T.num ++ [lsF])) ++ undefs 49) (soG k g)) .normal (stW 1 1 (tmk (inT k a b (a + 1)) 0 53) (soG k g)) :=
  Tr.evW (n := 1000000) (N := 1) (keep := inK) (nm := inK) (vc := i64B (a + 1) && true && true) envIn_ok mix (by kernel_rfl) hv rfl rfl (soH _ _ _)
theorem in_c (hv : decide (i < b) = true) : Tr Try.prog 1 (cL inB) (stW 1 1 (tmk (inT k a b i) 0 53) (soG k g)) .normal (stW 1 1 (tmk (inT k a b i) 0 53) (soG k g)) :=
  Tr.evW (n := ⟨1000000, [(14, true)]⟩) (N := 1) (keep := inK) (nm := inK) (vc := decide (i < b) == true && true && true) envIn_ok mix (by kernel_rfl) (by rw [hv]; rfl) rfl rfl (soH _ _ _)
theorem in_x (hv : decide (i < b) = false) : Tr Try.prog 1 (cL inB) (stW 1 1 (tmk (inT k a b i) 0 53) (soG k g)) (.exit 0) (stW 1 1 (tmk [] 0 53) (soG k g)) :=
  Tr.evW (n := ⟨1000000, [(14, false)]⟩) (N := 1) (keep := 0) (nm := 0) (vc := decide (i < b) == false && true && true) envIn_ok mix (by kernel_rfl) (by rw [hv]; rfl) rfl rfl (soH _ _ _)
theorem in_m : Tr Try.prog 1 (cL inM) (stW 1 1 (tmk (inT k a b i) 0 53) (soG k g)) .normal (stW 1 1 (tmk (inT k a b i ++ [(9, .num i)]) 0 53) (soG k g)) :=
  Tr.evW (n := 1000000) (N := 1) (keep := inK) (nm := inK) (vc := true) envIn_ok mix (by kernel_rfl) rfl rfl rfl (soH _ _ _)
theorem in_n (hv : (i64B (i + 1) && true && true) = true) : Tr Try.prog 1 (cR (cR inB)) (stW 1 1 (tmk (inT k a b i ++ [(9, .num j)]) 0 53) (soG k g)) .normal (stW 1 1 (tmk (inT k a b (i + 1)) 0 53) (soG k g)) :=
  Tr.evW (n := 1000000) (N := 1) (keep := maskOf [0, 1, 2, 3, 8]) (nm := inK) (vc := i64B (i + 1) && true && true) envIn_ok mix (by kernel_rfl) hv rfl rfl (soH _ _ _)
def inL (c : Bool) : Bool := decide (j > a) == true && ((false || decide (0 ≤ j ∧ j < k)) && ((false || decide (0 + j.toNat < k) && true) && ((false || i64B (j - 1)) && ((false || decide (0 ≤ j - 1 ∧ j - 1 < k)) && ((false || decide (0 + (j - 1).toNat < k) && true) &&
  ((false || (isCh (g (0 + j.toNat)) && isCh (g (0 + (j - 1).toNat))) && true) && (decide (cmpI (sumT (g (0 + j.toNat))) (sumT (g (0 + (j - 1).toNat))) < 0) == c && true)))))))
def inV : Bool := i64B (j - 1) && true && (i64B (j - 1) && (i64B (j - 1) && (decide (0 ≤ j - 1 ∧ j - 1 < k) && (decide (0 + (j - 1).toNat < k) && true && (decide (0 ≤ j ∧ j < k) && (decide (0 + j.toNat < k) && true &&
  (decide (0 ≤ j ∧ j < k) && (decide (0 + j.toNat < k) && true && (decide (0 ≤ j - 1 ∧ j - 1 < k) && (decide (0 + (j - 1).toNat < k) && true && true))))))))) && (inL g k a j true && true))
theorem in_s (hv : inV g k a j = true) : Tr Try.prog 1 inI (stW 1 1 (tmk (inT k a b i ++ [(9, .num j)]) 0 53) (soG k g)) .normal (stW 1 1 (tmk (inT k a b i ++ [(9, .num (j - 1))]) 0 53) [some (.rows k 1 (swR g (0 + j.toNat) (0 + (j - 1).toNat)))]) :=
  Tr.evW (n := ⟨1000000, [(21, true), (34, true)]⟩) (N := 1) (keep := inK) (nm := inK) (vc := inV g k a j) envIn_ok mix (by kernel_rfl) hv rfl rfl (rowH fun j => by rw [swR_eq]; rfl)
theorem in_e (hv : (inL g k a j false && true) = true) : Tr Try.prog 1 inI (stW 1 1 (tmk (inT k a b i ++ [(9, .num j)]) 0 53) (soG k g)) (.exit 2) (stW 1 1 (tmk (inT k a b i ++ [(9, .num j)]) 0 53) (soG k g)) :=
  Tr.evW (n := ⟨1000000, [(21, true), (34, false)]⟩) (N := 1) (keep := inK) (nm := inK) (vc := inL g k a j false && true) envIn_ok mix (by kernel_rfl) hv rfl rfl (soH _ _ _)
theorem in_f (hv : decide (j > a) = false) : Tr Try.prog 1 inI (stW 1 1 (tmk (inT k a b i ++ [(9, .num j)]) 0 53) (soG k g)) (.exit 2) (stW 1 1 (tmk (inT k a b i ++ [(9, .num j)]) 0 53) (soG k g)) :=
  Tr.evW (n := ⟨1000000, [(21, false), (34, false)]⟩) (N := 1) (keep := inK) (nm := inK) (vc := decide (j > a) == false && true && true) envIn_ok mix (by kernel_rfl) (by rw [hv]; rfl) rfl rfl (soH _ _ _)
end

/-! ### What it leaves -/
/-- In order but for one place, which is no greater than what is behind it. -/
def Inv (g : Nat → T) (a i j : Nat) : Prop := ∀ p q, a ≤ p → p ≤ q → q ≤ i → (q ≠ j ∨ p = j) → sumT (g p) ≤ sumT (g q)
theorem Inv.step {g : Nat → T} {a i j : Nat} (h : Inv g a i j) (hj : a < j) (hi : j ≤ i) (hlt : sumT (g j) < sumT (g (j - 1))) : Inv (swp g j (j - 1)) a i (j - 1) := by
  intro p q h1 h2 h3 h4
  have v : ∀ x, swp g j (j - 1) x = if x = j - 1 then g j else if x = j then g (j - 1) else g x := fun _ => rfl
  rw [v p, v q]
  by_cases p1 : p = j - 1
  · rw [if_pos p1]
    by_cases q1 : q = j - 1
    · rw [if_pos q1]; omega
    · rw [if_neg q1]
      by_cases q2 : q = j
      · rw [if_pos q2]; omega
      · rw [if_neg q2]; exact h j q (by omega) (by omega) h3 (.inr rfl)
  · rw [if_neg p1, if_neg (show ¬ q = j - 1 by omega)]
    by_cases p2 : p = j
    · rw [if_pos p2]
      by_cases q2 : q = j
      · rw [if_pos q2]; omega
      · rw [if_neg q2]; exact h (j - 1) q (by omega) (by omega) h3 (.inl q2)
    · rw [if_neg p2]
      by_cases q2 : q = j
      · rw [if_pos q2]; exact h p (j - 1) h1 (by omega) (by omega) (.inl (by omega))
      · rw [if_neg q2]; exact h p q h1 h2 h3 (.inl q2)
theorem inL_ok {g : Nat → T} {k a j : Nat} {c : Bool} (hk : k ≤ 1099511627776) (hj : a < j) (hjk : j < k) (hch : ∀ i, i < k → isCh (g i) = true) (hc : decide (sumT (g j) < sumT (g (j - 1))) = c) : inL g k a j c = true := by
  unfold inL
  rw [Int.toNat_natCast, show ((j : Int) - 1).toNat = j - 1 by omega, Nat.zero_add, Nat.zero_add, hch j hjk, hch (j - 1) (by omega)]
  have e : decide (cmpI (sumT (g j)) (sumT (g (j - 1))) < 0) = c := by rw [← hc]; exact decide_eq_decide.2 cmpI_lt
  rw [e]
  simp only [i64B, Bool.and_true, Bool.and_eq_true, decide_eq_true_eq, beq_iff_eq, Bool.false_or, and_true]
  omega
theorem in_inner {k a b i : Nat} (hk : k ≤ 1099511627776) (hb : b ≤ k) (hi : i < b) : ∀ (j : Nat) (g : Nat → T), a ≤ j → j ≤ i → (∀ i, i < k → isCh (g i) = true) → Inv g a i j →
    ∃ n j' g', PM k a (i + 1) g g' ∧ Srt g' a (i + 1) ∧ TrN Try.prog 1 inI n (stW 1 1 (tmk (inT k a b i ++ [(9, .num (j : Nat))]) 0 53) (soG k g)) (.exit 2) (stW 1 1 (tmk (inT k a b i ++ [(9, .num j')]) 0 53) (soG k g')) := by
  intro j
  induction j with
  | zero =>
    intro g ha hji hch hI
    refine ⟨1, _, g, .refl _ _ _ _, fun p q h1 h2 h3 => ?_, TrN.done (in_f g k a b i _ (decide_eq_false (by omega))) (by intro h; cases h)⟩
    by_cases e : q = 0
    · rw [show p = q by omega]; omega
    · exact hI p q h1 h2 (by omega) (.inl e)
  | succ j ih =>
    intro g ha hji hch hI
    by_cases hja : a = j + 1
    · refine ⟨1, _, g, .refl _ _ _ _, fun p q h1 h2 h3 => ?_, TrN.done (in_f g k a b i _ (decide_eq_false (by omega))) (by intro h; cases h)⟩
      by_cases e : q = j + 1
      · rw [show p = q by omega]; omega
      · exact hI p q h1 h2 (by omega) (.inl e)
    · by_cases hlt : sumT (g (j + 1)) < sumT (g j)
      · have hI' := hI.step (by omega) hji (by rw [Nat.add_sub_cancel]; exact hlt)
        rw [Nat.add_sub_cancel] at hI'
        have hpm : PM k a (i + 1) g (swp g (j + 1) j) := PM_swp g (by omega) (by omega) (by omega)
        obtain ⟨n, j', g', h1, h2, h3⟩ := ih (swp g (j + 1) j) (by omega) (by omega) (hpm.ch (by omega) hch) hI'
        refine ⟨n + 1, j', g', hpm.trans h1, h2, TrN.next ?_ h3⟩
        have hs := in_s g k a b i ((j + 1 : Nat) : Int) (by
          unfold inV
          rw [inL_ok hk (by omega) (by omega) hch (by rw [Nat.add_sub_cancel]; exact decide_eq_true hlt)]
          simp only [i64B, Bool.and_true, Bool.and_eq_true, decide_eq_true_eq, and_true]
          omega)
        rw [swR_eq, Int.toNat_natCast, show (((j + 1 : Nat) : Int) - 1) = (j : Nat) by omega, Int.toNat_natCast, Nat.zero_add, Nat.zero_add] at hs
        exact hs
      · refine ⟨1, _, g, .refl _ _ _ _, fun p q h1 h2 h3 => ?_, TrN.done (in_e g k a b i _ (by
          rw [inL_ok hk (by omega) (by omega) hch (by rw [Nat.add_sub_cancel]; exact decide_eq_false hlt)]
          rfl)) (by intro h; cases h)⟩
        by_cases e : q = j + 1
        · by_cases e2 : p = q
          · rw [e2]; omega
          · have := hI p j h1 (by omega) (by omega) (.inl (by omega))
            rw [e]
            omega
        · exact hI p q h1 h2 (by omega) (.inl e)
theorem in_outer {k a b : Nat} (hk : k ≤ 1099511627776) (hb : b ≤ k) : ∀ (s i : Nat) (g : Nat → T), b ≤ i + s → a < i → (∀ i, i < k → isCh (g i) = true) → Srt g a (min i b) →
    ∃ n g', PM k a b g g' ∧ Srt g' a b ∧ TrN Try.prog 1 inB n (stW 1 1 (tmk (inT k a b i) 0 53) (soG k g)) (.exit 0) (stW 1 1 (tmk [] 0 53) (soG k g'))
  | 0, i, g, hs, ha, hch, hS => by
    refine ⟨1, g, .refl _ _ _ _, by rw [show min i b = b by omega] at hS; exact hS, TrN.done ?_ (by intro h; cases h)⟩
    rw [inB_eq]
    exact Tr.seqX (in_x g k a b i (decide_eq_false (by omega))) (by intro h; cases h)
  | s + 1, i, g, hs, ha, hch, hS => by
    by_cases hi : i < b
    · rw [show min i b = i by omega] at hS
      obtain ⟨n, j', g1, h1, h2, h3⟩ := in_inner (a := a) hk hb hi i g (by omega) (Nat.le_refl _) hch (show Inv g a i i from fun p q p1 p2 p3 p4 => by
        by_cases e : q = i
        · rw [show p = q by omega]; omega
        · exact hS p q p1 p2 (by omega))
      obtain ⟨n2, g2, e1, e2, e3⟩ := in_outer (a := a) hk hb s (i + 1) g1 (by omega) (by omega) (h1.ch (by omega) hch) (by rw [show min (i + 1) b = i + 1 by omega]; exact h2)
      refine ⟨n2 + 1, g2, (h1.mono (Nat.le_refl _) (by omega)).trans e1, e2, TrN.next ?_ e3⟩
      rw [inB_eq]
      refine Tr.seq (in_c g k a b (i : Nat) (decide_eq_true (by omega))) (Tr.seq (Tr.block (Tr.seq (in_m g k a b i) (Tr.blockX (Tr.loop h3))) (fun _ h => by cases h)) ?_)
      exact in_n g1 k a b i j' (by simp only [i64B, Bool.and_true, decide_eq_true_eq]; omega)
    · refine ⟨1, g, .refl _ _ _ _, by rw [show min i b = b by omega] at hS; exact hS, TrN.done ?_ (by intro h; cases h)⟩
      rw [inB_eq]
      exact Tr.seqX (in_x g k a b i (decide_eq_false (by omega))) (by intro h; cases h)
/-- What a sort of such a stretch leaves. -/
structure Sorts (k a b : Nat) (g g' : Nat → T) : Prop where
  pm : PM k a b g g'
  srt : Srt g' a b
theorem in_run (g : Nat → T) {k a b : Nat} (hk : k ≤ 1099511627776) (hb : b ≤ k) (hab : a ≤ b) (hch : ∀ i, i < k → isCh (g i) = true) :
    ∃ g', Sorts k a b g g' ∧ Tr Try.prog 1 inC (stW 1 1 ((soS k :: ([(a : Int), b].map T.num ++ [lsF])) ++ undefs 49) (soG k g)) .normal (stW 1 1 (tmk [] 0 53) (soG k g')) := by
  obtain ⟨n, g', h1, h2, h3⟩ := in_outer (a := a) hk hb (b - a) (a + 1) g (by omega) (by omega) hch (fun p q p1 p2 p3 => by rw [show p = q by omega]; omega)
  refine ⟨g', ⟨h1, h2⟩, ?_⟩
  rw [inC_eq]
  exact Tr.seq (in_i g k a b (by simp only [i64B, Bool.and_true, decide_eq_true_eq]; omega)) (Tr.blockX (Tr.loop h3))
noncomputable def inF (k : Nat) (g : Nat → T) (a b : Nat) : Nat → T := open Classical in if h : ∃ g', Sorts k a b g g' ∧ Tr Try.prog 1 inC (stW 1 1 ((soS k :: ([(a : Int), b].map T.num ++ [lsF])) ++ undefs 49) (soG k g)) .normal (stW 1 1 (tmk [] 0 53) (soG k g')) then Classical.choose h else g
theorem inF_ok (g : Nat → T) {k a b : Nat} (hk : k ≤ 1099511627776) (hb : b ≤ k) (hab : a ≤ b) (hch : ∀ i, i < k → isCh (g i) = true) :
    Sorts k a b g (inF k g a b) ∧ Tr Try.prog 1 inC (stW 1 1 ((soS k :: ([(a : Int), b].map T.num ++ [lsF])) ++ undefs 49) (soG k g)) .normal (stW 1 1 (tmk [] 0 53) (soG k (inF k g a b))) := by
  have h := in_run g hk hb hab hch
  unfold inF
  rw [dif_pos h]
  exact Classical.choose_spec h
noncomputable def inVc (k : Nat) (g : Nat → T) : List Int → Bool
  | [a, b] => holds (0 ≤ a ∧ a ≤ b ∧ b ≤ k ∧ k ≤ 1099511627776 ∧ ∀ i, i < k → isCh (g i) = true)
  | _ => false
noncomputable def inRes (k : Nat) (g : Nat → T) : List Int → Nat → T
  | [a, b] => inF k g a.toNat b.toNat
  | _ => g
theorem Insert_ok : SoundL Try.prog 50 (rowM inVc inRes) := by
  refine rowM_ok (fn := Try.f50) (c := inC) (by kernel_rfl) (by kernel_rfl) (by kernel_rfl) (by kernel_rfl) ?_
  intro k g zs hv
  unfold inVc at hv
  split at hv
  · rename_i a b
    obtain ⟨h0, h1, h2, h3, h4⟩ := of_holds hv
    obtain ⟨a, rfl⟩ := Int.eq_ofNat_of_zero_le h0
    obtain ⟨b, rfl⟩ := Int.eq_ofNat_of_zero_le (show 0 ≤ b by omega)
    exact ⟨.normal, tmk [] 0 53, .inr rfl, (inF_ok g (k := k) (a := a) (b := b) (by omega) (by omega) (by omega) h4).2⟩
  · cases hv
end Go.Proofs.Ytjianphppcappaa

/-! slices.symMergeCmpFunc: the walk. No condition. -/
namespace Go.Proofs.Ytjianphppcappaa
open Go.AE
set_option maxRecDepth 100000
noncomputable def smC : Code := bodyC Try.f51
noncomputable def cT : Code → Code
  | .cond _ x _ => x
  | c => c
noncomputable def smX1 : Code := cT (cR (cL smC))
noncomputable def smD : Code := cR smC
noncomputable def smX2 : Code := cT (cR (cL smD))
noncomputable def smY : Code := cR smD
noncomputable def smB1 : Code := cB (cB (cL (postC 2 smX1)))
noncomputable def smZ1 : Code := cR (postC 2 smX1)
noncomputable def smB2 : Code := cB (cB (cR (cL smZ1)))
noncomputable def smB3 : Code := cB (cB (cL (postC 2 smX2)))
noncomputable def smZ2 : Code := cR (postC 2 smX2)
noncomputable def smB4 : Code := cB (cB (cR (cL smZ2)))
noncomputable def smW : Code := postC 5 smY
noncomputable def smB5 : Code := cB (cB (cL smW))
noncomputable def smR : Code := cR smW
theorem smC_eq : smC = .seq (.seq (cL (cL smC)) (.cond (.tmp 28) smX1 .skip)) smD := by kernel_rfl
theorem smD_eq : smD = .seq (.seq (cL (cL smD)) (.cond (.tmp 80) smX2 .skip)) smY := by kernel_rfl
theorem smX1_eq : postC 2 smX1 = .seq (.block 0 (.loop smB1)) (.seq (.seq (cL (cL smZ1)) (.block 2 (.loop smB2))) (cR smZ1)) := by kernel_rfl
theorem smX2_eq : postC 2 smX2 = .seq (.block 4 (.loop smB3)) (.seq (.seq (cL (cL smZ2)) (.block 6 (.loop smB4))) (cR smZ2)) := by kernel_rfl
theorem smW_eq : smW = .seq (.block 8 (.loop smB5)) smR := by kernel_rfl
theorem smR_eq : smR = .seq (cL smR) (.seq (cL (cR smR)) (.seq (cL (cR (cR smR))) (cR (cR (cR smR))))) := by kernel_rfl
def smT (k : Nat) (a m b : Int) (l : List (Nat × T)) : List T := tmk ([(0, soS k), (1, .num a), (2, .num m), (3, .num b), (4, lsF)] ++ l) 0 220
def smK : Nat := maskOf [0, 1, 2, 3, 4]
def halfI (i j : Int) : Int := IntKind.i64.wrap (shrI IntKind.u64 (IntKind.u64.wrap (i + j)) 1)
section
variable (g : Nat → T) (k : Nat) (a m b i j : Int)
def st10 : List T := smT k a m b [(10, .num i), (11, .num j)]
def st13 : List T := smT k a m b [(10, .num i), (13, .num j)]
def st14 : List T := smT k a m b [(14, .num i), (15, .num j)]
def st17 : List T := smT k a m b [(14, .num i), (17, .num j)]
theorem sm_0 (hv : (i64B (m - a) && ((m - a == 1) == false && true) && true) = true) : Tr Try.prog 1 (.seq (cL (cL smC)) (.cond (.tmp 28) smX1 .skip)) (stW 1 1 ((soS k :: ([a, m, b].map T.num ++ [lsF])) ++ undefs 215) (soG k g)) .normal (stW 1 1 (smT k a m b []) (soG k g)) :=
  Tr.evW (n := ⟨1000000, [(28, false)]⟩) (N := 1) (keep := smK) (nm := smK) (vc := i64B (m - a) && ((m - a == 1) == false && true) && true) envIn_ok mix (by kernel_rfl) hv rfl rfl (soH _ _ _)
theorem sm_0' (hv : (i64B (m - a) && ((m - a == 1) == true && true) && true) = true) : Tr Try.prog 1 (cL (cL smC)) (stW 1 1 ((soS k :: ([a, m, b].map T.num ++ [lsF])) ++ undefs 215) (soG k g)) .normal (stW 1 1 (smT k a m b [(28, .bool true)]) (soG k g)) :=
  Tr.evW (n := ⟨1000000, [(28, true)]⟩) (N := 1) (keep := smK ||| maskOf [28]) (nm := smK) (vc := i64B (m - a) && ((m - a == 1) == true && true) && true) envIn_ok mix (by kernel_rfl) hv rfl rfl (soH _ _ _)
theorem sm_1 (hv : (i64B (b - m) && ((b - m == 1) == false && true) && true) = true) : Tr Try.prog 1 (.seq (cL (cL smD)) (.cond (.tmp 80) smX2 .skip)) (stW 1 1 (smT k a m b []) (soG k g)) .normal (stW 1 1 (smT k a m b []) (soG k g)) :=
  Tr.evW (n := ⟨1000000, [(80, false)]⟩) (N := 1) (keep := smK) (nm := smK) (vc := i64B (b - m) && ((b - m == 1) == false && true) && true) envIn_ok mix (by kernel_rfl) hv rfl rfl (soH _ _ _)
theorem sm_1' (hv : (i64B (b - m) && ((b - m == 1) == true && true) && true) = true) : Tr Try.prog 1 (cL (cL smD)) (stW 1 1 (smT k a m b []) (soG k g)) .normal (stW 1 1 (smT k a m b [(80, .bool true)]) (soG k g)) :=
  Tr.evW (n := ⟨1000000, [(80, true)]⟩) (N := 1) (keep := smK ||| maskOf [80]) (nm := smK) (vc := i64B (b - m) && ((b - m == 1) == true && true) && true) envIn_ok mix (by kernel_rfl) hv rfl rfl (soH _ _ _)

/-! One element ahead. -/
theorem sm_2 : (evCode Try.prog envIn 1000000 (preC 2 smX1) (stW 1 1 (smT k a m b [(28, .bool true)]) (soG k g))).map (cutPW 1 1 (smK ||| maskOf [10, 11]) (maskOf [10, 11])) = some (.normal, true, st10 k a m b m b, soG k g, true) := by kernel_rfl
def smV3 (c : Bool) : Bool := decide (0 ≤ halfI i j ∧ halfI i j < k) && (decide (0 + (halfI i j).toNat < k) && true && (decide (0 ≤ a ∧ a < k) && (decide (0 + a.toNat < k) && true && (isCh (g (0 + (halfI i j).toNat)) && isCh (g (0 + a.toNat)) && true &&
  (decide (cmpI (sumT (g (0 + (halfI i j).toNat))) (sumT (g (0 + a.toNat))) < 0) == c && true))))) && (i64B (i + j) && true && (decide (i < j) == true && true && true))
theorem sm_3 (hv : smV3 g k a i j true = true) : Tr Try.prog 1 smB1 (stW 1 1 (st10 k a m b i j) (soG k g)) .normal (stW 1 1 (st10 k a m b (IntKind.i64.wrap (halfI i j + 1)) j) (soG k g)) :=
  Tr.evW (n := ⟨1000000, [(33, true), (50, true)]⟩) (N := 1) (keep := smK ||| maskOf [10, 11]) (nm := maskOf [10, 11]) (vc := smV3 g k a i j true) envIn_ok mix (by kernel_rfl) hv rfl rfl (soH _ _ _)
theorem sm_3' (hv : smV3 g k a i j false = true) : Tr Try.prog 1 smB1 (stW 1 1 (st10 k a m b i j) (soG k g)) .normal (stW 1 1 (st10 k a m b i (halfI i j)) (soG k g)) :=
  Tr.evW (n := ⟨1000000, [(33, true), (50, false)]⟩) (N := 1) (keep := smK ||| maskOf [10, 11]) (nm := maskOf [10, 11]) (vc := smV3 g k a i j false) envIn_ok mix (by kernel_rfl) hv rfl rfl (soH _ _ _)
theorem sm_3x (hv : decide (i < j) = false) : Tr Try.prog 1 smB1 (stW 1 1 (st10 k a m b i j) (soG k g)) (.exit 0) (stW 1 1 (st10 k a m b i j) (soG k g)) :=
  Tr.evW (n := ⟨1000000, [(33, false)]⟩) (N := 1) (keep := smK ||| maskOf [10, 11]) (nm := maskOf [10, 11]) (vc := decide (i < j) == false && true && true) envIn_ok mix (by kernel_rfl) (by rw [hv]; rfl) rfl rfl (soH _ _ _)
theorem sm_4 : Tr Try.prog 1 (cL (cL smZ1)) (stW 1 1 (st10 k a m b i j) (soG k g)) .normal (stW 1 1 (st13 k a m b i a) (soG k g)) :=
  Tr.evW (n := 1000000) (N := 1) (keep := smK ||| maskOf [10, 13]) (nm := maskOf [10, 13]) (vc := true) envIn_ok mix (by kernel_rfl) rfl rfl rfl (soH _ _ _)
def smV5 : Bool := i64B (j + 1) && true && (i64B (j + 1) && (i64B (j + 1) && (decide (0 ≤ j + 1 ∧ j + 1 < k) && (decide (0 + (j + 1).toNat < k) && true && (decide (0 ≤ j ∧ j < k) && (decide (0 + j.toNat < k) && true && (decide (0 ≤ j ∧ j < k) &&
  (decide (0 + j.toNat < k) && true && (decide (0 ≤ j + 1 ∧ j + 1 < k) && (decide (0 + (j + 1).toNat < k) && true && true))))))))) && (i64B (i - 1) && (decide (j < i - 1) == true && true) && true))
theorem sm_5 (hv : smV5 k i j = true) : Tr Try.prog 1 smB2 (stW 1 1 (st13 k a m b i j) (soG k g)) .normal (stW 1 1 (st13 k a m b i (j + 1)) [some (.rows k 1 (swR g (0 + j.toNat) (0 + (j + 1).toNat)))]) :=
  Tr.evW (n := ⟨1000000, [(58, true)]⟩) (N := 1) (keep := smK ||| maskOf [10, 13]) (nm := maskOf [10, 13]) (vc := smV5 k i j) envIn_ok mix (by kernel_rfl) hv rfl rfl (rowH fun j => by rw [swR_eq]; rfl)
theorem sm_5x (hv : (i64B (i - 1) && (decide (j < i - 1) == false && true) && true) = true) : Tr Try.prog 1 smB2 (stW 1 1 (st13 k a m b i j) (soG k g)) (.exit 2) (stW 1 1 (st13 k a m b i j) (soG k g)) :=
  Tr.evW (n := ⟨1000000, [(58, false)]⟩) (N := 1) (keep := smK ||| maskOf [10, 13]) (nm := maskOf [10, 13]) (vc := i64B (i - 1) && (decide (j < i - 1) == false && true) && true) envIn_ok mix (by kernel_rfl) hv rfl rfl (soH _ _ _)
theorem sm_6 : Tr Try.prog 1 (cR smZ1) (stW 1 1 (st13 k a m b i j) (soG k g)) .ret (stW 1 1 (tmk [] 0 220) (soG k g)) :=
  Tr.evW (n := 1000000) (N := 1) (keep := 0) (nm := 0) (vc := true) envIn_ok mix (by kernel_rfl) rfl rfl rfl (soH _ _ _)

/-! One element behind. -/
theorem sm_7 : (evCode Try.prog envIn 1000000 (preC 2 smX2) (stW 1 1 (smT k a m b [(80, .bool true)]) (soG k g))).map (cutPW 1 1 (smK ||| maskOf [14, 15]) (maskOf [14, 15])) = some (.normal, true, st14 k a m b a m, soG k g, true) := by kernel_rfl
def smV8 (c : Bool) : Bool := decide (0 ≤ m ∧ m < k) && (decide (0 + m.toNat < k) && true && (decide (0 ≤ halfI i j ∧ halfI i j < k) && (decide (0 + (halfI i j).toNat < k) && true && (isCh (g (0 + m.toNat)) && isCh (g (0 + (halfI i j).toNat)) && true &&
  ((!decide (cmpI (sumT (g (0 + m.toNat))) (sumT (g (0 + (halfI i j).toNat))) < 0)) == c && true))))) && (i64B (i + j) && true && (decide (i < j) == true && true && true))
theorem sm_8 (hv : smV8 g k m i j true = true) : Tr Try.prog 1 smB3 (stW 1 1 (st14 k a m b i j) (soG k g)) .normal (stW 1 1 (st14 k a m b (IntKind.i64.wrap (halfI i j + 1)) j) (soG k g)) :=
  Tr.evW (n := ⟨1000000, [(85, true), (103, true)]⟩) (N := 1) (keep := smK ||| maskOf [14, 15]) (nm := maskOf [14, 15]) (vc := smV8 g k m i j true) envIn_ok mix (by kernel_rfl) hv rfl rfl (soH _ _ _)
theorem sm_8' (hv : smV8 g k m i j false = true) : Tr Try.prog 1 smB3 (stW 1 1 (st14 k a m b i j) (soG k g)) .normal (stW 1 1 (st14 k a m b i (halfI i j)) (soG k g)) :=
  Tr.evW (n := ⟨1000000, [(85, true), (103, false)]⟩) (N := 1) (keep := smK ||| maskOf [14, 15]) (nm := maskOf [14, 15]) (vc := smV8 g k m i j false) envIn_ok mix (by kernel_rfl) hv rfl rfl (soH _ _ _)
theorem sm_8x (hv : decide (i < j) = false) : Tr Try.prog 1 smB3 (stW 1 1 (st14 k a m b i j) (soG k g)) (.exit 4) (stW 1 1 (st14 k a m b i j) (soG k g)) :=
  Tr.evW (n := ⟨1000000, [(85, false)]⟩) (N := 1) (keep := smK ||| maskOf [14, 15]) (nm := maskOf [14, 15]) (vc := decide (i < j) == false && true && true) envIn_ok mix (by kernel_rfl) (by rw [hv]; rfl) rfl rfl (soH _ _ _)
theorem sm_9 : Tr Try.prog 1 (cL (cL smZ2)) (stW 1 1 (st14 k a m b i j) (soG k g)) .normal (stW 1 1 (st17 k a m b i m) (soG k g)) :=
  Tr.evW (n := 1000000) (N := 1) (keep := smK ||| maskOf [14, 17]) (nm := maskOf [14, 17]) (vc := true) envIn_ok mix (by kernel_rfl) rfl rfl rfl (soH _ _ _)
def smVa : Bool := i64B (j - 1) && true && (i64B (j - 1) && (i64B (j - 1) && (decide (0 ≤ j - 1 ∧ j - 1 < k) && (decide (0 + (j - 1).toNat < k) && true && (decide (0 ≤ j ∧ j < k) && (decide (0 + j.toNat < k) && true && (decide (0 ≤ j ∧ j < k) &&
  (decide (0 + j.toNat < k) && true && (decide (0 ≤ j - 1 ∧ j - 1 < k) && (decide (0 + (j - 1).toNat < k) && true && true))))))))) && (decide (j > i) == true && true && true))
theorem sm_a (hv : smVa k i j = true) : Tr Try.prog 1 smB4 (stW 1 1 (st17 k a m b i j) (soG k g)) .normal (stW 1 1 (st17 k a m b i (j - 1)) [some (.rows k 1 (swR g (0 + j.toNat) (0 + (j - 1).toNat)))]) :=
  Tr.evW (n := ⟨1000000, [(110, true)]⟩) (N := 1) (keep := smK ||| maskOf [14, 17]) (nm := maskOf [14, 17]) (vc := smVa k i j) envIn_ok mix (by kernel_rfl) hv rfl rfl (rowH fun j => by rw [swR_eq]; rfl)
theorem sm_ax (hv : decide (j > i) = false) : Tr Try.prog 1 smB4 (stW 1 1 (st17 k a m b i j) (soG k g)) (.exit 6) (stW 1 1 (st17 k a m b i j) (soG k g)) :=
  Tr.evW (n := ⟨1000000, [(110, false)]⟩) (N := 1) (keep := smK ||| maskOf [14, 17]) (nm := maskOf [14, 17]) (vc := decide (j > i) == false && true && true) envIn_ok mix (by kernel_rfl) (by rw [hv]; rfl) rfl rfl (soH _ _ _)
theorem sm_b : Tr Try.prog 1 (cR smZ2) (stW 1 1 (st17 k a m b i j) (soG k g)) .ret (stW 1 1 (tmk [] 0 220) (soG k g)) :=
  Tr.evW (n := 1000000) (N := 1) (keep := 0) (nm := 0) (vc := true) envIn_ok mix (by kernel_rfl) rfl rfl rfl (soH _ _ _)
end

/-! Many. -/
section
variable (g : Nat → T) (k : Nat) (a m b c n s r p e : Int)
def st20 : List T := smT k a m b [(18, .num c), (19, .num n), (20, .num s), (21, .num r), (22, .num p)]
def st24 : List T := smT k a m b [(18, .num c), (20, .num s), (24, .num e)]
def smKc : Nat := maskOf [0, 1, 2, 3, 4, 18, 19, 20, 21, 22]
def smVc1 (a m b c : Int) : Bool := i64B (c + m - 1) && true && (i64B (c + m - b) && true && (decide (m > c) == true && true && (i64B (c + m) && true && (i64B (a + b) && true && true))))
theorem sm_c : (evCode Try.prog envIn ⟨1000000, [(140, true)]⟩ (preC 5 smY) (stW 1 1 (smT k a m b []) (soG k g))).map (cutPW 1 1 smKc smKc) =
    some (.normal, smVc1 a m b (halfI a b), st20 k a m b (halfI a b) (halfI a b + m) (halfI a b + m - b) (halfI a b) (halfI a b + m - 1), soG k g, true) := by kernel_rfl
def smVc2 (a m b c : Int) : Bool := i64B (c + m - 1) && true && (decide (m > c) == false && true && (i64B (c + m) && true && (i64B (a + b) && true && true)))
theorem sm_c' : (evCode Try.prog envIn ⟨1000000, [(140, false)]⟩ (preC 5 smY) (stW 1 1 (smT k a m b []) (soG k g))).map (cutPW 1 1 smKc smKc) =
    some (.normal, smVc2 a m b (halfI a b), st20 k a m b (halfI a b) (halfI a b + m) a m (halfI a b + m - 1), soG k g, true) := by kernel_rfl
def smVd (h : Int) (x : Bool) : Bool := i64B (p - h) && (decide (0 ≤ p - h ∧ p - h < k) && (decide (0 + (p - h).toNat < k) && true && (decide (0 ≤ h ∧ h < k) && (decide (0 + h.toNat < k) && true && (isCh (g (0 + (p - h).toNat)) && isCh (g (0 + h.toNat)) && true &&
  ((!decide (cmpI (sumT (g (0 + (p - h).toNat))) (sumT (g (0 + h.toNat))) < 0)) == x && true)))))) && (i64B (s + r) && true && (decide (s < r) == true && true && true))
theorem sm_d (hv : smVd g k s r p (halfI s r) true = true) : Tr Try.prog 1 smB5 (stW 1 1 (st20 k a m b c n s r p) (soG k g)) .normal (stW 1 1 (st20 k a m b c n (IntKind.i64.wrap (halfI s r + 1)) r p) (soG k g)) :=
  Tr.evW (n := ⟨1000000, [(151, true), (171, true)]⟩) (N := 1) (keep := smKc) (nm := smKc) (vc := smVd g k s r p (halfI s r) true) envIn_ok mix (by kernel_rfl) hv rfl rfl (soH _ _ _)
theorem sm_d' (hv : smVd g k s r p (halfI s r) false = true) : Tr Try.prog 1 smB5 (stW 1 1 (st20 k a m b c n s r p) (soG k g)) .normal (stW 1 1 (st20 k a m b c n s (halfI s r) p) (soG k g)) :=
  Tr.evW (n := ⟨1000000, [(151, true), (171, false)]⟩) (N := 1) (keep := smKc) (nm := smKc) (vc := smVd g k s r p (halfI s r) false) envIn_ok mix (by kernel_rfl) hv rfl rfl (soH _ _ _)
theorem sm_dx (hv : decide (s < r) = false) : Tr Try.prog 1 smB5 (stW 1 1 (st20 k a m b c n s r p) (soG k g)) (.exit 8) (stW 1 1 (st20 k a m b c n s r p) (soG k g)) :=
  Tr.evW (n := ⟨1000000, [(151, false)]⟩) (N := 1) (keep := smKc) (nm := smKc) (vc := decide (s < r) == false && true && true) envIn_ok mix (by kernel_rfl) (by rw [hv]; rfl) rfl rfl (soH _ _ _)
theorem sm_e (hv : (i64B (n - s) && true && true) = true) : Tr Try.prog 1 (cL smR) (stW 1 1 (st20 k a m b c n s r p) (soG k g)) .normal (stW 1 1 (st24 k a m b c s (n - s)) (soG k g)) :=
  Tr.evW (n := 1000000) (N := 1) (keep := maskOf [0, 1, 2, 3, 4, 18, 20, 24]) (nm := smKc ||| maskOf [24]) (vc := i64B (n - s) && true && true) envIn_ok mix (by kernel_rfl) hv rfl rfl (soH _ _ _)
end
end Go.Proofs.Ytjianphppcappaa

/-! slices.symMergeCmpFunc: its calls. No condition. -/
namespace Go.Proofs.Ytjianphppcappaa
open Go.AE
set_option maxRecDepth 100000
noncomputable def envSm (vcF : Nat → (Nat → T) → List Int → Bool) (resF : Nat → (Nat → T) → List Int → Nat → T) : Env :=
  (envIn.set 52 (liftL reach (rowM roVc roRes))).set 51 (liftL reach (rowM vcF resF))
theorem envSm_ok {vcF : Nat → (Nat → T) → List Int → Bool} {resF : Nat → (Nat → T) → List Int → Nat → T} (h : SoundL Try.prog 51 (rowM vcF resF)) : EnvOK Try.prog (envSm vcF resF) :=
  (envIn_ok.set (Rotate_ok.lift reach)).set (h.lift reach)
noncomputable def smP1 : Code := cL (cR smR)
noncomputable def smP2 : Code := cL (cR (cR smR))
noncomputable def smP3 : Code := cR (cR (cR smR))
def smKe : Nat := maskOf [0, 1, 2, 3, 4, 18, 20, 24]
section
variable (vcF : Nat → (Nat → T) → List Int → Bool) (resF : Nat → (Nat → T) → List Int → Nat → T) (henv : EnvOK Try.prog (envSm vcF resF)) (g : Nat → T) (k : Nat) (a m b c s e : Int)
/-- One comparison and, where it holds, another one. -/
def andV (x y : Bool) (o : Option Bool) : Bool := match o with
  | none => (x == false && true) && true
  | some z => (x == true && (y == z && true)) && true
include henv
theorem sm_p1 (hv : ((cvB k g (decide (0 ≤ s ∧ s < m ∧ m < e ∧ e ≤ k ∧ k ≤ 1099511627776)) && true) && andV (decide (s < m)) (decide (m < e)) (some true)) = true) : Tr Try.prog 1 smP1 (stW 1 1 (st24 k a m b c s e) (soG k g)) .normal (stW 1 1 (st24 k a m b c s e) (soG k (rtF g s.toNat m.toNat e.toNat))) :=
  Tr.evW (n := ⟨1000000, [(181, true), (185, true)]⟩) (N := 1) (keep := smKe) (nm := smKe) (vc := (cvB k g (decide (0 ≤ s ∧ s < m ∧ m < e ∧ e ≤ k ∧ k ≤ 1099511627776)) && true) && andV (decide (s < m)) (decide (m < e)) (some true)) henv mix (by kernel_rfl) hv rfl rfl (soH _ _ _)
theorem sm_p1n (hv : andV (decide (s < m)) (decide (m < e)) none = true) : Tr Try.prog 1 smP1 (stW 1 1 (st24 k a m b c s e) (soG k g)) .normal (stW 1 1 (st24 k a m b c s e) (soG k g)) :=
  Tr.evW (n := ⟨1000000, [(181, false)]⟩) (N := 1) (keep := smKe) (nm := smKe) (vc := andV (decide (s < m)) (decide (m < e)) none) henv mix (by kernel_rfl) hv rfl rfl (soH _ _ _)
theorem sm_p1f (hv : andV (decide (s < m)) (decide (m < e)) (some false) = true) : Tr Try.prog 1 smP1 (stW 1 1 (st24 k a m b c s e) (soG k g)) .normal (stW 1 1 (st24 k a m b c s e) (soG k g)) :=
  Tr.evW (n := ⟨1000000, [(181, true), (185, false)]⟩) (N := 1) (keep := smKe) (nm := smKe) (vc := andV (decide (s < m)) (decide (m < e)) (some false)) henv mix (by kernel_rfl) hv rfl rfl (soH _ _ _)
theorem sm_p2 (hv : ((cvB k g (vcF k g [a, s, c]) && true) && andV (decide (a < s)) (decide (s < c)) (some true)) = true) : Tr Try.prog 1 smP2 (stW 1 1 (st24 k a m b c s e) (soG k g)) .normal (stW 1 1 (st24 k a m b c s e) (soG k (resF k g [a, s, c]))) :=
  Tr.evW (n := ⟨1000000, [(195, true), (199, true)]⟩) (N := 1) (keep := smKe) (nm := smKe) (vc := (cvB k g (vcF k g [a, s, c]) && true) && andV (decide (a < s)) (decide (s < c)) (some true)) henv mix (by kernel_rfl) hv rfl rfl (soH _ _ _)
theorem sm_p2n (hv : andV (decide (a < s)) (decide (s < c)) none = true) : Tr Try.prog 1 smP2 (stW 1 1 (st24 k a m b c s e) (soG k g)) .normal (stW 1 1 (st24 k a m b c s e) (soG k g)) :=
  Tr.evW (n := ⟨1000000, [(195, false)]⟩) (N := 1) (keep := smKe) (nm := smKe) (vc := andV (decide (a < s)) (decide (s < c)) none) henv mix (by kernel_rfl) hv rfl rfl (soH _ _ _)
theorem sm_p2f (hv : andV (decide (a < s)) (decide (s < c)) (some false) = true) : Tr Try.prog 1 smP2 (stW 1 1 (st24 k a m b c s e) (soG k g)) .normal (stW 1 1 (st24 k a m b c s e) (soG k g)) :=
  Tr.evW (n := ⟨1000000, [(195, true), (199, false)]⟩) (N := 1) (keep := smKe) (nm := smKe) (vc := andV (decide (a < s)) (decide (s < c)) (some false)) henv mix (by kernel_rfl) hv rfl rfl (soH _ _ _)
theorem sm_p3 (hv : ((cvB k g (vcF k g [c, e, b]) && true) && andV (decide (c < e)) (decide (e < b)) (some true)) = true) : Tr Try.prog 1 smP3 (stW 1 1 (st24 k a m b c s e) (soG k g)) .normal (stW 1 1 (tmk [] 0 220) (soG k (resF k g [c, e, b]))) :=
  Tr.evW (n := ⟨1000000, [(209, true), (213, true)]⟩) (N := 1) (keep := 0) (nm := 0) (vc := (cvB k g (vcF k g [c, e, b]) && true) && andV (decide (c < e)) (decide (e < b)) (some true)) henv mix (by kernel_rfl) hv rfl rfl (soH _ _ _)
theorem sm_p3n (hv : andV (decide (c < e)) (decide (e < b)) none = true) : Tr Try.prog 1 smP3 (stW 1 1 (st24 k a m b c s e) (soG k g)) .normal (stW 1 1 (tmk [] 0 220) (soG k g)) :=
  Tr.evW (n := ⟨1000000, [(209, false)]⟩) (N := 1) (keep := 0) (nm := 0) (vc := andV (decide (c < e)) (decide (e < b)) none) henv mix (by kernel_rfl) hv rfl rfl (soH _ _ _)
theorem sm_p3f (hv : andV (decide (c < e)) (decide (e < b)) (some false) = true) : Tr Try.prog 1 smP3 (stW 1 1 (st24 k a m b c s e) (soG k g)) .normal (stW 1 1 (tmk [] 0 220) (soG k g)) :=
  Tr.evW (n := ⟨1000000, [(209, true), (213, false)]⟩) (N := 1) (keep := 0) (nm := 0) (vc := andV (decide (c < e)) (decide (e < b)) (some false)) henv mix (by kernel_rfl) hv rfl rfl (soH _ _ _)
end

end Go.Proofs.Ytjianphppcappaa

/-! slices.symMergeCmpFunc: what it leaves is in order. No condition. -/
namespace Go.Proofs.Ytjianphppcappaa
open Go.AE
set_option maxRecDepth 100000

theorem halfI_eq {i j : Nat} (h : i + j ≤ 4398046511104) : halfI i j = (((i + j) / 2 : Nat) : Int) := by
  unfold halfI shrI
  have e1 : IntKind.u64.wrap ((i : Int) + j) = (i : Int) + j := by rw [IntKind.wrap_u64]; omega
  have e2 : min ((1 : Int)).toNat IntKind.u64.bits = 1 := by decide
  rw [e1, e2, Int.fdiv_eq_ediv_of_nonneg _ (by decide), IntKind.wrap_i64]
  omega

open Classical in
/-- A search that halves. -/
theorem bsearch {n0 id : Nat} {B : Code} {S : Nat → Nat → St} {lo hi : Nat} {p : Nat → Prop} (mono : ∀ x y, lo ≤ x → x ≤ y → y < hi → p y → p x)
    (st : ∀ i j, lo ≤ i → i < j → j ≤ hi → p ((i + j) / 2) → Tr Try.prog n0 B (S i j) .normal (S ((i + j) / 2 + 1) j))
    (sf : ∀ i j, lo ≤ i → i < j → j ≤ hi → ¬ p ((i + j) / 2) → Tr Try.prog n0 B (S i j) .normal (S i ((i + j) / 2)))
    (sx : ∀ i, Tr Try.prog n0 B (S i i) (.exit id) (S i i)) : ∀ (d i j : Nat), j - i ≤ d → lo ≤ i → i ≤ j → j ≤ hi → (∀ t, lo ≤ t → t < i → p t) → (∀ t, j ≤ t → t < hi → ¬ p t) →
      ∃ n l, lo ≤ l ∧ l ≤ hi ∧ (∀ t, lo ≤ t → t < l → p t) ∧ (∀ t, l ≤ t → t < hi → ¬ p t) ∧ TrN Try.prog n0 B n (S i j) (.exit id) (S l l)
  | d, i, j, hd, h1, h2, h3, h4, h5 => by
    by_cases e : i = j
    · subst e
      exact ⟨1, i, h1, h3, h4, h5, TrN.done (sx i) (by intro h; cases h)⟩
    · have hij : i < j := by omega
      cases d with
      | zero => omega
      | succ d =>
        by_cases hp : p ((i + j) / 2)
        · obtain ⟨n, l, l1, l2, l3, l4, l5⟩ := bsearch mono st sf sx d ((i + j) / 2 + 1) j (by omega) (by omega) (by omega) h3 (fun t t1 t2 => mono t _ t1 (by omega) (by omega) hp) h5
          exact ⟨n + 1, l, l1, l2, l3, l4, TrN.next (st i j h1 hij h3 hp) l5⟩
        · obtain ⟨n, l, l1, l2, l3, l4, l5⟩ := bsearch mono st sf sx d i ((i + j) / 2) (by omega) h1 (by omega) (by omega) h4 (fun t t1 t2 ht => hp (mono _ t (by omega) t1 t2 ht))
          exact ⟨n + 1, l, l1, l2, l3, l4, TrN.next (sf i j h1 hij h3 hp) l5⟩

section
variable {k a m b : Nat} (hk : k ≤ 1099511627776) (h2 : m < b) (h3 : b ≤ k)
include hk h2 h3

/-! ### One element ahead -/
theorem sm_case1 (g : Nat → T) (hm : m = a + 1) (hch : ∀ i, i < k → isCh (g i) = true) (hs : Srt g m b) :
    ∃ g', Sorts k a b g g' ∧ Tr Try.prog 1 smC (stW 1 1 ((soS k :: ([(a : Int), m, b].map T.num ++ [lsF])) ++ undefs 215) (soG k g)) .ret (stW 1 1 (tmk [] 0 220) (soG k g')) := by
  obtain ⟨n, l, l1, l2, l3, l4, l5⟩ := bsearch (n0 := 1) (id := 0) (B := smB1) (S := fun i j => stW 1 1 (st10 k a m b i j) (soG k g)) (lo := m) (hi := b) (p := fun t => sumT (g t) < sumT (g a))
    (fun x y x1 x2 x3 hy => by have := hs x y x1 x2 x3; omega)
    (fun i j i1 i2 i3 hp => by
      have h := sm_3 g k a m b i j (by
        unfold smV3
        rw [halfI_eq (by omega), Int.toNat_natCast, Int.toNat_natCast, Nat.zero_add, Nat.zero_add, hch _ (by omega), hch _ (by omega), show decide (cmpI (sumT (g ((i + j) / 2))) (sumT (g a)) < 0) = true from decide_eq_true (cmpI_lt.2 hp)]
        simp only [i64B, Bool.and_true, Bool.and_eq_true, decide_eq_true_eq, beq_iff_eq, and_true]
        omega)
      rw [halfI_eq (by omega), show IntKind.i64.wrap (((((i + j) / 2 : Nat) : Int)) + 1) = (((i + j) / 2 + 1 : Nat) : Int) by rw [IntKind.wrap_i64]; omega] at h
      exact h)
    (fun i j i1 i2 i3 hp => by
      have h := sm_3' g k a m b i j (by
        unfold smV3
        rw [halfI_eq (by omega), Int.toNat_natCast, Int.toNat_natCast, Nat.zero_add, Nat.zero_add, hch _ (by omega), hch _ (by omega), show decide (cmpI (sumT (g ((i + j) / 2))) (sumT (g a)) < 0) = false from decide_eq_false fun h => hp (cmpI_lt.1 h)]
        simp only [i64B, Bool.and_true, Bool.and_eq_true, decide_eq_true_eq, beq_iff_eq, and_true]
        omega)
      rw [halfI_eq (by omega)] at h
      exact h)
    (fun i => sm_3x g k a m b i i (decide_eq_false (by omega))) (b - m) m b (Nat.le_refl _) (Nat.le_refl _) (by omega) (Nat.le_refl _) (fun t t1 t2 => by omega) (fun t t1 t2 => by omega)
  -- the element goes up
  let up : Nat → Nat → T := fun t => Nat.rec g (fun i f => swp f (a + i) (a + i + 1)) t
  have up_s : ∀ t, up (t + 1) = swp (up t) (a + t) (a + t + 1) := fun _ => rfl
  have up_at : ∀ t x, up t x = if a ≤ x ∧ x < a + t then g (x + 1) else if x = a + t then g a else g x := by
    intro t
    induction t with
    | zero =>
      intro x
      rw [if_neg (by omega)]
      by_cases e : x = a + 0
      · rw [if_pos e, e]; rfl
      · rw [if_neg e]; rfl
    | succ t ih =>
      intro x
      rw [up_s]
      unfold swp
      rw [ih, ih, ih]
      repeat' split
      all_goals first | rfl | (exfalso; omega) | (congr 1; omega)
  have up_pm : ∀ t, a + t < b → PM k a b g (up t) := by
    intro t
    induction t with
    | zero => intro _; exact .refl _ _ _ _
    | succ t ih => intro ht; rw [up_s]; exact (ih (by omega)).trans (PM_swp _ h3 (by omega) (by omega))
  have hloop : Tr Try.prog 1 (.block 2 (.loop smB2)) (stW 1 1 (st13 k a m b l a) (soG k g)) .normal (stW 1 1 (st13 k a m b l ((a + (l - 1 - a) : Nat) : Int)) (soG k (up (l - 1 - a)))) := by
    refine Tr.iter (n := l - 1 - a) (S := fun t => stW 1 1 (st13 k a m b l ((a + t : Nat) : Int)) (soG k (up t))) (fun t ht => ?_) ?_
    · have h := sm_5 (up t) k a m b l ((a + t : Nat) : Int) (by
        simp only [smV5, i64B, Bool.and_true, Bool.and_eq_true, decide_eq_true_eq, beq_iff_eq]
        omega)
      rw [swR_eq, Int.toNat_natCast, show (((a + t : Nat) : Int) + 1) = ((a + t + 1 : Nat) : Int) by omega, Int.toNat_natCast, Nat.zero_add, Nat.zero_add] at h
      exact h
    · exact sm_5x (up (l - 1 - a)) k a m b l _ (by
        simp only [i64B, Bool.and_true, Bool.and_eq_true, decide_eq_true_eq, beq_iff_eq, decide_eq_false_iff_not]
        omega)
  refine ⟨up (l - 1 - a), ⟨up_pm _ (by omega), ?_⟩, ?_⟩
  · intro i j i1 i2 i3
    rw [up_at, up_at]
    have e : a + (l - 1 - a) = l - 1 := by omega
    rw [e]
    by_cases c1 : i < l - 1
    · rw [if_pos ⟨i1, c1⟩]
      by_cases c2 : j < l - 1
      · rw [if_pos (by omega)]; exact hs (i + 1) (j + 1) (by omega) (by omega) (by omega)
      · rw [if_neg (by omega)]
        by_cases c3 : j = l - 1
        · rw [if_pos c3]; have := l3 (i + 1) (by omega) (by omega); omega
        · rw [if_neg c3]; exact hs (i + 1) j (by omega) (by omega) (by omega)
    · rw [if_neg (by omega)]
      by_cases c2 : i = l - 1
      · rw [if_pos c2, if_neg (by omega)]
        by_cases c3 : j = l - 1
        · rw [if_pos c3]; omega
        · rw [if_neg c3]; have := l4 j (by omega) (by omega); omega
      · rw [if_neg c2, if_neg (by omega), if_neg (by omega)]; exact hs i j (by omega) (by omega) (by omega)
  · rw [smC_eq]
    have hX : Tr Try.prog 1 smX1 (stW 1 1 (smT k a m b [(28, .bool true)]) (soG k g)) .ret (stW 1 1 (tmk [] 0 220) (soG k (up (l - 1 - a)))) := by
      refine Tr.preW envIn_ok mix 1 2 (smK ||| maskOf [10, 11]) (maskOf [10, 11]) (sm_2 g k a m b) rfl (soH _ _ _) ?_
      rw [smX1_eq]
      refine Tr.seq (Tr.blockX (Tr.loop l5)) ?_
      refine Tr.seq (Tr.seq (sm_4 g k a m b l l) hloop) ?_
      exact sm_6 _ k a m b l _
    refine Tr.seqX (Tr.seq (sm_0' g k a m b ?_) (Tr.cond (t := true) rfl (fun _ => hX) (fun h => by cases h))) (by intro h; cases h)
    simp only [i64B, Bool.and_true, Bool.and_eq_true, decide_eq_true_eq, beq_iff_eq]
    omega

/-! ### One element behind -/
theorem sm_case2 (g : Nat → T) (ham : a < m) (hm1 : ¬ m = a + 1) (hm : b = m + 1) (hch : ∀ i, i < k → isCh (g i) = true) (hs : Srt g a m) :
    ∃ g', Sorts k a b g g' ∧ Tr Try.prog 1 smC (stW 1 1 ((soS k :: ([(a : Int), m, b].map T.num ++ [lsF])) ++ undefs 215) (soG k g)) .ret (stW 1 1 (tmk [] 0 220) (soG k g')) := by
  obtain ⟨n, l, l1, l2, l3, l4, l5⟩ := bsearch (n0 := 1) (id := 4) (B := smB3) (S := fun i j => stW 1 1 (st14 k a m b i j) (soG k g)) (lo := a) (hi := m) (p := fun t => ¬ sumT (g m) < sumT (g t))
    (fun x y x1 x2 x3 hy => by have := hs x y x1 x2 x3; omega)
    (fun i j i1 i2 i3 hp => by
      have h := sm_8 g k a m b i j (by
        unfold smV8
        rw [halfI_eq (by omega), Int.toNat_natCast, Int.toNat_natCast, Nat.zero_add, Nat.zero_add, hch _ (by omega), hch _ (by omega), show decide (cmpI (sumT (g m)) (sumT (g ((i + j) / 2))) < 0) = false from decide_eq_false fun h => hp (cmpI_lt.1 h)]
        simp only [i64B, Bool.and_true, Bool.and_eq_true, decide_eq_true_eq, beq_iff_eq, and_true, Bool.not_false]
        omega)
      rw [halfI_eq (by omega), show IntKind.i64.wrap (((((i + j) / 2 : Nat) : Int)) + 1) = (((i + j) / 2 + 1 : Nat) : Int) by rw [IntKind.wrap_i64]; omega] at h
      exact h)
    (fun i j i1 i2 i3 hp => by
      have h := sm_8' g k a m b i j (by
        unfold smV8
        rw [halfI_eq (by omega), Int.toNat_natCast, Int.toNat_natCast, Nat.zero_add, Nat.zero_add, hch _ (by omega), hch _ (by omega), show decide (cmpI (sumT (g m)) (sumT (g ((i + j) / 2))) < 0) = true from decide_eq_true (cmpI_lt.2 (by omega))]
        simp only [i64B, Bool.and_true, Bool.and_eq_true, decide_eq_true_eq, beq_iff_eq, and_true, Bool.not_true]
        omega)
      rw [halfI_eq (by omega)] at h
      exact h)
    (fun i => sm_8x g k a m b i i (decide_eq_false (by omega))) (m - a) a m (Nat.le_refl _) (Nat.le_refl _) (by omega) (Nat.le_refl _) (fun t t1 t2 => by omega) (fun t t1 t2 => by omega)
  have l4 : ∀ t, l ≤ t → t < m → sumT (g m) < sumT (g t) := fun t t1 t2 => by have := l4 t t1 t2; omega
  let dn : Nat → Nat → T := fun t => Nat.rec g (fun i f => swp f (m - i) (m - i - 1)) t
  have dn_s : ∀ t, dn (t + 1) = swp (dn t) (m - t) (m - t - 1) := fun _ => rfl
  have dn_at : ∀ t, t ≤ m → ∀ x, dn t x = if x = m - t then g m else if m - t < x ∧ x ≤ m then g (x - 1) else g x := by
    intro t
    induction t with
    | zero =>
      intro _ x
      by_cases e : x = m - 0
      · rw [if_pos e, e]; rfl
      · rw [if_neg e, if_neg (by omega)]; rfl
    | succ t ih =>
      intro ht x
      rw [dn_s]
      unfold swp
      rw [ih (by omega), ih (by omega), ih (by omega)]
      repeat' split
      all_goals first | rfl | (exfalso; omega) | (congr 1; omega)
  have dn_pm : ∀ t, t ≤ m - a → PM k a b g (dn t) := by
    intro t
    induction t with
    | zero => intro _; exact .refl _ _ _ _
    | succ t ih => intro ht; rw [dn_s]; exact (ih (by omega)).trans (PM_swp _ h3 (by omega) (by omega))
  have hloop : Tr Try.prog 1 (.block 6 (.loop smB4)) (stW 1 1 (st17 k a m b l m) (soG k g)) .normal (stW 1 1 (st17 k a m b l ((m - (m - l) : Nat) : Int)) (soG k (dn (m - l)))) := by
    refine Tr.iter (n := m - l) (S := fun t => stW 1 1 (st17 k a m b l ((m - t : Nat) : Int)) (soG k (dn t))) (fun t ht => ?_) ?_
    · have h := sm_a (dn t) k a m b l ((m - t : Nat) : Int) (by
        simp only [smVa, i64B, Bool.and_true, Bool.and_eq_true, decide_eq_true_eq, beq_iff_eq]
        omega)
      rw [swR_eq, Int.toNat_natCast, show (((m - t : Nat) : Int) - 1) = ((m - t - 1 : Nat) : Int) by omega, Int.toNat_natCast, Nat.zero_add, Nat.zero_add] at h
      exact h
    · exact sm_ax (dn (m - l)) k a m b l _ (decide_eq_false (by omega))
  refine ⟨dn (m - l), ⟨dn_pm _ (by omega), ?_⟩, ?_⟩
  · intro i j i1 i2 i3
    rw [dn_at _ (by omega), dn_at _ (by omega)]
    have e : m - (m - l) = l := by omega
    rw [e]
    by_cases c1 : i = l
    · rw [if_pos c1]
      by_cases c2 : j = l
      · rw [if_pos c2]; omega
      · rw [if_neg c2, if_pos (by omega)]; have := l4 (j - 1) (by omega) (by omega); omega
    · rw [if_neg c1]
      by_cases c2 : l < i ∧ i ≤ m
      · rw [if_pos c2, if_neg (by omega), if_pos (by omega)]; exact hs (i - 1) (j - 1) (by omega) (by omega) (by omega)
      · rw [if_neg c2]
        by_cases c3 : j = l
        · rw [if_pos c3]; have := l3 i (by omega) (by omega); omega
        · rw [if_neg c3]
          by_cases c4 : l < j ∧ j ≤ m
          · rw [if_pos c4]; exact hs i (j - 1) (by omega) (by omega) (by omega)
          · rw [if_neg c4]; exact hs i j (by omega) (by omega) (by omega)
  · rw [smC_eq, smD_eq]
    have hX : Tr Try.prog 1 smX2 (stW 1 1 (smT k a m b [(80, .bool true)]) (soG k g)) .ret (stW 1 1 (tmk [] 0 220) (soG k (dn (m - l)))) := by
      refine Tr.preW envIn_ok mix 1 2 (smK ||| maskOf [14, 15]) (maskOf [14, 15]) (sm_7 g k a m b) rfl (soH _ _ _) ?_
      rw [smX2_eq]
      refine Tr.seq (Tr.blockX (Tr.loop l5)) ?_
      refine Tr.seq (Tr.seq (sm_9 g k a m b l l) hloop) ?_
      exact sm_b _ k a m b l _
    refine Tr.seq (sm_0 g k a m b ?_) (Tr.seqX (Tr.seq (sm_1' g k a m b ?_) (Tr.cond (t := true) rfl (fun _ => hX) (fun h => by cases h))) (by intro h; cases h))
    · simp only [i64B, Bool.and_true, Bool.and_eq_true, decide_eq_true_eq, beq_iff_eq, beq_eq_false_iff_ne]
      omega
    · simp only [i64B, Bool.and_true, Bool.and_eq_true, decide_eq_true_eq, beq_iff_eq]
      omega
end
end Go.Proofs.Ytjianphppcappaa

/-! slices.symMergeCmpFunc by its model. No condition. -/
namespace Go.Proofs.Ytjianphppcappaa
open Go.AE
set_option maxRecDepth 100000

/-! ### The two halves -/
theorem rt_nil {g : Nat → T} {s m e : Nat} (h : s = m ∨ e = m) (h1 : s ≤ m) (h2 : m ≤ e) : rt g s m e = g := by
  funext x
  unfold rt
  repeat' split
  all_goals first | rfl | (exfalso; omega) | (congr 1; omega)
theorem rt_pm {g : Nat → T} {k a b s m e : Nat} (h1 : s ≤ m) (h2 : m ≤ e) (ha : a ≤ s) (hb : e ≤ b) (hk : b ≤ k) : PM k a b g (rt g s m e) := by
  refine ⟨?_, fun j hj => ?_, fun j j1 j2 => ?_⟩
  · have e1 : (List.range k).map (rt g s m e) = (List.range k).map fun i => g (if s ≤ i ∧ i < s + (e - m) then i + (m - s) else if s + (e - m) ≤ i ∧ i < e then i - (e - m) else i) := by
      refine List.map_congr_left fun i _ => ?_
      unfold rt
      split
      · rfl
      · split <;> rfl
    rw [e1]
    refine perm_of (τ := fun i => if s ≤ i ∧ i < m then i + (e - m) else if m ≤ i ∧ i < e then i - (m - s) else i) (fun i hi => ?_) (fun i hi => ?_)
    all_goals (constructor <;> (repeat' split) <;> omega)
  · unfold rt
    rw [if_neg (by omega), if_neg (by omega)]
  · unfold rt
    by_cases c1 : s ≤ j ∧ j < s + (e - m)
    · exact ⟨j + (m - s), by omega, by omega, by rw [if_pos c1]⟩
    · by_cases c2 : s + (e - m) ≤ j ∧ j < e
      · exact ⟨j - (e - m), by omega, by omega, by rw [if_neg c1, if_pos c2]⟩
      · exact ⟨j, j1, j2, by rw [if_neg c1, if_neg c2]⟩

/-- What the search finds: up to there those on the left stay, from there on they go to the right. -/
structure Cut (g : Nat → T) (a m b c s : Nat) : Prop where
  lo : a ≤ s
  hi : s ≤ m
  e1 : m ≤ c + m - s
  e2 : c + m - s ≤ b
  l : a < s → c + m - s < b → sumT (g (s - 1)) ≤ sumT (g (c + m - s))
  r : s < m → m < c + m - s → sumT (g (c + m - s - 1)) < sumT (g s)

theorem halves {g : Nat → T} {a m b c s : Nat} (h : Cut g a m b c s) (hc1 : a ≤ c) (hc2 : c ≤ b) (h1 : Srt g a m) (h2 : Srt g m b) :
    Srt (rt g s m (c + m - s)) a s ∧ Srt (rt g s m (c + m - s)) s c ∧ Srt (rt g s m (c + m - s)) c (c + m - s) ∧ Srt (rt g s m (c + m - s)) (c + m - s) b ∧
      ∀ i j, a ≤ i → i < c → c ≤ j → j < b → sumT (rt g s m (c + m - s) i) ≤ sumT (rt g s m (c + m - s) j) := by
  obtain ⟨lo, hi, e1, e2, l, r⟩ := h
  generalize hE : c + m - s = e at *
  have hsc : s + (e - m) = c := by omega
  have A : ∀ x, x < s → rt g s m e x = g x := fun x hx => by unfold rt; rw [if_neg (by omega), if_neg (by omega)]
  have B : ∀ x, s ≤ x → x < c → rt g s m e x = g (x + (m - s)) := fun x x1 x2 => by unfold rt; rw [if_pos (by omega)]
  have C : ∀ x, c ≤ x → x < e → rt g s m e x = g (x - (e - m)) := fun x x1 x2 => by unfold rt; rw [if_neg (by omega), if_pos (by omega)]
  have D : ∀ x, e ≤ x → rt g s m e x = g x := fun x hx => by unfold rt; rw [if_neg (by omega), if_neg (by omega)]
  refine ⟨fun i j i1 i2 i3 => ?_, fun i j i1 i2 i3 => ?_, fun i j i1 i2 i3 => ?_, fun i j i1 i2 i3 => ?_, fun i j i1 i2 i3 i4 => ?_⟩
  · rw [A i (by omega), A j i3]; exact h1 i j i1 i2 (by omega)
  · rw [B i i1 (by omega), B j (by omega) i3]; exact h2 _ _ (by omega) (by omega) (by omega)
  · rw [C i i1 (by omega), C j (by omega) i3]; exact h1 _ _ (by omega) (by omega) (by omega)
  · rw [D i i1, D j (by omega)]; exact h2 i j (by omega) i2 i3
  · by_cases ci : i < s
    · rw [A i ci]
      by_cases cj : j < e
      · rw [C j i3 cj]; exact h1 _ _ i1 (by omega) (by omega)
      · rw [D j (by omega)]
        have := l (by omega) (by omega)
        have x1 := h1 i (s - 1) i1 (by omega) (by omega)
        have x2 := h2 e j (by omega) (by omega) i4
        omega
    · rw [B i (by omega) i2]
      by_cases cj : j < e
      · rw [C j i3 cj]
        have := r (by omega) (by omega)
        have x1 := h2 (i + (m - s)) (e - 1) (by omega) (by omega) (by omega)
        have x2 := h1 s (j - (e - m)) (by omega) (by omega) (by omega)
        omega
      · rw [D j (by omega)]; exact h2 _ _ (by omega) (by omega) i4

/-! ### The model -/
def SmRun (k : Nat) (g : Nat → T) (a m b : Nat) (g' : Nat → T) : Prop := Sorts k a b g g' ∧ ∃ e tm, (e = .ret ∨ e = .normal) ∧ Tr Try.prog 1 smC (stW 1 1 ((soS k :: ([(a : Int), m, b].map T.num ++ [lsF])) ++ undefs 215) (soG k g)) e (stW 1 1 tm (soG k g'))
noncomputable def smF (k : Nat) (g : Nat → T) (a m b : Nat) : Nat → T := open Classical in if h : ∃ g', SmRun k g a m b g' then Classical.choose h else g
theorem smF_ok {k : Nat} {g : Nat → T} {a m b : Nat} (h : ∃ g', SmRun k g a m b g') : SmRun k g a m b (smF k g a m b) := by
  unfold smF
  rw [dif_pos h]
  exact Classical.choose_spec h
structure SmIn (d k : Nat) (g : Nat → T) (a m b : Int) : Prop where
  a0 : 0 ≤ a
  am : a < m
  mb : m < b
  bk : b ≤ k
  kk : k ≤ 1099511627776
  d : b - a ≤ d
  ch : ∀ i, i < k → isCh (g i) = true
  s1 : Srt g a.toNat m.toNat
  s2 : Srt g m.toNat b.toNat
noncomputable def smVc (d k : Nat) (g : Nat → T) : List Int → Bool
  | [a, m, b] => holds (SmIn d k g a m b)
  | _ => false
noncomputable def smRes (k : Nat) (g : Nat → T) : List Int → Nat → T
  | [a, m, b] => smF k g a.toNat m.toNat b.toNat
  | _ => g
theorem Srt.one {g : Nat → T} {a b : Nat} (h : b ≤ a + 1) : Srt g a b := fun i j i1 i2 i3 => by rw [show i = j by omega]; omega
theorem andV_t {x y : Bool} (hx : x = true) (hy : y = true) : andV x y (some true) = true := by subst hx hy; rfl

theorem sm_many {k a m b : Nat} (hk : k ≤ 1099511627776) (ham : a < m) (h2 : m < b) (h3 : b ≤ k) (d : Nat) (hd : b - a ≤ d + 1) (henv : EnvOK Try.prog (envSm (smVc d) smRes))
    (IH : ∀ g a m b, a < m → m < b → b ≤ k → b - a ≤ d → (∀ i, i < k → isCh (g i) = true) → Srt g a m → Srt g m b → ∃ g', SmRun k g a m b g')
    (g : Nat → T) (hm1 : ¬ m = a + 1) (hm2 : ¬ b = m + 1) (hch : ∀ i, i < k → isCh (g i) = true) (hs1 : Srt g a m) (hs2 : Srt g m b) : ∃ g', SmRun k g a m b g' := by
  let c := (a + b) / 2
  have hc : c = (a + b) / 2 := rfl
  -- where the search goes
  let lo := if c < m then c + m - b else a
  let hi := if c < m then c else m
  have hlo : lo = if c < m then c + m - b else a := rfl
  have hhi : hi = if c < m then c else m := rfl
  have blo : a ≤ lo ∧ lo ≤ hi ∧ hi ≤ m ∧ hi ≤ c := by rw [hlo, hhi]; split <;> omega
  have rng : ∀ t, lo ≤ t → t < hi → a ≤ t ∧ t < m ∧ m ≤ c + m - 1 - t ∧ c + m - 1 - t < b := fun t t1 t2 => by
    rw [hlo] at t1; rw [hhi] at t2
    split at t1 <;> split at t2 <;> omega
  obtain ⟨n, s, l1, l2, l3, l4, l5⟩ := bsearch (n0 := 1) (id := 8) (B := smB5) (S := fun i j => stW 1 1 (st20 k a m b c ((c + m : Nat) : Int) i j ((c + m - 1 : Nat) : Int)) (soG k g)) (lo := lo) (hi := hi) (p := fun t => ¬ sumT (g (c + m - 1 - t)) < sumT (g t))
    (fun x y x1 x2 x3 hy => by
      have r1 := rng x x1 (by omega)
      have r2 := rng y (by omega) x3
      have v1 := hs1 x y r1.1 x2 r2.2.1
      have v2 := hs2 (c + m - 1 - y) (c + m - 1 - x) r2.2.2.1 (by omega) r1.2.2.2
      omega)
    (fun i j i1 i2 i3 hp => by
      have r1 := rng ((i + j) / 2) (by omega) (by omega)
      have h := sm_d g k a m b c ((c + m : Nat) : Int) i j ((c + m - 1 : Nat) : Int) (by
        rw [halfI_eq (by omega)]
        unfold smVd
        rw [show (((c + m - 1 : Nat) : Int) - ((i + j) / 2 : Nat)) = ((c + m - 1 - (i + j) / 2 : Nat) : Int) by omega, Int.toNat_natCast, Int.toNat_natCast, Nat.zero_add, Nat.zero_add, hch _ (by omega), hch _ (by omega),
          show decide (cmpI (sumT (g (c + m - 1 - (i + j) / 2))) (sumT (g ((i + j) / 2))) < 0) = false from decide_eq_false fun h => hp (cmpI_lt.1 h)]
        simp only [i64B, Bool.and_true, Bool.and_eq_true, decide_eq_true_eq, beq_iff_eq, and_true, Bool.not_false]
        omega)
      rw [halfI_eq (by omega), show IntKind.i64.wrap (((((i + j) / 2 : Nat) : Int)) + 1) = (((i + j) / 2 + 1 : Nat) : Int) by rw [IntKind.wrap_i64]; omega] at h
      exact h)
    (fun i j i1 i2 i3 hp => by
      have r1 := rng ((i + j) / 2) (by omega) (by omega)
      have h := sm_d' g k a m b c ((c + m : Nat) : Int) i j ((c + m - 1 : Nat) : Int) (by
        rw [halfI_eq (by omega)]
        unfold smVd
        rw [show (((c + m - 1 : Nat) : Int) - ((i + j) / 2 : Nat)) = ((c + m - 1 - (i + j) / 2 : Nat) : Int) by omega, Int.toNat_natCast, Int.toNat_natCast, Nat.zero_add, Nat.zero_add, hch _ (by omega), hch _ (by omega),
          show decide (cmpI (sumT (g (c + m - 1 - (i + j) / 2))) (sumT (g ((i + j) / 2))) < 0) = true from decide_eq_true (cmpI_lt.2 (by omega))]
        simp only [i64B, Bool.and_true, Bool.and_eq_true, decide_eq_true_eq, beq_iff_eq, and_true, Bool.not_true]
        omega)
      rw [halfI_eq (by omega)] at h
      exact h)
    (fun i => sm_dx g k a m b c _ i i _ (decide_eq_false (by omega))) (hi - lo) lo hi (Nat.le_refl _) (Nat.le_refl _) blo.2.1 (Nat.le_refl _) (fun t t1 t2 => by omega) (fun t t1 t2 => by omega)
  have cut : Cut g a m b c s := by
    refine ⟨by omega, by omega, by omega, ?_, fun x1 x2 => ?_, fun x1 x2 => ?_⟩
    · rw [hlo] at l1; split at l1 <;> omega
    · have hls : lo < s := by rw [hlo] at l1 ⊢; split at l1 <;> (split <;> omega)
      have := l3 (s - 1) (by omega) (by omega)
      rw [show c + m - 1 - (s - 1) = c + m - s by omega] at this
      omega
    · have hsh : s < hi := by rw [hhi] at l2 ⊢; split at l2 <;> (split <;> omega)
      have := l4 s (Nat.le_refl _) hsh
      rw [show c + m - 1 - s = c + m - s - 1 by omega] at this
      omega
  obtain ⟨v1, v2, v3, v4, v5⟩ := halves cut (by omega) (by omega) hs1 hs2
  have pm1 : PM k a b g (rt g s m (c + m - s)) := rt_pm cut.hi cut.e1 cut.lo cut.e2 h3
  obtain ⟨c1, c2, c3, c4, _, _⟩ := cut
  generalize hE : c + m - s = e at *
  generalize hg1 : rt g s m e = g1 at *
  have hch1 := pm1.ch h3 hch
  -- the parts behind the search
  have p1 : Tr Try.prog 1 smP1 (stW 1 1 (st24 k a m b c s e) (soG k g)) .normal (stW 1 1 (st24 k a m b c s e) (soG k g1)) := by
    by_cases q1 : s < m
    · by_cases q2 : m < e
      · have h := sm_p1 (smVc d) smRes henv g k a m b c s e (by
          rw [cvB_ok (decide_eq_true (by omega)), andV_t (decide_eq_true (by omega)) (decide_eq_true (by omega))]
          rfl)
        rw [rtF_eq, Int.toNat_natCast, Int.toNat_natCast, Int.toNat_natCast, hg1] at h
        exact h
      · have h := sm_p1f (smVc d) smRes henv g k a m b c s e (by
          unfold andV
          rw [decide_eq_true (show (s : Int) < m by omega), decide_eq_false (show ¬ (m : Int) < e by omega)]
          rfl)
        rw [← hg1, rt_nil (.inr (by omega)) c2 c3]
        exact h
    · have h := sm_p1n (smVc d) smRes henv g k a m b c s e (by
        unfold andV
        rw [decide_eq_false (show ¬ (s : Int) < m by omega)]
        rfl)
      rw [← hg1, rt_nil (.inl (by omega)) c2 c3]
      exact h
  have p2 : ∃ g2, Sorts k a c g1 g2 ∧ Tr Try.prog 1 smP2 (stW 1 1 (st24 k a m b c s e) (soG k g1)) .normal (stW 1 1 (st24 k a m b c s e) (soG k g2)) := by
    by_cases q1 : a < s
    · by_cases q2 : s < c
      · have hr := smF_ok (IH g1 a s c q1 q2 (by omega) (by omega) hch1 v1 v2)
        refine ⟨_, hr.1, ?_⟩
        have hcv : cvB k g1 (smVc d k g1 [(a : Int), s, c]) = true := cvB_ok (holds_of (p := SmIn d k g1 a s c) ⟨by omega, by omega, by omega, by omega, hk, by omega, hch1, by simpa using v1, by simpa using v2⟩)
        have h := sm_p2 (smVc d) smRes henv g1 k a m b c s e (by
          rw [hcv, andV_t (decide_eq_true (by omega)) (decide_eq_true (by omega))]
          rfl)
        exact h
      · refine ⟨g1, ⟨.refl _ _ _ _, ?_⟩, sm_p2f (smVc d) smRes henv g1 k a m b c s e (by
          unfold andV
          rw [decide_eq_true (show (a : Int) < s by omega), decide_eq_false (show ¬ (s : Int) < c by omega)]
          rfl)⟩
        rw [show c = s by omega]; exact v1
    · refine ⟨g1, ⟨.refl _ _ _ _, ?_⟩, sm_p2n (smVc d) smRes henv g1 k a m b c s e (by
        unfold andV
        rw [decide_eq_false (show ¬ (a : Int) < s by omega)]
        rfl)⟩
      rw [show a = s by omega]; exact v2
  obtain ⟨g2, hS2, hT2⟩ := p2
  have hch2 := hS2.pm.ch (by omega) hch1
  have same2 : ∀ j, c ≤ j → g2 j = g1 j := fun j hj => hS2.pm.out j (.inr hj)
  have w3 : Srt g2 c e := fun i j i1 i2 i3 => by rw [same2 i i1, same2 j (by omega)]; exact v3 i j i1 i2 i3
  have w4 : Srt g2 e b := fun i j i1 i2 i3 => by rw [same2 i (by omega), same2 j (by omega)]; exact v4 i j i1 i2 i3
  have p3 : ∃ g3, Sorts k c b g2 g3 ∧ Tr Try.prog 1 smP3 (stW 1 1 (st24 k a m b c s e) (soG k g2)) .normal (stW 1 1 (tmk [] 0 220) (soG k g3)) := by
    by_cases q1 : c < e
    · by_cases q2 : e < b
      · have hr := smF_ok (IH g2 c e b q1 q2 h3 (by omega) hch2 w3 w4)
        refine ⟨_, hr.1, ?_⟩
        have hcv : cvB k g2 (smVc d k g2 [(c : Int), e, b]) = true := cvB_ok (holds_of (p := SmIn d k g2 c e b) ⟨by omega, by omega, by omega, by omega, hk, by omega, hch2, by simpa using w3, by simpa using w4⟩)
        have h := sm_p3 (smVc d) smRes henv g2 k a m b c s e (by
          rw [hcv, andV_t (decide_eq_true (by omega)) (decide_eq_true (by omega))]
          rfl)
        exact h
      · refine ⟨g2, ⟨.refl _ _ _ _, ?_⟩, sm_p3f (smVc d) smRes henv g2 k a m b c s e (by
          unfold andV
          rw [decide_eq_true (show (c : Int) < e by omega), decide_eq_false (show ¬ (e : Int) < b by omega)]
          rfl)⟩
        rw [show b = e by omega]; exact w3
    · refine ⟨g2, ⟨.refl _ _ _ _, ?_⟩, sm_p3n (smVc d) smRes henv g2 k a m b c s e (by
        unfold andV
        rw [decide_eq_false (show ¬ (c : Int) < e by omega)]
        rfl)⟩
      rw [show c = e by omega]; exact w4
  obtain ⟨g3, hS3, hT3⟩ := p3
  -- in order
  refine ⟨g3, ⟨⟨(pm1.trans (hS2.pm.mono (Nat.le_refl _) (by omega))).trans (hS3.pm.mono (by omega) (Nat.le_refl _)), ?_⟩, .normal, tmk [] 0 220, .inr rfl, ?_⟩⟩
  · have same3 : ∀ j, j < c → g3 j = g2 j := fun j hj => hS3.pm.out j (.inl hj)
    have cross : ∀ j, c ≤ j → j < b → ∀ i, a ≤ i → i < c → sumT (g3 i) ≤ sumT (g3 j) := by
      refine hS3.pm.seg (p := fun t => ∀ i, a ≤ i → i < c → sumT (g3 i) ≤ sumT t) fun j j1 j2 i i1 i2 => ?_
      rw [same3 i i2, same2 j j1]
      exact hS2.pm.seg (p := fun t => sumT t ≤ sumT (g1 j)) (fun i i1 i2 => v5 i j i1 i2 j1 j2) i i1 i2
    intro i j i1 i2 i3
    by_cases ci : i < c
    · by_cases cj : j < c
      · rw [same3 i ci, same3 j cj]; exact hS2.srt i j i1 i2 cj
      · exact cross j (by omega) i3 i i1 ci
    · exact hS3.srt i j (by omega) i2 i3
  · rw [smC_eq, smD_eq]
    refine Tr.seq (sm_0 g k a m b ?_) (Tr.seq (sm_1 g k a m b ?_) ?_)
    · simp only [i64B, Bool.and_true, Bool.and_eq_true, decide_eq_true_eq, beq_iff_eq, beq_eq_false_iff_ne]; omega
    · simp only [i64B, Bool.and_true, Bool.and_eq_true, decide_eq_true_eq, beq_iff_eq, beq_eq_false_iff_ne]; omega
    have tail : Tr Try.prog 1 smW (stW 1 1 (st20 k a m b c ((c + m : Nat) : Int) lo hi ((c + m - 1 : Nat) : Int)) (soG k g)) .normal (stW 1 1 (tmk [] 0 220) (soG k g3)) := by
      rw [smW_eq, smR_eq]
      refine Tr.seq (Tr.blockX (Tr.loop l5)) ?_
      have he := sm_e g k a m b c ((c + m : Nat) : Int) s s ((c + m - 1 : Nat) : Int) (by simp only [i64B, Bool.and_true, decide_eq_true_eq]; omega)
      rw [show (((c + m : Nat) : Int) - s) = (e : Int) by omega] at he
      exact Tr.seq he (Tr.seq p1 (Tr.seq hT2 hT3))
    by_cases cm : c < m
    · have elo : lo = c + m - b := by rw [hlo, if_pos cm]
      have ehi : hi = c := by rw [hhi, if_pos cm]
      have h0 := sm_c g k a m b
      rw [halfI_eq (by omega)] at h0
      refine Tr.preW envIn_ok mix 1 5 smKc smKc h0 ?_ (soH _ _ _) ?_
      · simp only [smVc1, i64B, Bool.and_true, Bool.and_eq_true, decide_eq_true_eq, beq_iff_eq]; omega
      · rw [elo, ehi] at tail
        rw [show ((((a + b) / 2 : Nat) : Int) + m) = ((c + m : Nat) : Int) by omega, show (((c + m : Nat) : Int) - b) = ((c + m - b : Nat) : Int) by omega, show (((c + m : Nat) : Int) - 1) = ((c + m - 1 : Nat) : Int) by omega]
        exact tail
    · have elo : lo = a := by rw [hlo, if_neg cm]
      have ehi : hi = m := by rw [hhi, if_neg cm]
      have h0 := sm_c' g k a m b
      rw [halfI_eq (by omega)] at h0
      refine Tr.preW envIn_ok mix 1 5 smKc smKc h0 ?_ (soH _ _ _) ?_
      · simp only [smVc2, i64B, Bool.and_true, Bool.and_eq_true, decide_eq_true_eq, beq_iff_eq, decide_eq_false_iff_not]; omega
      · rw [elo, ehi] at tail
        rw [show ((((a + b) / 2 : Nat) : Int) + m) = ((c + m : Nat) : Int) by omega, show (((c + m : Nat) : Int) - 1) = ((c + m - 1 : Nat) : Int) by omega]
        exact tail

theorem sm_ok_of {d : Nat} (h : ∀ k, k ≤ 1099511627776 → ∀ g a m b, a < m → m < b → b ≤ k → b - a ≤ d → (∀ i, i < k → isCh (g i) = true) → Srt g a m → Srt g m b → ∃ g', SmRun k g a m b g') : SoundL Try.prog 51 (rowM (smVc d) smRes) := by
  refine rowM_ok (fn := Try.f51) (c := smC) (by kernel_rfl) (by kernel_rfl) (by kernel_rfl) (by kernel_rfl) ?_
  intro k g zs hv
  unfold smVc at hv
  split at hv
  · rename_i a m b
    obtain ⟨h0, h1, h2, h3, h4, h5, h6, h7, h8⟩ := of_holds hv
    obtain ⟨a, rfl⟩ := Int.eq_ofNat_of_zero_le h0
    obtain ⟨m, rfl⟩ := Int.eq_ofNat_of_zero_le (show 0 ≤ m by omega)
    obtain ⟨b, rfl⟩ := Int.eq_ofNat_of_zero_le (show 0 ≤ b by omega)
    rw [Int.toNat_natCast, Int.toNat_natCast] at h7 h8
    obtain ⟨_, e, tm, he, htr⟩ := smF_ok (h k h4 g a m b (by omega) (by omega) (by omega) (by omega) h6 h7 h8)
    exact ⟨e, tm, he, htr⟩
  · cases hv
theorem sm_all : ∀ d k, k ≤ 1099511627776 → ∀ g a m b, a < m → m < b → b ≤ k → b - a ≤ d → (∀ i, i < k → isCh (g i) = true) → Srt g a m → Srt g m b → ∃ g', SmRun k g a m b g'
  | 0, k, _, g, a, m, b, h1, h2, _, h4, _, _, _ => by omega
  | d + 1, k, hk, g, a, m, b, h1, h2, h3, h4, hch, s1, s2 => by
    by_cases c1 : m = a + 1
    · obtain ⟨g', e1, e2⟩ := sm_case1 hk h2 h3 g c1 hch s2
      exact ⟨g', e1, .ret, _, .inl rfl, e2⟩
    · by_cases c2 : b = m + 1
      · obtain ⟨g', e1, e2⟩ := sm_case2 hk h2 h3 g h1 c1 c2 hch s1
        exact ⟨g', e1, .ret, _, .inl rfl, e2⟩
      · exact sm_many hk h1 h2 h3 d h4 (envSm_ok (sm_ok_of fun k hk => sm_all d k hk)) (sm_all d k hk) g c1 c2 hch s1 s2
theorem Merge_ok (d : Nat) : SoundL Try.prog 51 (rowM (smVc d) smRes) := sm_ok_of (sm_all d)
theorem smF_sorts {k : Nat} (hk : k ≤ 1099511627776) {g : Nat → T} {a m b : Nat} (h1 : a < m) (h2 : m < b) (h3 : b ≤ k) (hch : ∀ i, i < k → isCh (g i) = true) (s1 : Srt g a m) (s2 : Srt g m b) : Sorts k a b g (smF k g a m b) :=
  (smF_ok (sm_all (b - a) k hk g a m b h1 h2 h3 (Nat.le_refl _) hch s1 s2)).1
end Go.Proofs.Ytjianphppcappaa

/-! slices.stableCmpFunc and SortStableFunc: what they leave is in order, and the same. No condition. -/
namespace Go.Proofs.Ytjianphppcappaa
open Go.AE
set_option maxRecDepth 100000
noncomputable def envSb (d : Nat) : Env := (env0.set 50 (liftL reach (rowM inVc inRes))).set 51 (liftL reach (rowM (smVc d) smRes))
theorem envSb_ok (d : Nat) : EnvOK Try.prog (envSb d) := ((env0_ok _).set (Insert_ok.lift reach)).set ((Merge_ok d).lift reach)
noncomputable def sbC : Code := bodyC Try.f47
noncomputable def sbX : Code := postC 2 sbC
noncomputable def sbB1 : Code := cB (cB (cL sbX))
noncomputable def sbZ : Code := cR (cR sbX)
noncomputable def sbB2 : Code := cB (cB sbZ)
noncomputable def sbM : Code := cB (cR sbB2)
noncomputable def sbB3 : Code := cB (cB (cL (cR sbM)))
noncomputable def sbW : Code := cR (cR sbM)
theorem sbX_eq : sbX = .seq (.block 0 (.loop sbB1)) (.seq (cL (cR sbX)) (.block 2 (.loop sbB2))) := by kernel_rfl
theorem sbB2_eq : sbB2 = .seq (cL sbB2) (.block 3 (.seq (cL sbM) (.seq (.block 4 (.loop sbB3)) sbW))) := by kernel_rfl
def sbT (k : Nat) (n bs : Int) : List (Nat × T) := [(0, soS k), (1, .num n), (2, lsF), (6, .num bs)]
def sbT2 (k : Nat) (n bs a b : Int) : List (Nat × T) := sbT k n bs ++ [(7, .num a), (8, .num b)]
def sbK : Nat := maskOf [0, 1, 2, 6]
def sbK2 : Nat := maskOf [0, 1, 2, 6, 7, 8]
section
variable (d : Nat)
include d
variable (g : Nat → T) (k : Nat) (n bs a b : Int)
theorem sb_i : (evCode Try.prog (envSb d) 1000000 (preC 2 sbC) (stW 1 1 ((soS k :: ([n].map T.num ++ [lsF])) ++ undefs 60) (soG k g))).map (cutPW 1 1 sbK2 sbK2) =
    some (.normal, true, tmk (sbT2 k n 20 0 20) 0 63, soG k g, true) := by kernel_rfl
theorem sb_s1 (hv : ((i64B (b + bs) && true) && ((cvB k g (inVc k g [a, b]) && true) && (decide (b ≤ n) == true && true && true))) = true) :
    Tr Try.prog 1 sbB1 (stW 1 1 (tmk (sbT2 k n bs a b) 0 63) (soG k g)) .normal (stW 1 1 (tmk (sbT2 k n bs b (b + bs)) 0 63) (soG k (inRes k g [a, b]))) :=
  Tr.evW (n := ⟨1000000, [(13, true)]⟩) (N := 1) (keep := sbK2) (nm := sbK2) (vc := (i64B (b + bs) && true) && ((cvB k g (inVc k g [a, b]) && true) && (decide (b ≤ n) == true && true && true))) (envSb_ok d) mix (by kernel_rfl) hv rfl rfl (soH _ _ _)
theorem sb_x1 (hv : decide (b ≤ n) = false) : Tr Try.prog 1 sbB1 (stW 1 1 (tmk (sbT2 k n bs a b) 0 63) (soG k g)) (.exit 0) (stW 1 1 (tmk (sbT2 k n bs a b) 0 63) (soG k g)) :=
  Tr.evW (n := ⟨1000000, [(13, false)]⟩) (N := 1) (keep := sbK2) (nm := sbK2) (vc := decide (b ≤ n) == false && true && true) (envSb_ok d) mix (by kernel_rfl) (by rw [hv]; rfl) rfl rfl (soH _ _ _)
theorem sb_6 (hv : (cvB k g (inVc k g [a, n]) && true && true) = true) : Tr Try.prog 1 (cL (cR sbX)) (stW 1 1 (tmk (sbT2 k n bs a b) 0 63) (soG k g)) .normal (stW 1 1 (tmk (sbT k n bs) 0 63) (soG k (inRes k g [a, n]))) :=
  Tr.evW (n := 1000000) (N := 1) (keep := sbK) (nm := sbK) (vc := cvB k g (inVc k g [a, n]) && true && true) (envSb_ok d) mix (by kernel_rfl) hv rfl rfl (soH _ _ _)
theorem sb_c (hv : decide (bs < n) = true) : Tr Try.prog 1 (cL sbB2) (stW 1 1 (tmk (sbT k n bs) 0 63) (soG k g)) .normal (stW 1 1 (tmk (sbT k n bs) 0 63) (soG k g)) :=
  Tr.evW (n := ⟨1000000, [(30, true)]⟩) (N := 1) (keep := sbK) (nm := sbK) (vc := decide (bs < n) == true && true && true) (envSb_ok d) mix (by kernel_rfl) (by rw [hv]; rfl) rfl rfl (soH _ _ _)
theorem sb_cx (hv : decide (bs < n) = false) : Tr Try.prog 1 (cL sbB2) (stW 1 1 (tmk (sbT k n bs) 0 63) (soG k g)) (.exit 2) (stW 1 1 (tmk (sbT k n bs) 0 63) (soG k g)) :=
  Tr.evW (n := ⟨1000000, [(30, false)]⟩) (N := 1) (keep := sbK) (nm := sbK) (vc := decide (bs < n) == false && true && true) (envSb_ok d) mix (by kernel_rfl) (by rw [hv]; rfl) rfl rfl (soH _ _ _)
theorem sb_8 (hv : (i64B (2 * bs) && true && true) = true) : Tr Try.prog 1 (cL sbM) (stW 1 1 (tmk (sbT k n bs) 0 63) (soG k g)) .normal (stW 1 1 (tmk (sbT2 k n bs 0 (2 * bs)) 0 63) (soG k g)) :=
  Tr.evW (n := 1000000) (N := 1) (keep := sbK2) (nm := sbK2) (vc := i64B (2 * bs) && true && true) (envSb_ok d) mix (by kernel_rfl) hv rfl rfl (soH _ _ _)
theorem sb_s3 (hv : ((i64B (2 * bs) && (i64B (b + 2 * bs) && true)) && ((i64B (a + bs) && (cvB k g (smVc d k g [a, a + bs, b]) && true)) && (decide (b ≤ n) == true && true && true))) = true) :
    Tr Try.prog 1 sbB3 (stW 1 1 (tmk (sbT2 k n bs a b) 0 63) (soG k g)) .normal (stW 1 1 (tmk (sbT2 k n bs b (b + 2 * bs)) 0 63) (soG k (smRes k g [a, a + bs, b]))) :=
  Tr.evW (n := ⟨1000000, [(35, true)]⟩) (N := 1) (keep := sbK2) (nm := sbK2) (vc := (i64B (2 * bs) && (i64B (b + 2 * bs) && true)) && ((i64B (a + bs) && (cvB k g (smVc d k g [a, a + bs, b]) && true)) && (decide (b ≤ n) == true && true && true))) (envSb_ok d) mix (by kernel_rfl) hv rfl rfl (soH _ _ _)
theorem sb_x3 (hv : decide (b ≤ n) = false) : Tr Try.prog 1 sbB3 (stW 1 1 (tmk (sbT2 k n bs a b) 0 63) (soG k g)) (.exit 4) (stW 1 1 (tmk (sbT2 k n bs a b) 0 63) (soG k g)) :=
  Tr.evW (n := ⟨1000000, [(35, false)]⟩) (N := 1) (keep := sbK2) (nm := sbK2) (vc := decide (b ≤ n) == false && true && true) (envSb_ok d) mix (by kernel_rfl) (by rw [hv]; rfl) rfl rfl (soH _ _ _)
theorem sb_w (hv : ((i64B (bs * 2) && true) && ((cvB k g (smVc d k g [a, a + bs, n]) && true) && ((decide (a + bs < n) == true && true) && (i64B (a + bs) && true && true)))) = true) :
    Tr Try.prog 1 sbW (stW 1 1 (tmk (sbT2 k n bs a b) 0 63) (soG k g)) .normal (stW 1 1 (tmk (sbT k n (bs * 2)) 0 63) (soG k (smRes k g [a, a + bs, n]))) :=
  Tr.evW (n := ⟨1000000, [(54, true)]⟩) (N := 1) (keep := sbK) (nm := sbK) (vc := (i64B (bs * 2) && true) && ((cvB k g (smVc d k g [a, a + bs, n]) && true) && ((decide (a + bs < n) == true && true) && (i64B (a + bs) && true && true)))) (envSb_ok d) mix (by kernel_rfl) hv rfl rfl (soH _ _ _)
theorem sb_wn (hv : ((i64B (bs * 2) && true) && ((decide (a + bs < n) == false && true) && (i64B (a + bs) && true && true))) = true) :
    Tr Try.prog 1 sbW (stW 1 1 (tmk (sbT2 k n bs a b) 0 63) (soG k g)) .normal (stW 1 1 (tmk (sbT k n (bs * 2)) 0 63) (soG k g)) :=
  Tr.evW (n := ⟨1000000, [(54, false)]⟩) (N := 1) (keep := sbK) (nm := sbK) (vc := (i64B (bs * 2) && true) && ((decide (a + bs < n) == false && true) && (i64B (a + bs) && true && true))) (envSb_ok d) mix (by kernel_rfl) hv rfl rfl (soH _ _ _)
end

/-! ### What stays -/
theorem Srt.congr {g g' : Nat → T} {a b : Nat} (h : Srt g a b) (he : ∀ j, a ≤ j → j < b → g' j = g j) : Srt g' a b := fun i j i1 i2 i3 => by
  rw [he i i1 (by omega), he j (by omega) i3]; exact h i j i1 i2 i3
theorem dvd_step {c x a : Nat} (h1 : c ∣ x) (h2 : c ∣ a) (h : x < a) : x + c ≤ a := by
  have h3 : c ∣ a - x := Nat.dvd_sub h2 h1
  have := Nat.le_of_dvd (by omega) h3
  omega
/-- So long stretches are in order. -/
def Blk (g : Nat → T) (c n : Nat) : Prop := ∀ x, c ∣ x → Srt g x (min (x + c) n)
def Chs (k : Nat) (g : Nat → T) : Prop := ∀ i, i < k → isCh (g i) = true
def big : Nat := 1099511627776
section
variable {k n : Nat} (hk : k ≤ 1099511627776) (hn : n ≤ k)
include hk hn
omit hn in
theorem in_call {g : Nat → T} {a b : Nat} (h1 : a ≤ b) (h2 : b ≤ k) (hch : Chs k g) : cvB k g (inVc k g [(a : Int), b]) = true :=
  cvB_ok (holds_of (p := (0 : Int) ≤ a ∧ (a : Int) ≤ (b : Int) ∧ (b : Int) ≤ k ∧ k ≤ 1099511627776 ∧ ∀ i, i < k → isCh (g i) = true) ⟨by omega, by omega, by omega, hk, hch⟩)
theorem sb_l1 : ∀ (s a : Nat) (g : Nat → T), n ≤ a + s → a ≤ n → 20 ∣ a → Chs k g → (∀ x, 20 ∣ x → x < a → Srt g x (x + 20)) →
    ∃ m g' a', PM k 0 n g g' ∧ a' ≤ n ∧ n < a' + 20 ∧ 20 ∣ a' ∧ (∀ x, 20 ∣ x → x < a' → Srt g' x (x + 20)) ∧
      TrN Try.prog 1 sbB1 m (stW 1 1 (tmk (sbT2 k n 20 a ((a + 20 : Nat) : Int)) 0 63) (soG k g)) (.exit 0) (stW 1 1 (tmk (sbT2 k n 20 a' ((a' + 20 : Nat) : Int)) 0 63) (soG k g')) := by
  intro s
  induction s with
  | zero =>
    intro a g h1 h2 h3 h4 h5
    exact ⟨1, g, a, .refl _ _ _ _, h2, by omega, h3, h5, TrN.done (sb_x1 big g k n 20 a _ (decide_eq_false (by omega))) (by intro h; cases h)⟩
  | succ s ih =>
    intro a g h1 h2 h3 h4 h5
    by_cases hb : a + 20 ≤ n
    · have hS := (inF_ok g (k := k) (a := a) (b := a + 20) hk (by omega) (by omega) h4).1
      have pm : PM k 0 n g (inF k g a (a + 20)) := hS.pm.mono (by omega) (by omega)
      obtain ⟨m, g', a', e1, e2, e3, e4, e5, e6⟩ := ih (a + 20) (inF k g a (a + 20)) (by omega) hb (by omega) (pm.ch hn h4) (fun x x1 x2 => by
        by_cases hx : x < a
        · have := dvd_step x1 h3 hx
          exact (h5 x x1 hx).congr fun j j1 j2 => hS.pm.out j (.inl (by omega))
        · rw [show x = a by omega]; exact hS.srt)
      refine ⟨m + 1, g', a', pm.trans e1, e2, e3, e4, e5, TrN.next ?_ e6⟩
      have h := sb_s1 big g k n 20 a ((a + 20 : Nat) : Int) (by
        rw [in_call hk (by omega) (by omega) h4]
        simp only [i64B, Bool.and_true, Bool.true_and, Bool.and_eq_true, decide_eq_true_eq, beq_iff_eq, true_and]
        omega)
      exact h
    · exact ⟨1, g, a, .refl _ _ _ _, h2, by omega, h3, h5, TrN.done (sb_x1 big g k n 20 a _ (decide_eq_false (by omega))) (by intro h; cases h)⟩
theorem sm_call {g : Nat → T} {a m b : Nat} (h1 : a < m) (h2 : m < b) (h3 : b ≤ k) (hch : Chs k g) (s1 : Srt g a m) (s2 : Srt g m b) : cvB k g (smVc big k g [(a : Int), m, b]) = true :=
  cvB_ok (holds_of (p := SmIn big k g a m b) ⟨by omega, by omega, by omega, by omega, hk, by unfold big; omega, hch, by simpa using s1, by simpa using s2⟩)
theorem sb_l3 {c : Nat} (hc : 0 < c) (hcn : c < n) : ∀ (s a : Nat) (g : Nat → T), n ≤ a + s → a ≤ n → 2 * c ∣ a → Chs k g → (∀ x, 2 * c ∣ x → x < a → Srt g x (x + 2 * c)) → (∀ x, c ∣ x → a ≤ x → Srt g x (min (x + c) n)) →
    ∃ m g' a', PM k 0 n g g' ∧ a' ≤ n ∧ n < a' + 2 * c ∧ 2 * c ∣ a' ∧ (∀ x, 2 * c ∣ x → x < a' → Srt g' x (x + 2 * c)) ∧ (∀ x, c ∣ x → a' ≤ x → Srt g' x (min (x + c) n)) ∧
      TrN Try.prog 1 sbB3 m (stW 1 1 (tmk (sbT2 k n c a ((a + 2 * c : Nat) : Int)) 0 63) (soG k g)) (.exit 4) (stW 1 1 (tmk (sbT2 k n c a' ((a' + 2 * c : Nat) : Int)) 0 63) (soG k g')) := by
  intro s
  induction s with
  | zero =>
    intro a g h1 h2 h3 h4 h5 h6
    exact ⟨1, g, a, .refl _ _ _ _, h2, by omega, h3, h5, h6, TrN.done (sb_x3 big g k n c a _ (decide_eq_false (by omega))) (by intro h; cases h)⟩
  | succ s ih =>
    intro a g h1 h2 h3 h4 h5 h6
    by_cases hb : a + 2 * c ≤ n
    · have ca : c ∣ a := Nat.dvd_trans ⟨2, Nat.mul_comm _ _⟩ h3
      have t1 : Srt g a (a + c) := by have := h6 a ca (Nat.le_refl _); rw [Nat.min_eq_left (by omega)] at this; exact this
      have t2 : Srt g (a + c) (a + 2 * c) := by have := h6 (a + c) (Nat.dvd_add ca (Nat.dvd_refl _)) (by omega); rw [Nat.min_eq_left (by omega), show a + c + c = a + 2 * c by omega] at this; exact this
      have hS := smF_sorts hk (g := g) (a := a) (m := a + c) (b := a + 2 * c) (by omega) (by omega) (by omega) h4 t1 t2
      have pm : PM k 0 n g (smF k g a (a + c) (a + 2 * c)) := hS.pm.mono (by omega) (by omega)
      obtain ⟨m, g', a', e1, e2, e3, e4, e5, e6, e7⟩ := ih (a + 2 * c) (smF k g a (a + c) (a + 2 * c)) (by omega) hb (Nat.dvd_add h3 (Nat.dvd_refl _)) (pm.ch hn h4) (fun x x1 x2 => by
        by_cases hx : x < a
        · have := dvd_step x1 h3 hx
          exact (h5 x x1 hx).congr fun j j1 j2 => hS.pm.out j (.inl (by omega))
        · have : x = a := by
            by_cases hxa : a < x
            · have := dvd_step h3 x1 hxa; omega
            · omega
          rw [this]; exact hS.srt) (fun x x1 x2 => (h6 x x1 (by omega)).congr fun j j1 j2 => hS.pm.out j (.inr (by omega)))
      refine ⟨m + 1, g', a', pm.trans e1, e2, e3, e4, e5, e6, TrN.next ?_ e7⟩
      have hcv := sm_call hk hn (by omega) (by omega) (by omega) h4 t1 t2
      have h := sb_s3 big g k n c a ((a + 2 * c : Nat) : Int) (by
        rw [show ((a : Int) + c) = ((a + c : Nat) : Int) by omega, hcv]
        simp only [i64B, Bool.and_true, Bool.true_and, Bool.and_eq_true, decide_eq_true_eq, beq_iff_eq, true_and]
        omega)
      rw [show ((a : Int) + c) = ((a + c : Nat) : Int) by omega, show (((a + 2 * c : Nat) : Int) + 2 * (c : Int)) = ((a + 2 * c + 2 * c : Nat) : Int) by omega] at h
      exact h
    · exact ⟨1, g, a, .refl _ _ _ _, h2, by omega, h3, h5, h6, TrN.done (sb_x3 big g k n c a _ (decide_eq_false (by omega))) (by intro h; cases h)⟩
theorem sb_l2 : ∀ (s c : Nat) (g : Nat → T), 0 < c → n ≤ c + s → Chs k g → Blk g c n →
    ∃ m g' c', PM k 0 n g g' ∧ Srt g' 0 n ∧ TrN Try.prog 1 sbB2 m (stW 1 1 (tmk (sbT k n (c : Nat)) 0 63) (soG k g)) (.exit 2) (stW 1 1 (tmk (sbT k n (c' : Nat)) 0 63) (soG k g')) := by
  have stop : ∀ (c : Nat) (g : Nat → T), ¬ c < n → Blk g c n → ∃ m g' c', PM k 0 n g g' ∧ Srt g' 0 n ∧ TrN Try.prog 1 sbB2 m (stW 1 1 (tmk (sbT k n (c : Nat)) 0 63) (soG k g)) (.exit 2) (stW 1 1 (tmk (sbT k n (c' : Nat)) 0 63) (soG k g')) := fun c g hc hB => by
    refine ⟨1, g, c, .refl _ _ _ _, ?_, TrN.done ?_ (by intro h; cases h)⟩
    · have := hB 0 ⟨0, by omega⟩
      rw [Nat.min_eq_right (by omega)] at this; exact this
    · rw [sbB2_eq]
      exact Tr.seqX (sb_cx big g k n c (decide_eq_false (by omega))) (by intro h; cases h)
  intro s
  induction s with
  | zero => intro c g h1 h2 h3 h4; exact stop c g (by omega) h4
  | succ s ih =>
    intro c g h1 h2 h3 h4
    by_cases hc : c < n
    · obtain ⟨m, g1, a, e1, e2, e3, e4, e5, e6, e7⟩ := sb_l3 hk hn h1 hc n 0 g (by omega) (by omega) ⟨0, by omega⟩ h3 (fun x _ hx => by omega) (fun x x1 _ => h4 x x1)
      have hch1 := e1.ch hn h3
      have ca : c ∣ a := Nat.dvd_trans ⟨2, Nat.mul_comm _ _⟩ e4
      have hw : ∃ g2, PM k 0 n g1 g2 ∧ Blk g2 (2 * c) n ∧ Tr Try.prog 1 sbW (stW 1 1 (tmk (sbT2 k n c a ((a + 2 * c : Nat) : Int)) 0 63) (soG k g1)) .normal (stW 1 1 (tmk (sbT k n ((c : Int) * 2)) 0 63) (soG k g2)) := by
        by_cases hac : a + c < n
        · have t1 : Srt g1 a (a + c) := by have := e6 a ca (Nat.le_refl _); rw [Nat.min_eq_left (by omega)] at this; exact this
          have t2 : Srt g1 (a + c) n := by have := e6 (a + c) (Nat.dvd_add ca (Nat.dvd_refl _)) (by omega); rw [Nat.min_eq_right (by omega)] at this; exact this
          have hS := smF_sorts hk (g := g1) (a := a) (m := a + c) (b := n) (by omega) (by omega) (by omega) hch1 t1 t2
          refine ⟨smF k g1 a (a + c) n, hS.pm.mono (by omega) (Nat.le_refl _), fun x x1 => ?_, ?_⟩
          · by_cases hx : x < a
            · have := dvd_step x1 e4 hx
              rw [Nat.min_eq_left (by omega)]
              exact (e5 x x1 hx).congr fun j j1 j2 => hS.pm.out j (.inl (by omega))
            · by_cases hxa : a < x
              · have := dvd_step e4 x1 hxa
                intro i j i1 i2 i3; omega
              · rw [show x = a by omega, Nat.min_eq_right (by omega)]; exact hS.srt
          · have hcv := sm_call hk hn (by omega) (by omega) hn hch1 t1 t2
            have h := sb_w big g1 k n c a ((a + 2 * c : Nat) : Int) (by
              rw [show ((a : Int) + c) = ((a + c : Nat) : Int) by omega, hcv]
              simp only [i64B, Bool.and_true, Bool.true_and, Bool.and_eq_true, decide_eq_true_eq, beq_iff_eq, true_and]
              omega)
            rw [show ((a : Int) + c) = ((a + c : Nat) : Int) by omega] at h
            exact h
        · refine ⟨g1, .refl _ _ _ _, fun x x1 => ?_, sb_wn big g1 k n c a _ (by
            rw [decide_eq_false (show ¬ (a : Int) + c < n by omega)]
            simp only [i64B, Bool.and_true, Bool.and_eq_true, decide_eq_true_eq, beq_iff_eq, and_true, true_and]
            omega)⟩
          by_cases hx : x < a
          · have := dvd_step x1 e4 hx
            rw [Nat.min_eq_left (by omega)]
            exact e5 x x1 hx
          · by_cases hxa : a < x
            · have := dvd_step e4 x1 hxa
              intro i j i1 i2 i3; omega
            · have := e6 a ca (Nat.le_refl _)
              rw [Nat.min_eq_right (by omega)] at this
              rw [show x = a by omega, Nat.min_eq_right (by omega)]; exact this
      obtain ⟨g2, f1, f2, f3⟩ := hw
      obtain ⟨m2, g3, c', k1, k2, k3⟩ := ih (2 * c) g2 (by omega) (by omega) (f1.ch hn hch1) f2
      refine ⟨m2 + 1, g3, c', (e1.trans f1).trans k1, k2, TrN.next ?_ k3⟩
      rw [show ((c : Int) * 2) = ((2 * c : Nat) : Int) by omega] at f3
      have h8 := sb_8 big g k n c (by simp only [i64B, Bool.and_true, decide_eq_true_eq]; omega)
      rw [show (2 * (c : Int)) = ((0 + 2 * c : Nat) : Int) by omega] at h8
      rw [sbB2_eq]
      exact Tr.seq (sb_c big g k n c (decide_eq_true (by omega))) (Tr.block (Tr.seq h8 (Tr.seq (Tr.blockX (Tr.loop e7)) f3)) (fun _ h => by cases h))
    · exact stop c g hc h4
theorem sb_run (g : Nat → T) (hch : Chs k g) : ∃ g' tm, Sorts k 0 n g g' ∧ Tr Try.prog 1 sbC (stW 1 1 ((soS k :: ([(n : Int)].map T.num ++ [lsF])) ++ undefs 60) (soG k g)) .normal (stW 1 1 tm (soG k g')) := by
  obtain ⟨m, g1, a, e1, e2, e3, e4, e5, e6⟩ := sb_l1 hk hn n 0 g (by omega) (by omega) ⟨0, rfl⟩ hch (fun x _ hx => by omega)
  have hch1 := e1.ch hn hch
  have hS := (inF_ok g1 (k := k) (a := a) (b := n) hk hn e2 hch1).1
  have pm2 : PM k 0 n g1 (inF k g1 a n) := hS.pm.mono (by omega) (Nat.le_refl _)
  obtain ⟨m2, g2, c', k1, k2, k3⟩ := sb_l2 hk hn n 20 (inF k g1 a n) (by omega) (by omega) (pm2.ch hn hch1) (fun x x1 => by
    by_cases hx : x < a
    · have := dvd_step x1 e4 hx
      rw [Nat.min_eq_left (by omega)]
      exact (e5 x x1 hx).congr fun j j1 j2 => hS.pm.out j (.inl (by omega))
    · by_cases hxa : a < x
      · have := dvd_step e4 x1 hxa
        intro i j i1 i2 i3; omega
      · rw [show x = a by omega, Nat.min_eq_right (by omega)]; exact hS.srt)
  refine ⟨g2, tmk (sbT k n (c' : Nat)) 0 63, ⟨(e1.trans pm2).trans k1, k2⟩, ?_⟩
  refine Tr.preW (envSb_ok big) mix 1 2 sbK2 sbK2 (sb_i big g k n) rfl (soH _ _ _) ?_
  show Tr Try.prog 1 sbX _ _ _
  rw [sbX_eq]
  refine Tr.seq (Tr.blockX (Tr.loop e6)) (Tr.seq ?_ (Tr.blockX (Tr.loop k3)))
  exact sb_6 big g1 k n 20 a _ (by
    rw [in_call hk e2 hn hch1]
    rfl)
end
/-! ### The models -/
noncomputable def sbF (k : Nat) (g : Nat → T) (n : Nat) : Nat → T := open Classical in if h : ∃ g' tm, Sorts k 0 n g g' ∧ Tr Try.prog 1 sbC (stW 1 1 ((soS k :: ([(n : Int)].map T.num ++ [lsF])) ++ undefs 60) (soG k g)) .normal (stW 1 1 tm (soG k g')) then Classical.choose h else g
theorem sbF_ok {k n : Nat} (hk : k ≤ 1099511627776) (hn : n ≤ k) (g : Nat → T) (hch : Chs k g) :
    ∃ tm, Sorts k 0 n g (sbF k g n) ∧ Tr Try.prog 1 sbC (stW 1 1 ((soS k :: ([(n : Int)].map T.num ++ [lsF])) ++ undefs 60) (soG k g)) .normal (stW 1 1 tm (soG k (sbF k g n))) := by
  have h := sb_run hk hn g hch
  unfold sbF
  rw [dif_pos h]
  exact Classical.choose_spec h
noncomputable def sbVc (k : Nat) (g : Nat → T) : List Int → Bool
  | [n] => holds (0 ≤ n ∧ n ≤ k ∧ k ≤ 1099511627776 ∧ Chs k g)
  | _ => false
noncomputable def sbRes (k : Nat) (g : Nat → T) : List Int → Nat → T
  | [n] => sbF k g n.toNat
  | _ => g
theorem Stable_ok : SoundL Try.prog 47 (rowM sbVc sbRes) := by
  refine rowM_ok (fn := Try.f47) (c := sbC) (by kernel_rfl) (by kernel_rfl) (by kernel_rfl) (by kernel_rfl) ?_
  intro k g zs hv
  unfold sbVc at hv
  split at hv
  · rename_i n
    obtain ⟨h0, h1, h2, h3⟩ := of_holds hv
    obtain ⟨n, rfl⟩ := Int.eq_ofNat_of_zero_le h0
    obtain ⟨tm, _, htr⟩ := sbF_ok h2 (show n ≤ k by omega) g h3
    exact ⟨.normal, tm, .inr rfl, htr⟩
  · cases hv
/-! ### SortStableFunc -/
noncomputable def envSt : Env := env0.set 47 (liftL reach (rowM sbVc sbRes))
theorem envSt_ok : EnvOK Try.prog envSt := (env0_ok _).set (Stable_ok.lift reach)
noncomputable def stC : Code := bodyC Try.f32
noncomputable def stVc (k : Nat) (g : Nat → T) : List Int → Bool
  | [] => holds (k ≤ 1099511627776 ∧ Chs k g)
  | _ => false
noncomputable def stRes (k : Nat) (g : Nat → T) : List Int → Nat → T
  | [] => sbF k g k
  | _ => g
theorem st_run (g : Nat → T) (k : Nat) (hv : (cvB k g (sbVc k g [(k : Int)]) && true && true) = true) : Tr Try.prog 1 stC (stW 1 1 ((soS k :: (([] : List Int).map T.num ++ [lsF])) ++ undefs 7) (soG k g)) .normal (stW 1 1 (tmk [] 0 9) (soG k (sbF k g k))) :=
  Tr.evW (n := 1000000) (N := 1) (keep := 0) (nm := 0) (vc := cvB k g (sbVc k g [(k : Int)]) && true && true) envSt_ok mix (by kernel_rfl) hv rfl rfl (soH _ _ _)
theorem Sort_ok : SoundL Try.prog 32 (rowM stVc stRes) := by
  refine rowM_ok (fn := Try.f32) (c := stC) (by kernel_rfl) (by kernel_rfl) (by kernel_rfl) (by kernel_rfl) ?_
  intro k g zs hv
  unfold stVc at hv
  split at hv
  · obtain ⟨h0, h1⟩ := of_holds hv
    refine ⟨.normal, _, .inr rfl, st_run g k ?_⟩
    rw [cvB_ok (show sbVc k g [(k : Int)] = true from holds_of (p := (0 : Int) ≤ k ∧ (k : Int) ≤ k ∧ k ≤ 1099511627776 ∧ Chs k g) ⟨by omega, by omega, h0, h1⟩)]
    rfl
  · cases hv
end Go.Proofs.Ytjianphppcappaa

/-! huff.merged by its model: two lists that rise are one. No condition. -/
namespace Go.Proofs.Ytjianphppcappaa
open Go.AE
set_option maxRecDepth 100000

/-! ### Lists of chains -/
def nthT : List T → Nat → T
  | [], _ => .any
  | t :: _, 0 => t
  | _ :: r, i + 1 => nthT r i
def lstT (n : Nat) (f : Nat → T) : List T := (List.range n).map f
theorem nthT_lt : ∀ {l : List T} {i : Nat} (h : i < l.length), nthT l i = l[i]
  | _ :: _, 0, _ => rfl
  | _ :: r, i + 1, h => by simp only [nthT, List.getElem_cons_succ]; exact nthT_lt (by simpa using h)
theorem nthT_mem {l : List T} {i : Nat} (h : i < l.length) : nthT l i ∈ l := by rw [nthT_lt h]; exact List.getElem_mem h
theorem lstT_len (n : Nat) (f : Nat → T) : (lstT n f).length = n := by simp [lstT]
theorem nthT_lst {n : Nat} {f : Nat → T} {i : Nat} (h : i < n) : nthT (lstT n f) i = f i := by
  rw [nthT_lt (by rw [lstT_len]; exact h)]
  simp [lstT]
theorem lstT_nth (l : List T) : lstT l.length (nthT l) = l := by
  apply List.ext_getElem
  · simp [lstT]
  · intro i h1 h2
    simp only [lstT, List.getElem_map, List.getElem_range]
    exact nthT_lt h2
theorem nthT_app1 {a b : List T} {i : Nat} (h : i < a.length) : nthT (a ++ b) i = nthT a i := by
  rw [nthT_lt (by simp; omega), nthT_lt h, List.getElem_append_left h]
theorem nthT_app2 {a b : List T} {i : Nat} (h : a.length ≤ i) (h2 : i < a.length + b.length) : nthT (a ++ b) i = nthT b (i - a.length) := by
  rw [nthT_lt (by simpa using h2), nthT_lt (by omega), List.getElem_append_right h]
/-- Two lists, one: the first one's ahead of the second one's that are no less. -/
def mrg : List T → List T → List T
  | [], b => b
  | a :: xs, b => go a xs (mrg xs) b
where
  go (a : T) (xs : List T) (rec : List T → List T) : List T → List T
  | [] => a :: xs
  | b :: ys => if sumT a > sumT b then b :: go a xs rec ys else a :: rec (b :: ys)
theorem mrg_nil (b : List T) : mrg [] b = b := rfl
theorem mrg_nil2 (a : List T) : mrg a [] = a := by cases a <;> rfl
theorem mrg_gt {a b : T} (xs ys : List T) (h : sumT a > sumT b) : mrg (a :: xs) (b :: ys) = b :: mrg (a :: xs) ys := by
  show mrg.go a xs (mrg xs) (b :: ys) = _
  unfold mrg.go
  rw [if_pos h]; rfl
theorem mrg_le {a b : T} (xs ys : List T) (h : ¬ sumT a > sumT b) : mrg (a :: xs) (b :: ys) = a :: mrg xs (b :: ys) := by
  show mrg.go a xs (mrg xs) (b :: ys) = _
  unfold mrg.go
  rw [if_neg h]
theorem mrg_len : ∀ (a b : List T), (mrg a b).length = a.length + b.length
  | [], b => by simp [mrg_nil]
  | a :: xs, [] => by simp [mrg_nil2]
  | a :: xs, b :: ys => by
    by_cases h : sumT a > sumT b
    · rw [mrg_gt _ _ h]; simp only [List.length_cons, mrg_len (a :: xs) ys]; omega
    · rw [mrg_le _ _ h]; simp only [List.length_cons, mrg_len xs (b :: ys)]; omega
termination_by a b => a.length + b.length

/-! ### One more -/
def box1 (u : T) : Nat → T := fun j => bif Nat.beq j 0 then u else .nilptr
def frzL (l : List T) : T := .fsr 1 l.length (frw (nthT l)) none
theorem fsr_congr2 {m n : Nat} {F F' : Nat → T} {cap : Option Nat} (h : ∀ i, i < n → F i = F' i) (ρ : Rho) (x : Value) (hx : (R ρ (.fsr m n F cap)).v x) : (R ρ (.fsr m n F' cap)).v x :=
  Frz.mono (m := m) (n := n) (q := fun i cs => (R ρ.bare (F i)).c cs) (q' := fun i cs => (R ρ.bare (F' i)).c cs) (cap := cap) (fun _ _ h => h) (fun i cs hi hq => by rw [← h i hi]; exact hq) hx
theorem frw_le {F : Nat → T} {O : List T} {n : Nat} (h : ∀ i, i < n → F i = .fp (nthT O i)) (ρ : Rho) (cs : List Value) (hc : (R ρ (.rows n 1 F)).c cs) : (R ρ (.rows n 1 (frw (nthT O)))).c cs := rows_congr h ρ cs hc
/-- What stands in a slice with one more. -/
theorem snoc_at {O : List T} {u : T} {i : Nat} (hi : i < O.length + 1) : catT O.length (frw (nthT O)) (fun j => box1 (.fp u) (0 + j)) i = .fp (nthT (O ++ [u]) i) := by
  unfold catT
  by_cases h : i < O.length
  · rw [show Nat.blt i O.length = true by simpa using h, nthT_app1 h]; rfl
  · rw [show Nat.blt i O.length = false from (by cases hb : Nat.blt i O.length with | false => rfl | true => exact absurd (by simpa using hb) h), show i = O.length by omega]
    rw [nthT_app2 (Nat.le_refl _) (by simp)]
    simp [box1, nthT]

noncomputable def envMg : Env := env0.set 36 (lift 0 L2V)
theorem envMg_ok : EnvOK Try.prog envMg := (env0_ok _).set (L2_ok.lift 0)
noncomputable def mgC : Code := bodyC Try.f35
noncomputable def mgX : Code := postC 1 mgC
noncomputable def mgB : Code := cB (cB (cL mgX))
noncomputable def mgW : Code := cR mgX
theorem mgX_eq : mgX = .seq (.block 0 (.loop mgB)) mgW := by kernel_rfl
def gtF : T := .fn (.func 36) .nil
def mgT (n m k : Nat) (f g : Nat → T) : List T := tmk [(0, .fsr 1 n (frw f) none), (1, .fsr 1 m (frw g) none), (2, gtF), (6, .slice 0 [] 0 1 k none)] 0 44
def mgU (x y : T) (id k : Nat) : List T := tmk [(0, x), (1, y), (2, gtF), (6, .slice id [] 0 1 k none)] 0 44
theorem b70 : Try.prog.types[70].bytes = 8 := by kernel_rfl
noncomputable def szV (k : Nat) : Bool := (k * Try.prog.types[70].bytes).ble 140737488355328 && k.ble 9223372036854775807
theorem szV_ok {k : Nat} (h : k ≤ 1099511627776) : szV k = true := by
  unfold szV
  rw [b70]
  simp only [Bool.and_eq_true, Nat.ble_eq]
  omega
section
variable (n m k : Nat) (f g H : Nat → T)
noncomputable def mgV (c : Bool) (x : Nat) : Bool := decide ((0 : Int) ≤ 0 ∧ (0 : Int) < x) && (decide (k ≤ k) && szV (k + 1) && (decide ((0 : Int) ≤ x ∧ (x : Int) ≤ x) && decide ((0 : Int) ≤ 1 ∧ (1 : Int) ≤ x) && true)) &&
  (decide ((0 : Int) ≤ 0 ∧ (0 : Int) < n) && (decide ((0 : Int) ≤ 0 ∧ (0 : Int) < m) && (isCh (f 0) && isCh (g 0) && true && decide (sumT (f 0) > sumT (g 0)) == c && true)) && (decide ((n : Int) > 0) == true && (decide ((m : Int) > 0) == true && true) && true))
def mgG (u : T) : Heap := [none, some (.rows 1 1 (box1 (.fp u))), some (.rows (k + 1) 1 (catT k (frw H) (fun j => box1 (.fp u) (0 + j))))]
theorem mgG_ok (u : T) : heapOK 3 (mgG k H u) = true := by
  show ((allN (fun i => idsB 3 (box1 (.fp u) i)) 1) && ((allN (fun i => idsB 3 (catT k (frw H) (fun j => box1 (.fp u) (0 + j)) i)) (k + 1)) && true)) = true
  rw [allN_of fun i _ => ?_, allN_of fun i _ => ?_]
  · rfl
  · unfold catT
    cases Nat.blt i k with
    | true => rfl
    | false =>
      show idsB 3 (box1 (.fp u) (0 + (i - k))) = true
      unfold box1
      cases Nat.beq (0 + (i - k)) 0 <;> rfl
  · unfold box1
    cases Nat.beq i 0 <;> rfl
theorem mg_b (hv : mgV n m k f g true m = true) : Tr Try.prog 0 mgB (stW 0 0 (mgT n m k f g) (soG k H)) .normal
    (stW 0 0 (mgU (.fsr 1 n (frw f) none) (.fsr 1 ((m : Int).toNat - (1 : Int).toNat) (fun j => .fp (g ((1 : Int).toNat + j))) none) 2 (k + 1)) (mgG k H (g 0))) :=
  Tr.evW (n := ⟨1000000, [(9, true), (14, true), (22, true)]⟩) (N := 3) (keep := 71) (nm := 0) (vc := mgV n m k f g true m) envMg_ok mix (by kernel_rfl) hv rfl rfl (mgG_ok _ _ _)
theorem mg_a (hv : mgV n m k f g false n = true) : Tr Try.prog 0 mgB (stW 0 0 (mgT n m k f g) (soG k H)) .normal
    (stW 0 0 (mgU (.fsr 1 ((n : Int).toNat - (1 : Int).toNat) (fun j => .fp (f ((1 : Int).toNat + j))) none) (.fsr 1 m (frw g) none) 2 (k + 1)) (mgG k H (f 0))) :=
  Tr.evW (n := ⟨1000000, [(9, true), (14, true), (22, false)]⟩) (N := 3) (keep := 71) (nm := 0) (vc := mgV n m k f g false n) envMg_ok mix (by kernel_rfl) hv rfl rfl (mgG_ok _ _ _)
theorem mg_x (hv : (decide ((n : Int) > 0) == false && true && true) = true) : Tr Try.prog 0 mgB (stW 0 0 (mgT n m k f g) (soG k H)) (.exit 0) (stW 0 0 (mgT n m k f g) (soG k H)) :=
  Tr.evW (n := ⟨1000000, [(9, false), (14, false)]⟩) (N := 1) (keep := 71) (nm := 0) (vc := decide ((n : Int) > 0) == false && true && true) envMg_ok mix (by kernel_rfl) hv rfl rfl (soH _ _ _)
theorem mg_y (hv : (decide ((n : Int) > 0) == true && (decide ((m : Int) > 0) == false && true) && true) = true) : Tr Try.prog 0 mgB (stW 0 0 (mgT n m k f g) (soG k H)) (.exit 0) (stW 0 0 (mgT n m k f g) (soG k H)) :=
  Tr.evW (n := ⟨1000000, [(9, true), (14, false)]⟩) (N := 1) (keep := 71) (nm := 0) (vc := decide ((n : Int) > 0) == true && (decide ((m : Int) > 0) == false && true) && true) envMg_ok mix (by kernel_rfl) hv rfl rfl (soH _ _ _)
theorem mg_i : (evCode Try.prog envMg 1000000 (preC 1 mgC) (stW 0 0 ([.fsr 1 n (frw f) none, .fsr 1 m (frw g) none, gtF] ++ undefs 41) [])).map (cutPW 0 0 71 0) =
    some (.normal, true, tmk [(0, .fsr 1 n (frw f) none), (1, .fsr 1 m (frw g) none), (2, gtF), (6, .nilslice)] 0 44, [], true) := by kernel_rfl
def mgE : Heap := [none, none, some (.rows (k + n + m) 1 (catT (k + n) (catT k (frw H) (frw f)) (frw g)))]
theorem mgE_ok : heapOK 3 (mgE n m k f g H) = true := by
  show ((allN (fun i => idsB 3 (catT (k + n) (catT k (frw H) (frw f)) (frw g) i)) (k + n + m)) && true) = true
  rw [allN_of fun i _ => ?_]
  · rfl
  · unfold catT
    cases Nat.blt i (k + n) with
    | true => cases Nat.blt i k <;> rfl
    | false => rfl
theorem mg_w (hv : ((decide (k ≤ k) && szV (k + n)) && ((decide (k + n ≤ k + n) && szV (k + n + m)) && true) && true) = true) : Tr Try.prog 0 mgW (stW 0 0 (mgT n m k f g) (soG k H)) .ret (stW 0 0 (tmk [(6, .slice 2 [] 0 1 (k + n + m) none)] 0 44) (mgE n m k f g H)) :=
  Tr.evW (n := 1000000) (N := 3) (keep := 64) (nm := 0) (vc := (decide (k ≤ k) && szV (k + n)) && ((decide (k + n ≤ k + n) && szV (k + n + m)) && true) && true) envMg_ok mix (by kernel_rfl) hv rfl rfl (mgE_ok _ _ _ _ _ _)
end
end Go.Proofs.Ytjianphppcappaa

/-! huff.merged: the loop, and the model. No condition. -/
namespace Go.Proofs.Ytjianphppcappaa
open Go.AE
set_option maxRecDepth 100000

theorem tl_eq (a : T) (A : List T) : T.fsr 1 (((A.length + 1 : Nat) : Int).toNat - (1 : Int).toNat) (fun j => .fp (nthT (a :: A) ((1 : Int).toNat + j))) none = frzL A := by
  unfold frzL
  rw [Int.toNat_natCast, show (1 : Int).toNat = 1 from rfl, Nat.add_sub_cancel]
  congr 1
  funext j
  rw [Nat.add_comm]; rfl
def mgS (A B O : List T) : St := stW 0 0 (mgT A.length B.length O.length (nthT A) (nthT B)) (soG O.length (nthT O))
theorem mg_tail {c : Code} {s : St} {e : Ex} {A B O : List T} {u x y : T} (hx : x = frzL A) (hy : y = frzL B) (hs : Nat.ble s.G.length 1 = true)
    (h : Tr Try.prog 0 c s e (stW 0 0 (mgU x y 2 (O.length + 1)) (mgG O.length (nthT O) u))) : Tr Try.prog 0 c s e (mgS A B (O ++ [u])) := by
  subst hx hy
  have h2 : Tr Try.prog 0 c s e (stW 0 0 (mgU (frzL A) (frzL B) 2 (O.length + 1)) [none, some (.rows 1 1 (box1 (.fp u))), some (.rows (O.length + 1) 1 (frw (nthT (O ++ [u]))))]) :=
    h.weak (St.leL (LeL.refl _) ⟨⟨rfl, fun _ _ h => h⟩, ⟨rfl, fun ρ cs hc => frw_le (fun i hi => snoc_at hi) ρ cs hc⟩, trivial⟩ fun _ h => absurd h (Nat.not_lt_zero _))
  have h3 := Tr.pick [2] 71 h2 (tm' := mgT A.length B.length (O.length + 1) (nthT A) (nthT B)) (G' := soG (O.length + 1) (nthT (O ++ [u]))) (by kernel_rfl) (by kernel_rfl) (by kernel_rfl) trivial (by kernel_rfl) (by
    show (allN (fun i => idsL [2] (frw (nthT (O ++ [u])) i)) (O.length + 1) && ((!Nat.blt 0 0 || Nat.beq 2 0) && true)) = true
    rw [allN_of (p := fun i => idsL [2] (frw (nthT (O ++ [u])) i)) fun i _ => rfl]; rfl)
  unfold mgS
  rw [List.length_append]
  exact h3
def lsOK (l : List T) : Prop := ∀ t ∈ l, isCh t = true
theorem mg_loop : ∀ (N : Nat) (A B O : List T), A.length + B.length = N → lsOK A → lsOK B → A.length + B.length + O.length ≤ 1099511627776 →
    ∃ m A' B' O', O' ++ (A' ++ B') = O ++ mrg A B ∧ TrN Try.prog 0 mgB m (mgS A B O) (.exit 0) (mgS A' B' O')
  | N, [], B, O, hN, hA, hB, hs => ⟨1, [], B, O, rfl, TrN.done (mg_x _ _ _ _ _ _ rfl) (by intro h; cases h)⟩
  | N, a :: A, [], O, hN, hA, hB, hs => ⟨1, a :: A, [], O, by rw [mrg_nil2, List.append_nil], TrN.done (mg_y _ _ _ _ _ _ (by
      rw [decide_eq_true (show (((a :: A).length : Nat) : Int) > 0 by simp only [List.length_cons]; omega)]; rfl)) (by intro h; cases h)⟩
  | 0, a :: A, b :: B, O, hN, hA, hB, hs => by simp at hN
  | N + 1, a :: A, b :: B, O, hN, hA, hB, hs => by
    have ca := hA a (by simp)
    have cb := hB b (by simp)
    simp only [List.length_cons] at hN hs
    by_cases h : sumT a > sumT b
    · obtain ⟨m, A', B', O', e1, e2⟩ := mg_loop N (a :: A) B (O ++ [b]) (by simp only [List.length_cons]; omega) hA (fun t ht => hB t (by simp [ht])) (by simp only [List.length_cons, List.length_append, List.length_nil]; omega)
      refine ⟨m + 1, A', B', O', by rw [e1, mrg_gt _ _ h, List.append_assoc]; rfl, TrN.next ?_ e2⟩
      refine mg_tail rfl (tl_eq b B) rfl (mg_b (A.length + 1) (B.length + 1) O.length (nthT (a :: A)) (nthT (b :: B)) (nthT O) ?_)
      unfold mgV
      rw [show nthT (a :: A) 0 = a from rfl, show nthT (b :: B) 0 = b from rfl, ca, cb, decide_eq_true h, szV_ok (by omega)]
      simp only [Bool.and_true, Bool.and_eq_true, decide_eq_true_eq, beq_iff_eq, and_true]
      omega
    · obtain ⟨m, A', B', O', e1, e2⟩ := mg_loop N A (b :: B) (O ++ [a]) (by simp only [List.length_cons]; omega) (fun t ht => hA t (by simp [ht])) hB (by simp only [List.length_cons, List.length_append, List.length_nil]; omega)
      refine ⟨m + 1, A', B', O', by rw [e1, mrg_le _ _ h, List.append_assoc]; rfl, TrN.next ?_ e2⟩
      refine mg_tail (tl_eq a A) rfl rfl (mg_a (A.length + 1) (B.length + 1) O.length (nthT (a :: A)) (nthT (b :: B)) (nthT O) ?_)
      unfold mgV
      rw [show nthT (a :: A) 0 = a from rfl, show nthT (b :: B) 0 = b from rfl, ca, cb, decide_eq_false h, szV_ok (by omega)]
      simp only [Bool.and_true, Bool.and_eq_true, decide_eq_true_eq, beq_iff_eq, and_true]
      omega
theorem cat3_at {A B O : List T} {i : Nat} (hi : i < O.length + A.length + B.length) : catT (O.length + A.length) (catT O.length (frw (nthT O)) (frw (nthT A))) (frw (nthT B)) i = .fp (nthT (O ++ (A ++ B)) i) := by
  unfold catT
  have bf : ∀ {x y : Nat}, ¬ x < y → Nat.blt x y = false := fun {x y} h => by cases hb : Nat.blt x y with | false => rfl | true => exact absurd (by simpa using hb) h
  by_cases h : i < O.length + A.length
  · rw [show Nat.blt i (O.length + A.length) = true by simpa using h]
    by_cases h2 : i < O.length
    · rw [show Nat.blt i O.length = true by simpa using h2, nthT_app1 h2]; rfl
    · rw [bf h2, nthT_app2 (by omega) (by simp; omega), nthT_app1 (by omega)]; rfl
  · rw [bf h, nthT_app2 (by omega) (by simp; omega), nthT_app2 (by omega) (by omega), Nat.sub_sub]; rfl
theorem mg_run {A B : List T} (hA : lsOK A) (hB : lsOK B) (hs : A.length + B.length ≤ 1099511627776) :
    Tr Try.prog 0 mgC (stW 0 0 ([frzL A, frzL B, gtF] ++ undefs 41) []) .ret (stW 0 0 (tmk [(6, .slice 0 [] 0 1 (mrg A B).length none)] 0 44) (soG (mrg A B).length (nthT (mrg A B)))) := by
  obtain ⟨m, A', B', O', e1, e2⟩ := mg_loop _ A B [] rfl hA hB (by simpa using hs)
  have el : O'.length + A'.length + B'.length = A.length + B.length := by
    have := congrArg List.length e1
    simp only [List.length_append, List.length_nil, mrg_len] at this
    omega
  refine Tr.preW envMg_ok mix 0 1 71 0 (mg_i A.length B.length (nthT A) (nthT B)) rfl rfl ?_
  refine Tr.vac0 (.rows 0 1 (frw (nthT []))) rfl ?_
  refine Tr.weak0 (s := mgS A B []) ?_ (St.leL ⟨rfl, fun _ _ h => h, rfl, fun _ _ h => h, rfl, fun _ _ h => h, rfl, fun _ _ h => nil_slice h, trivial⟩ (LeG.refl _) fun _ h => absurd h (Nat.not_lt_zero _))
  show Tr Try.prog 0 mgX _ _ _
  rw [mgX_eq]
  refine Tr.seq (Tr.blockX (Tr.loop e2)) ?_
  have h := mg_w A'.length B'.length O'.length (nthT A') (nthT B') (nthT O') (by
    rw [szV_ok (by omega), szV_ok (by omega)]
    simp)
  have h2 := h.weak (s2 := stW 0 0 (tmk [(6, .slice 2 [] 0 1 (O'.length + A'.length + B'.length) none)] 0 44) [none, none, some (.rows (O'.length + A'.length + B'.length) 1 (frw (nthT (O' ++ (A' ++ B')))))])
    (St.leL (LeL.refl _) ⟨⟨rfl, fun ρ cs hc => frw_le (fun i hi => cat3_at hi) ρ cs hc⟩, trivial⟩ fun _ h => absurd h (Nat.not_lt_zero _))
  rw [e1, el, ← mrg_len, List.nil_append] at h2
  exact Tr.pick [2] 64 h2 (tm' := tmk [(6, .slice 0 [] 0 1 (mrg A B).length none)] 0 44) (G' := soG (mrg A B).length (nthT (mrg A B))) (by kernel_rfl) (by kernel_rfl) (by kernel_rfl) trivial (by kernel_rfl) (by
    show (allN (fun i => idsL [2] (frw (nthT (mrg A B)) i)) (mrg A B).length && ((!Nat.blt 0 0 || Nat.beq 2 0) && true)) = true
    rw [allN_of (p := fun i => idsL [2] (frw (nthT (mrg A B)) i)) fun i _ => rfl]; rfl)

/-! ### The model -/
def isGt : T → Bool
  | .fn (.func n) .nil => Nat.beq n 36
  | _ => false
theorem isGt_eq {t : T} (h : isGt t = true) : t = gtF := by
  unfold isGt at h
  split at h
  · rw [Nat.eq_of_beq_eq_true h]; rfl
  · cases h
def unls (n : Nat) (F : Nat → T) : List T := lstT n fun i => unfp (F i)
theorem unls_frz (l : List T) : unls l.length (frw (nthT l)) = l := lstT_nth l
structure MgIn (n m : Nat) (F G : Nat → T) : Prop where
  s : n + m ≤ 1099511627776
  f : ∀ i, i < n → isFp (F i) = true ∧ isCh (unfp (F i)) = true
  g : ∀ i, i < m → isFp (G i) = true ∧ isCh (unfp (G i)) = true
theorem unls_ok {n : Nat} {F : Nat → T} (h : ∀ i, i < n → isFp (F i) = true ∧ isCh (unfp (F i)) = true) : lsOK (unls n F) := by
  intro t ht
  simp only [unls, lstT, List.mem_map, List.mem_range] at ht
  obtain ⟨i, hi, rfl⟩ := ht
  exact (h i hi).2
theorem unls_R {n : Nat} {F : Nat → T} (h : ∀ i, i < n → isFp (F i) = true ∧ isCh (unfp (F i)) = true) (ρ : Rho) (x : Value) (hx : (R ρ (.fsr 1 n F none)).v x) : (R ρ (frzL (unls n F))).v x := by
  unfold frzL
  rw [show (unls n F).length = n from lstT_len _ _]
  refine fsr_congr2 (fun i hi => ?_) ρ x hx
  show F i = .fp (nthT (unls n F) i)
  unfold unls
  rw [nthT_lst hi]
  exact isFp_eq (h i hi).1
/-- A run that is known for just these. -/
noncomputable def onlyV (args0 : List T) (r : VRes) : VModel := fun args => open Classical in if args = args0 then some r else none
theorem onlyV_self (args0 : List T) (r : VRes) : onlyV args0 r args0 = some r := if_pos rfl
theorem onlyV_spec {args0 args : List T} {r r' : VRes} (h : onlyV args0 r args = some r') : args = args0 ∧ r' = r := by
  unfold onlyV at h
  split at h
  · rename_i e; exact ⟨e, (Option.some.inj h).symm⟩
  · cases h
theorem frz_so {M : VModel} {args : List T} {vc fr : Bool} {k : Nat} {g : Nat → T} (h : M args = some ⟨vc, .slice 0 [] 0 1 k none, soG k g, fr⟩) : ∃ b, (vc = true → b = true) ∧ frz 0 M args = some ⟨b, .fsr 1 k (fun j => frw g (0 + j)) none, [], fr⟩ := by
  unfold AE.frz
  rw [h]
  refine ⟨_, fun hv => ?_, rfl⟩
  rw [hv]
  show (true && ((((true && decide (0 + k ≤ k)) && (true && true)) && allN (fun j => noPtr (frw g (0 + j)) && noPtr (frw g (0 + j))) k) && true)) = true
  rw [decide_eq_true (show 0 + k ≤ k by omega), allN_of (p := fun j => noPtr (frw g (0 + j)) && noPtr (frw g (0 + j))) fun i _ => rfl]; rfl
noncomputable def MergedV : VModel
  | [.fsr 1 n F none, .fsr 1 m G none, t] => bif isGt t then some ⟨holds (MgIn n m F G), frzL (mrg (unls n F) (unls m G)), [], false⟩ else none
  | _ => none
theorem Merged_ok : SoundV Try.prog 35 MergedV := by
  refine SoundV.refine fun args r hr hvc ρ xs hρ hargs => ?_
  unfold MergedV at hr
  split at hr
  · rename_i n F m G t
    cases hg : isGt t with
    | false => rw [hg] at hr; cases hr
    | true =>
      rw [hg] at hr
      cases hr
      have hI : MgIn n m F G := of_holds hvc
      have et := isGt_eq hg
      subst et
      have hS : SoundV Try.prog 35 (onlyV [frzL (unls n F), frzL (unls m G), gtF] ⟨true, .slice 0 [] 0 1 (mrg (unls n F) (unls m G)).length none, soG (mrg (unls n F) (unls m G)).length (nthT (mrg (unls n F) (unls m G))), false⟩) := by
        refine SoundV.of_tr (fn := Try.f35) (c := mgC) (by kernel_rfl) (by kernel_rfl) (by kernel_rfl) ?_
        intro args r hr _
        obtain ⟨rfl, rfl⟩ := onlyV_spec hr
        exact ⟨.ret, _, [.slice 0 [] 0 1 (mrg (unls n F) (unls m G)).length none], 0, .inl rfl, mg_run (unls_ok hI.f) (unls_ok hI.g) (by rw [unls, unls, lstT_len, lstT_len]; exact hI.s), rfl, rfl, rfl, fun h => by cases h⟩
      obtain ⟨b, hb, hz⟩ := frz_so (onlyV_self [frzL (unls n F), frzL (unls m G), gtF] _)
      obtain ⟨y, ys, e, hy, z, zs, e2, hz2, h3⟩ := hargs
      refine ⟨_, hS.frz 0, [frzL (unls n F), frzL (unls m G), gtF], ⟨y, ys, e, unls_R hI.f ρ y hy, z, zs, e2, unls_R hI.g ρ z hz2, h3⟩, _, hz, hb rfl, rfl, fun h => (by cases h), fun ρ' x hx => ?_⟩
      exact fsr_congr2 (fun i _ => by rw [Nat.zero_add]) ρ' x hx
  · cases hr
end Go.Proofs.Ytjianphppcappaa

/-! huff.deepen by its model. No condition. -/
namespace Go.Proofs.Ytjianphppcappaa
open Go.AE
set_option maxRecDepth 100000

/-- The symbols of a chain. -/
def lvs : T → List Nat
  | .cons (.int _ _) (.cons (.int _ y) (.cons a (.cons b _))) => if 0 ≤ y then [y.toNat] else match a, b with
    | .fp a, .fp b => lvs a ++ lvs b
    | _, _ => []
  | _ => []
theorem lvs_leaf {s y : Int} {a b : T} (h : 0 ≤ y) : lvs (chA s y a b) = [y.toNat] := by unfold chA lvs; rw [if_pos h]
theorem lvs_node {s y : Int} {a b : T} (h : ¬ 0 ≤ y) : lvs (chA s y (.fp a) (.fp b)) = lvs a ++ lvs b := by unfold chA; rw [lvs, if_neg h]
/-- Each symbol's number greater by how often it is there. -/
noncomputable def deepF (t : T) (f : Nat → Int) : Nat → Int := hid (fun (t : T) (f : Nat → Int) (j : Nat) => f j + ((lvs t).count j : Nat)) t f
theorem deepF_eq (t : T) (f : Nat → Int) (j : Nat) : deepF t f j = f j + ((lvs t).count j : Nat) := by unfold deepF; rw [hid_eq]
/-- Such a chain, no deeper than that, of symbols below that. -/
def wfT : Nat → Nat → T → Prop
  | 0, _, _ => False
  | d + 1, n, t => (∃ s y, t = chA s y .nilptr .nilptr ∧ 0 ≤ y ∧ y < n) ∨ (∃ s a b, t = chA s (-1) (.fp a) (.fp b) ∧ wfT d n a ∧ wfT d n b)
theorem wfT_succ {n : Nat} : ∀ {d : Nat} {t : T}, wfT d n t → wfT (d + 1) n t
  | 0, _, h => h.elim
  | d + 1, _, .inl h => .inl h
  | d + 1, _, .inr ⟨s, a, b, e, h1, h2⟩ => .inr ⟨s, a, b, e, wfT_succ h1, wfT_succ h2⟩
theorem wfT_mono {n d e : Nat} {t : T} (h : wfT d n t) (he : d ≤ e) : wfT e n t := by
  obtain ⟨k, rfl⟩ : ∃ k, e = d + k := ⟨e - d, by omega⟩
  clear he
  induction k with
  | zero => exact h
  | succ k ih => exact wfT_succ ih
theorem wfT_ch {n d : Nat} {t : T} (h : wfT d n t) : isCh t = true := by
  cases d with
  | zero => exact h.elim
  | succ d =>
    rcases h with ⟨s, y, rfl, _, _⟩ | ⟨s, a, b, rfl, _, _⟩ <;> rfl
theorem wfT_lvs {n : Nat} : ∀ {d : Nat} {t : T}, wfT d n t → (∀ j ∈ lvs t, j < n) ∧ 1 ≤ (lvs t).length ∧ (lvs t).length * 2 ≤ 2 ^ d
  | 0, _, h => h.elim
  | d + 1, _, .inl ⟨s, y, e, h1, h2⟩ => by
    subst e
    rw [lvs_leaf h1]
    have : 1 ≤ 2 ^ d := Nat.one_le_two_pow
    refine ⟨fun j hj => ?_, by simp, by simp [Nat.pow_succ]; omega⟩
    rw [List.mem_singleton.1 hj]; omega
  | d + 1, _, .inr ⟨s, a, b, e, h1, h2⟩ => by
    subst e
    rw [lvs_node (by omega)]
    obtain ⟨a1, a2, a3⟩ := wfT_lvs h1
    obtain ⟨b1, b2, b3⟩ := wfT_lvs h2
    refine ⟨fun j hj => ?_, by simp only [List.length_append]; omega, by simp only [List.length_append, Nat.pow_succ]; omega⟩
    rcases List.mem_append.1 hj with h | h
    · exact a1 j h
    · exact b1 j h
structure DpIn (d n : Nat) (t : T) (f : Nat → Int) : Prop where
  wt : wfT d n t
  wf : ∀ i, i < n → 0 ≤ f i ∧ f i + (lvs t).length ≤ 4611686018427387904
noncomputable def dpM (d : Nat) : Model
  | [.fp t, .slice 0 [] 0 1 n (some n')], [some (.ints .i64 n'' f)] => some ⟨decide (n = n' ∧ n = n'') && holds (DpIn d n t f), .tup .nil, [some (.ints .i64 n'' (deepF t f))], 1, 1⟩
  | _, _ => none
noncomputable def envDp (d : Nat) : Env := env0.set 37 (liftL reach (dpM d))
noncomputable def dpC : Code := bodyC Try.f37
section
variable (d n : Nat) (s y : Int) (a b : T) (f : Nat → Int)
def dpV1 : Bool := decide (0 ≤ y ∧ y < n) && (decide (0 + y.toNat < n) && true && (decide (0 ≤ y ∧ y < n) && (decide (0 + y.toNat < n) && true && true))) && (decide (y ≥ 0) == true && true && true)
theorem dp_1 (hv : dpV1 n y = true) : Tr Try.prog 1 dpC (stW 1 1 ([.fp (chA s y a b), .slice 0 [] 0 1 n (some n)] ++ undefs 28) [some (.ints .i64 n f)]) .ret
    (stW 1 1 (tmk [] 0 30) [some (.ints .i64 n fun j => bif j.beq (0 + y.toNat) then IntKind.i64.wrap (f (0 + y.toNat) + 1) else f j)]) :=
  Tr.evW (n := ⟨1000000, [(8, true)]⟩) (N := 1) (keep := 0) (nm := 0) (vc := dpV1 n y) (env0_ok _) mix (by kernel_rfl) hv rfl rfl rfl
noncomputable def dpV2 : Bool := (((decide (n = n ∧ n = n) && holds (DpIn d n b (deepF a f))) && true) && true) && ((((decide (n = n ∧ n = n) && holds (DpIn d n a f)) && true) && true) && (decide (y ≥ 0) == false && true && true))
theorem dp_2 (henv : EnvOK Try.prog (envDp d)) (hv : dpV2 d n y a b f = true) : Tr Try.prog 1 dpC (stW 1 1 ([.fp (chA s y (.fp a) (.fp b)), .slice 0 [] 0 1 n (some n)] ++ undefs 28) [some (.ints .i64 n f)]) .normal
    (stW 1 1 (tmk [] 0 30) [some (.ints .i64 n (deepF b (deepF a f)))]) :=
  Tr.evW (n := ⟨1000000, [(8, false)]⟩) (N := 1) (keep := 0) (nm := 0) (vc := dpV2 d n y a b f) henv mix (by kernel_rfl) hv rfl rfl rfl
end
theorem deep_node {s : Int} {a b : T} {f : Nat → Int} : deepF b (deepF a f) = deepF (chA s (-1) (.fp a) (.fp b)) f := by
  funext j
  rw [deepF_eq, deepF_eq, deepF_eq, lvs_node (by omega), List.count_append]
  omega
theorem deep_leaf {s y : Int} {a b : T} {f : Nat → Int} (hy : 0 ≤ y) (hf : 0 ≤ f y.toNat ∧ f y.toNat + 1 ≤ 4611686018427387904) : (fun j => bif Nat.beq j (0 + y.toNat) then IntKind.i64.wrap (f (0 + y.toNat) + 1) else f j) = deepF (chA s y a b) f := by
  funext j
  rw [deepF_eq, lvs_leaf hy, Nat.zero_add, beq_ite]
  by_cases h : j = y.toNat
  · rw [if_pos h, h, IntKind.wrap_i64]
    simp
    omega
  · rw [if_neg h]
    have : List.count j [y.toNat] = 0 := List.count_eq_zero.2 (by simpa using h)
    rw [this]; omega
theorem dpM_stat (d : Nat) : ∀ args G r, dpM d args G = some r → AE.Stat G r := by
  intro args G r hm
  unfold dpM at hm
  split at hm
  · cases hm
    refine ⟨Nat.le_refl _, fun k hk hw => ⟨hw, ?_⟩, fun k hk hw => ?_⟩
    · cases k with
      | zero => exact ⟨_, rfl⟩
      | succ k => have hk' : k + 1 < 1 := hk; omega
    · cases k with
      | zero => simp at hw
      | succ k => have hk' : k + 1 < 1 := hk; omega
  · cases hm
theorem Deepen_ok : ∀ d, SoundL Try.prog 37 (dpM d)
  | 0 => by
    refine SoundL.of_tr (fn := Try.f37) (c := dpC) (by kernel_rfl) (by kernel_rfl) (by kernel_rfl) (dpM_stat 0) fun args G r hm hvc => ?_
    unfold dpM at hm
    split at hm
    · cases hm
      simp only [Bool.and_eq_true] at hvc
      exact (of_holds hvc.2).wt.elim
    · cases hm
  | d + 1 => by
    refine SoundL.of_tr (fn := Try.f37) (c := dpC) (by kernel_rfl) (by kernel_rfl) (by kernel_rfl) (dpM_stat _) fun args G r hm hvc => ?_
    unfold dpM at hm
    split at hm
    · rename_i t n n' n'' f
      cases hm
      simp only [Bool.and_eq_true, decide_eq_true_eq] at hvc
      obtain ⟨⟨rfl, rfl⟩, h2⟩ := hvc
      obtain ⟨ht, hf⟩ := of_holds h2
      rcases ht with ⟨s, y, rfl, y0, y1⟩ | ⟨s, a, b, rfl, ha, hb⟩
      · have hy : y.toNat < n := by omega
        have hf1 := hf y.toNat hy
        rw [lvs_leaf y0] at hf1
        have h := dp_1 n s y .nilptr .nilptr f (by
          simp only [dpV1, Bool.and_true, Bool.and_eq_true, decide_eq_true_eq, beq_iff_eq]
          omega)
        rw [deep_leaf (s := s) (a := .nilptr) (b := .nilptr) y0 hf1] at h
        refine ⟨.ret, stW 1 1 (tmk [] 0 30) [some (.ints .i64 n (deepF (chA s y .nilptr .nilptr) f))], [], 0, .inl rfl, ?_, rfl, rfl, rfl, rfl⟩
        exact Tr.widen0 (s := stW 1 0 ([.fp (chA s y .nilptr .nilptr), .slice 0 [] 0 1 n (some n)] ++ undefs 28) [some (.ints .i64 n f)]) (W := 1) h (fun j _ h => by simp [stW] at h) (fun j hj h => mask_bit hj)
      · have hl := lvs_node (s := s) (a := a) (b := b) (show ¬ (0 : Int) ≤ -1 by omega)
        rw [hl] at hf
        have i1 : DpIn d n a f := ⟨ha, fun i hi => by have := hf i hi; simp only [List.length_append] at this; omega⟩
        have i2 : DpIn d n b (deepF a f) := ⟨hb, fun i hi => by
          have := hf i hi
          simp only [List.length_append] at this
          have hc := List.count_le_length (a := i) (l := lvs a)
          rw [deepF_eq]; omega⟩
        have h := dp_2 d n s (-1) a b f ((env0_ok _).set ((Deepen_ok d).lift reach)) (by
          unfold dpV2
          rw [holds_of i1, holds_of i2, decide_eq_true (show n = n ∧ n = n from ⟨rfl, rfl⟩)]; rfl)
        rw [deep_node (s := s)] at h
        refine ⟨.normal, stW 1 1 (tmk [] 0 30) [some (.ints .i64 n (deepF (chA s (-1) (.fp a) (.fp b)) f))], [], 0, .inr rfl, ?_, rfl, rfl, rfl, rfl⟩
        exact Tr.widen0 (s := stW 1 0 ([.fp (chA s (-1) (.fp a) (.fp b)), .slice 0 [] 0 1 n (some n)] ++ undefs 28) [some (.ints .i64 n f)]) (W := 1) h (fun j _ h => by simp [stW] at h) (fun j hj h => mask_bit hj)
    · cases hm
end Go.Proofs.Ytjianphppcappaa

/-! huff.Lengths: the leaves. No condition. -/
namespace Go.Proofs.Ytjianphppcappaa
open Go.AE
set_option maxRecDepth 100000
noncomputable def lnC : Code := bodyC Try.f14
noncomputable def lnX : Code := postC 2 lnC
noncomputable def lnB0 : Code := cB (cB (cR (cL lnX)))
noncomputable def lnY : Code := cR lnX
noncomputable def lnZ : Code := cR lnY
noncomputable def lnV : Code := cR (cR lnZ)
theorem lnX_eq : lnX = .seq (.seq (cL (cL lnX)) (.block 0 (.loop lnB0))) (.seq (cL lnY) (.seq (cL lnZ) (.seq (cL (cR lnZ)) lnV))) := by kernel_rfl
def leaf (c : Nat → Int) (i : Nat) : T := chA (c i) i .nilptr .nilptr
/-- The chains of one symbol each. -/
def leafs (c : Nat → Int) : Nat → List T
  | 0 => []
  | i + 1 => leafs c i ++ if c i > 0 then [leaf c i] else []
theorem leafs_len (c : Nat → Int) : ∀ n, (leafs c n).length ≤ n
  | 0 => Nat.le_refl _
  | n + 1 => by
    have := leafs_len c n
    simp only [leafs, List.length_append]
    split <;> simp <;> omega
section
variable (N : Nat) (c : Nat → Int) (cp : Option Nat) (m : Int) (id k : Nat) (i : Int)
def lnT (x : T) : List (Nat × T) := [(0, .fsi .u32 N c cp), (1, .num m), (6, x)]
def lnT0 : List (Nat × T) := [(0, .fsi .u32 N c cp), (1, .num m), (6, .slice id [] 0 1 k none), (15, .fsi .u32 N c cp), (16, .num N), (17, .num i)]
def lnK0 : Nat := maskOf [0, 1, 6, 15, 16, 17]
theorem ln_i : (evCode Try.prog env0 1000000 (preC 2 lnC) (stW 0 0 ([.fsi .u32 N c cp, .num m] ++ undefs 129) [])).map (cutPW 0 0 (maskOf [0, 1, 6]) (maskOf [1])) =
    some (.normal, true, tmk (lnT N c cp m .nilslice) 0 131, [], true) := by kernel_rfl
theorem ln_2 (H : Nat → T) : Tr Try.prog 0 (cL (cL lnX)) (stW 0 0 (tmk (lnT N c cp m (.slice 0 [] 0 1 k none)) 0 131) (soG k H)) .normal (stW 0 0 (tmk (lnT0 N c cp m 0 k 0) 0 131) (soG k H)) :=
  Tr.evW (n := 1000000) (N := 1) (keep := lnK0) (nm := maskOf [1, 16, 17]) (vc := true) (env0_ok _) mix (by kernel_rfl) rfl rfl rfl (soH _ _ _)
variable (H : Nat → T)
noncomputable def lnV0 (k : Nat) : Bool := (i64B (i + 1) && true) && ((decide (k ≤ k) && szV (k + 1) && true) && ((decide (c i.toNat > 0) == true && true) && ((decide (0 ≤ i ∧ i < N) && true) && (decide (i < N) == true && true && true))))
def chN (c : Nat → Int) (i : Int) : T := .cons (.int .u64 (IntKind.u64.wrap (c i.toNat))) (.cons (.num i) (.cons .nilptr (.cons .nilptr .nil)))
def lnG (t : T) : Heap := [none, some t, some (.rows 1 1 (box1 (.ptr 1 []))), some (.rows (k + 1) 1 (catT k (frw H) (fun j => box1 (.ptr 1 []) (0 + j))))]
theorem box_ids {n id : Nat} (h : id < n) (j : Nat) : idsB n (box1 (.ptr id []) j) = true := by
  unfold box1
  cases Nat.beq j 0 with
  | true => show Nat.blt id n = true; simpa using h
  | false => rfl
theorem cat_ids {n id : Nat} (h : id < n) (j : Nat) : idsB n (catT k (frw H) (fun j => box1 (.ptr id []) (0 + j)) j) = true := by
  unfold catT
  cases Nat.blt j k with
  | true => rfl
  | false => exact box_ids h _
theorem lnG_ok : heapOK 4 (lnG k H (chN c i)) = true := by
  show (true && ((allN (fun j => idsB 4 (box1 (.ptr 1 []) j)) 1) && ((allN (fun j => idsB 4 (catT k (frw H) (fun j => box1 (.ptr 1 []) (0 + j)) j)) (k + 1)) && true))) = true
  rw [allN_of fun j _ => box_ids (by omega) j, allN_of fun j _ => cat_ids k H (by omega) j]; rfl
theorem ln_s (hv : lnV0 N c i k = true) : Tr Try.prog 0 lnB0 (stW 0 0 (tmk (lnT0 N c cp m 0 k i) 0 131) (soG k H)) .normal (stW 0 0 (tmk (lnT0 N c cp m 3 (k + 1) (i + 1)) 0 131) (lnG k H (chN c i))) :=
  Tr.evW (n := ⟨1000000, [(18, true), (23, true)]⟩) (N := 4) (keep := lnK0) (nm := maskOf [1, 16, 17]) (vc := lnV0 N c i k) (env0_ok _) mix (by kernel_rfl) hv rfl rfl (lnG_ok _ _ _ _)
noncomputable def lnV1 : Bool := (i64B (i + 1) && true) && ((decide (c i.toNat > 0) == false && true) && ((decide (0 ≤ i ∧ i < N) && true) && (decide (i < N) == true && true && true)))
theorem ln_n (hv : lnV1 N c i = true) : Tr Try.prog 0 lnB0 (stW 0 0 (tmk (lnT0 N c cp m 0 k i) 0 131) (soG k H)) .normal (stW 0 0 (tmk (lnT0 N c cp m 0 k (i + 1)) 0 131) (soG k H)) :=
  Tr.evW (n := ⟨1000000, [(18, true), (23, false)]⟩) (N := 1) (keep := lnK0) (nm := maskOf [1, 16, 17]) (vc := lnV1 N c i) (env0_ok _) mix (by kernel_rfl) hv rfl rfl (soH _ _ _)
theorem ln_x (hv : decide (i < N) = false) : Tr Try.prog 0 lnB0 (stW 0 0 (tmk (lnT0 N c cp m 0 k i) 0 131) (soG k H)) (.exit 0) (stW 0 0 (tmk (lnT N c cp m (.slice 0 [] 0 1 k none)) 0 131) (soG k H)) :=
  Tr.evW (n := ⟨1000000, [(18, false)]⟩) (N := 1) (keep := maskOf [0, 1, 6]) (nm := maskOf [1]) (vc := decide (i < N) == false && true && true) (env0_ok _) mix (by kernel_rfl) (by rw [hv]; rfl) rfl rfl (soH _ _ _)
end
/-- What stands in a slice with one more pointer, written no more. -/
theorem fz_at {O : List T} {t : T} {F : Nat → Bool} {G : Heap} {id : Nat} (hF : F id = true) (hg : hget G id = some t) {i : Nat} (hi : i < O.length + 1) :
    (lend F G 0 (catT O.length (frw (nthT O)) (fun j => box1 (.ptr id []) (0 + j)) i)).2.1 = .fp (nthT (O ++ [t]) i) := by
  unfold catT
  by_cases h : i < O.length
  · rw [show Nat.blt i O.length = true by simpa using h, nthT_app1 h]; rfl
  · rw [show Nat.blt i O.length = false from (by cases hb : Nat.blt i O.length with | false => rfl | true => exact absurd (by simpa using hb) h), show i = O.length by omega]
    rw [nthT_app2 (Nat.le_refl _) (by simp), Nat.sub_self]
    show (lend F G 0 (.ptr id [])).2.1 = .fp t
    unfold lend lendW
    rw [hF, hg]; rfl
theorem fz_ok {n k id : Nat} {H : Nat → T} {t : T} {F : Nat → Bool} {G : Heap} (hF : F id = true) (hg : hget G id = some t) (hp : noPtr t = true) (i : Nat) :
    (lend F G 0 (catT k (frw H) (fun j => box1 (.ptr id []) (0 + j)) i)).1 = true := by
  have hb : ∀ j, (lend F G 0 (box1 (.ptr id []) j)).1 = true := fun j => by
    unfold box1
    cases Nat.beq j 0 with
    | false => rfl
    | true =>
      show (lend F G 0 (.ptr id [])).1 = true
      unfold lend lendW
      rw [hF, hg]
      show (true && (noPtr t && noPtr t)) = true
      rw [hp]; rfl
  unfold catT
  cases Nat.blt i k with
  | true => rfl
  | false => exact hb _
theorem fzb_ok {id : Nat} {t : T} {F : Nat → Bool} {G : Heap} (hF : F id = true) (hg : hget G id = some t) (hp : noPtr t = true) (i : Nat) : (lend F G 0 (box1 (.ptr id []) i)).1 = true := by
  unfold box1
  cases Nat.beq i 0 with
  | false => rfl
  | true =>
    show (lend F G 0 (.ptr id [])).1 = true
    unfold lend lendW
    rw [hF, hg]
    show (true && (noPtr t && noPtr t)) = true
    rw [hp]; rfl
theorem snoc0 {cd : Code} {s : St} {e : Ex} {N : Nat} {c : Nat → Int} {cp : Option Nat} {m i : Int} {O : List T} {t t' : T} (ht : t.size = t'.size ∧ ∀ ρ cs, (R ρ t).c cs → (R ρ t').c cs) (hp : noPtr t' = true) (hs : Nat.ble s.G.length 1 = true)
    (h : Tr Try.prog 0 cd s e (stW 0 0 (tmk (lnT0 N c cp m 3 (O.length + 1) i) 0 131) (lnG O.length (nthT O) t))) :
    Tr Try.prog 0 cd s e (stW 0 0 (tmk (lnT0 N c cp m 0 (O.length + 1) i) 0 131) (soG (O.length + 1) (nthT (O ++ [t'])))) := by
  have h1 := h.weak (s2 := stW 0 0 (tmk (lnT0 N c cp m 3 (O.length + 1) i) 0 131) (lnG O.length (nthT O) t')) (St.leL (LeL.refl _) ⟨ht, ⟨rfl, fun _ _ h => h⟩, ⟨rfl, fun _ _ h => h⟩, trivial⟩ fun _ h => absurd h (Nat.not_lt_zero _))
  let G := lnG O.length (nthT O) t'
  have hF : frF 0 2 1 = true := by kernel_rfl
  have h2 := Tr.frz 2 0 h1 (tm' := tmk (lnT0 N c cp m 3 (O.length + 1) i) 0 131)
    (G' := [none, none, some (.rows 1 1 fun j => (lend (frF 0 2) G 0 (box1 (.ptr 1 []) j)).2.1), some (.rows (O.length + 1) 1 fun j => (lend (frF 0 2) G 0 (catT O.length (frw (nthT O)) (fun j => box1 (.ptr 1 []) (0 + j)) j)).2.1)])
    (by kernel_rfl) (by kernel_rfl) (by
      show (true && (true && ((allN (fun j => (lend (frF 0 2) G 0 (box1 (.ptr 1 []) j)).1) 1) && ((allN (fun j => (lend (frF 0 2) G 0 (catT O.length (frw (nthT O)) (fun j => box1 (.ptr 1 []) (0 + j)) j)).1) (O.length + 1)) && true)))) = true
      rw [allN_of fun j _ => fzb_ok hF rfl hp j, allN_of fun j _ => fz_ok (n := 0) hF rfl hp j]; rfl) (by kernel_rfl) (fun j hj => absurd hj (Nat.not_lt_zero _))
  have h3 := h2.weak (s2 := stW 0 0 (tmk (lnT0 N c cp m 3 (O.length + 1) i) 0 131) [none, none, some (.rows 1 1 fun j => (lend (frF 0 2) G 0 (box1 (.ptr 1 []) j)).2.1), some (.rows (O.length + 1) 1 (frw (nthT (O ++ [t']))))])
    (St.leL (LeL.refl _) ⟨⟨rfl, fun _ _ h => h⟩, ⟨rfl, fun ρ cs hc => frw_le (fun i hi => fz_at hF rfl hi) ρ cs hc⟩, trivial⟩ fun _ h => absurd h (Nat.not_lt_zero _))
  exact Tr.pick [3] lnK0 h3 (tm' := tmk (lnT0 N c cp m 0 (O.length + 1) i) 0 131) (G' := soG (O.length + 1) (nthT (O ++ [t']))) (by kernel_rfl) (by kernel_rfl) (by kernel_rfl) trivial (by kernel_rfl) (by
    show (allN (fun i => idsL [3] (frw (nthT (O ++ [t'])) i)) (O.length + 1) && ((!Nat.blt 0 0 || Nat.beq 3 0) && true)) = true
    rw [allN_of (p := fun i => idsL [3] (frw (nthT (O ++ [t'])) i)) fun i _ => rfl]; rfl)
theorem chN_le {c : Nat → Int} {i : Nat} (h : 0 ≤ c i ∧ c i < 4294967296) : (chN c i).size = (leaf c i).size ∧ ∀ ρ cs, (R ρ (chN c i)).c cs → (R ρ (leaf c i)).c cs := by
  refine ⟨rfl, fun ρ cs hc => ?_⟩
  unfold chN at hc
  rw [Int.toNat_natCast, show IntKind.u64.wrap (c i) = c i by rw [IntKind.wrap_u64]; omega] at hc
  exact hc
theorem ln_loop {N : Nat} {c : Nat → Int} {cp : Option Nat} {m : Int} (hN : N ≤ 1000) (hc : ∀ i, i < N → 0 ≤ c i ∧ c i < 4294967296) :
    Tr Try.prog 0 (.seq (cL (cL lnX)) (.block 0 (.loop lnB0))) (stW 0 0 (tmk (lnT N c cp m (.slice 0 [] 0 1 0 none)) 0 131) (soG 0 (nthT []))) .normal
      (stW 0 0 (tmk (lnT N c cp m (.slice 0 [] 0 1 (leafs c N).length none)) 0 131) (soG (leafs c N).length (nthT (leafs c N)))) := by
  refine Tr.seq (ln_2 N c cp m 0 (nthT [])) ?_
  refine Tr.iter (n := N) (S := fun i => stW 0 0 (tmk (lnT0 N c cp m 0 (leafs c i).length i) 0 131) (soG (leafs c i).length (nthT (leafs c i)))) (fun i hi => ?_) (ln_x _ _ _ _ _ _ _ (decide_eq_false (by omega)))
  have hk := leafs_len c i
  by_cases h : c i > 0
  · have el : leafs c (i + 1) = leafs c i ++ [leaf c i] := by rw [leafs, if_pos h]
    rw [el, List.length_append]
    have hs := ln_s N c cp m (leafs c i).length i (nthT (leafs c i)) (by
      unfold lnV0
      rw [szV_ok (by omega), Int.toNat_natCast, decide_eq_true h]
      simp only [i64B, Bool.and_true, Bool.and_eq_true, decide_eq_true_eq, beq_iff_eq, true_and, and_true]
      omega)
    exact snoc0 (chN_le (hc i hi)) rfl rfl hs
  · have el : leafs c (i + 1) = leafs c i := by rw [leafs, if_neg h, List.append_nil]
    rw [el]
    exact ln_n N c cp m (leafs c i).length i (nthT (leafs c i)) (by
      unfold lnV1
      rw [Int.toNat_natCast, decide_eq_false h]
      simp only [i64B, Bool.and_true, Bool.and_eq_true, decide_eq_true_eq, beq_iff_eq, true_and, and_true]
      omega)
end Go.Proofs.Ytjianphppcappaa

/-! huff.Lengths: its parts behind the leaves. No condition. -/
namespace Go.Proofs.Ytjianphppcappaa
open Go.AE
set_option maxRecDepth 100000
noncomputable def lnS : Code := cL (cR (cR lnV))
noncomputable def lnQ : Code := cL (cR (cR (cR lnV)))
noncomputable def lnE : Code := cR (cR (cR (cR lnV)))
theorem lnV_eq : lnV = .seq (cL lnV) (.seq (cL (cR lnV)) (.seq lnS (.seq lnQ lnE))) := by kernel_rfl
noncomputable def lnB2 : Code := cB (cB (cR lnS))
theorem lnS_eq : lnS = .seq (cL lnS) (.block 2 (.loop lnB2)) := by kernel_rfl
noncomputable def lnM : Code := cB (cL (cR (cR lnB2)))
noncomputable def lnB4 : Code := cB (cB (cR (cL (cR lnM))))
theorem lnM_eq : lnM = .seq (cL lnM) (.seq (.seq (cL (cL (cR lnM))) (.block 4 (.loop lnB4))) (cR (cR lnM))) := by kernel_rfl
noncomputable def lnB6 : Code := cB (cB (cR lnQ))
theorem lnQ_eq : lnQ = .seq (cL lnQ) (.block 6 (.loop lnB6)) := by kernel_rfl
noncomputable def envLn : Env := ((env0.set 32 (liftL reach (rowM stVc stRes))).set 35 (lift 0 MergedV)).set 37 (liftL reach (dpM 15))
theorem envLn_ok : EnvOK Try.prog envLn := (((env0_ok _).set (Sort_ok.lift reach)).set (Merged_ok.lift 0)).set ((Deepen_ok 15).lift reach)
def outS (N : Nat) (id : Nat) : T := .slice id [] 0 1 N (some N)
def outG (N : Nat) (f : Nat → Int) : Heap := [some (.ints .i64 N f)]
theorem twoH {k n N : Nat} {F : Nat → T} {f : Nat → Int} (h : ∀ i, isFp (F i) = true) : heapOK n [some (.rows k 1 F), some (.ints .i64 N f)] = true := by
  show (allN (fun i => idsB n (F i)) k && true) = true
  rw [allN_of fun i _ => ?_]
  · rfl
  · rw [isFp_eq (h i)]; rfl
theorem twoG {k n N : Nat} {H : Nat → T} {f : Nat → Int} : heapOK n [some (.ints .i64 N f), some (.rows k 1 (frw H))] = true := by
  show (true && (allN (fun i => idsB n (frw H i)) k && true)) = true
  rw [allN_of (p := fun i => idsB n (frw H i)) fun i _ => rfl]; rfl
section
variable (N : Nat) (c : Nat → Int) (cp : Option Nat) (m : Int) (k l i : Nat) (H A B : Nat → T) (f : Nat → Int) (r j : Int)
noncomputable def lnVok : Bool := (decide (m < 1) == false && ((decide (m > 15) == false || false) && ((decide ((N : Int) > 1000) == false || false) && ((false || decide (0 ≤ m ∧ m < 64) && in64 (1 * 2 ^ m.toNat)) && ((decide ((k : Int) > 1 * 2 ^ m.toNat) == false || false) && true))))) && true
theorem ln_8 (hv : lnVok N m k = true) : Tr Try.prog 0 (cL lnY) (stW 0 0 (tmk (lnT N c cp m (.slice 0 [] 0 1 k none)) 0 131) (soG k H)) .normal (stW 0 0 (tmk (lnT N c cp m (.slice 0 [] 0 1 k none)) 0 131) (soG k H)) :=
  Tr.evW (n := ⟨1000000, [(34, false), (37, false), (42, false), (49, false), (50, false)]⟩) (N := 1) (keep := maskOf [0, 1, 6]) (nm := maskOf [1]) (vc := lnVok N m k) envLn_ok mix (by kernel_rfl) hv rfl rfl (soH _ _ _)
def lnT1 (m : Int) (N k : Nat) : List (Nat × T) := [(1, .num m), (6, .slice 0 [] 0 1 k none), (9, outS N 1)]
noncomputable def lnV10 : Bool := decide (0 ≤ (N : Int) ∧ (N : Int) ≤ N) && decide (Try.prog.types[3].bytes * (N : Int) ≤ 281474976710656 ∧ (N : Int) ≤ 9223372036854775807) && true && true
theorem ln_10 (hv : lnV10 N = true) : Tr Try.prog 0 (cL lnZ) (stW 0 0 (tmk (lnT N c cp m (.slice 0 [] 0 1 k none)) 0 131) (soG k H)) .normal (stW 0 0 (tmk (lnT1 m N k) 0 131) [some (.rows k 1 (frw H)), some (.ints .i64 N fun _ => 0)]) :=
  Tr.evW (n := 1000000) (N := 2) (keep := maskOf [1, 6, 9]) (nm := maskOf [1]) (vc := lnV10 N) envLn_ok mix (by kernel_rfl) hv rfl rfl (twoH fun _ => rfl)
theorem ln_11 (hv : ((k : Int) == 1) = false) : Tr Try.prog 0 (cL (cR lnZ)) (stW 0 0 (tmk (lnT1 m N k) 0 131) [some (.rows k 1 (frw H)), some (.ints .i64 N f)]) .normal (stW 0 0 (tmk (lnT1 m N k) 0 131) [some (.rows k 1 (frw H)), some (.ints .i64 N f)]) :=
  Tr.evW (n := ⟨1000000, [(56, false)]⟩) (N := 2) (keep := maskOf [1, 6, 9]) (nm := maskOf [1]) (vc := ((k : Int) == 1) == false && true && true) envLn_ok mix (by kernel_rfl) (by rw [hv]; rfl) rfl rfl (twoH fun _ => rfl)
def lnV11 (y : Int) : Bool := (decide ((0 : Int) ≤ 0 ∧ (0 : Int) < k) && (decide (0 + (0 : Int).toNat < k) && true && (decide (0 ≤ y ∧ y < N) && (decide (0 + y.toNat < N) && true && true)))) && (((k : Int) == 1) == true && true && true)
theorem ln_12 (s y : Int) (a b : T) (hv : lnV11 N k y = true) : Tr Try.prog 0 (cL (cR lnZ)) (stW 0 0 (tmk (lnT1 m N k) 0 131) [some (.rows k 1 (frw (nthT [chA s y a b]))), some (.ints .i64 N f)]) .ret
    (stW 0 0 (tmk [(4, outS N 1), (5, .int .i64 0)] 0 131) [some (.rows k 1 (frw (nthT [chA s y a b]))), some (.ints .i64 N fun j => bif Nat.beq j (0 + y.toNat) then 1 else f j)]) :=
  Tr.evW (n := ⟨1000000, [(56, true)]⟩) (N := 2) (keep := maskOf [4, 5]) (nm := 0) (vc := lnV11 N k y) envLn_ok mix (by kernel_rfl) hv rfl rfl (twoH fun _ => rfl)
theorem ln_14 (hv : (cvB k H (stVc k H []) && true && true) = true) : Tr Try.prog 0 (cL lnV) (stW 0 0 (tmk (lnT1 m N k) 0 131) [some (.rows k 1 (frw H)), some (.ints .i64 N f)]) .normal (stW 0 0 (tmk (lnT1 m N k) 0 131) [some (.rows k 1 (frw (sbF k H k))), some (.ints .i64 N f)]) :=
  Tr.evW (n := 1000000) (N := 2) (keep := maskOf [1, 6, 9]) (nm := maskOf [1]) (vc := cvB k H (stVc k H []) && true && true) envLn_ok mix (by kernel_rfl) hv rfl rfl (twoH fun _ => rfl)
theorem ln_15 : Tr Try.prog 0 (cL (cR lnV)) (stW 0 0 (tmk (lnT1 m N k) 0 131) [some (.rows k 1 (frw H)), some (.ints .i64 N f)]) .normal (stW 0 0 (tmk (lnT1 m N k ++ [(10, .slice 0 [] 0 1 k none)]) 0 131) [some (.rows k 1 (frw H)), some (.ints .i64 N f)]) :=
  Tr.evW (n := 1000000) (N := 2) (keep := maskOf [1, 6, 9, 10]) (nm := maskOf [1]) (vc := true) envLn_ok mix (by kernel_rfl) rfl rfl rfl (twoH fun _ => rfl)
def frB (n : Nat) (f : Nat → T) : T := .fsr 1 n (frw f) none
def lnT2 (m : Int) (N : Nat) (x y : T) (r : Int) : List (Nat × T) := [(6, x), (9, outS N 0), (10, y), (70, .num (m - 1)), (71, .num r)]
def lnK2 : Nat := maskOf [6, 9, 10, 70, 71]
theorem ln_16 (hv : (i64B (m - 1) && true && true) = true) : Tr Try.prog 0 (cL lnS) (stW 0 0 (tmk [(1, .num m), (6, frB k A), (9, outS N 0), (10, frB k A)] 0 131) (outG N f)) .normal (stW 0 0 (tmk (lnT2 m N (frB k A) (frB k A) 0) 0 131) (outG N f)) :=
  Tr.evW (n := 1000000) (N := 1) (keep := lnK2) (nm := maskOf [70, 71]) (vc := i64B (m - 1) && true && true) envLn_ok mix (by kernel_rfl) hv rfl rfl rfl
theorem ln_17 : (evCode Try.prog envLn ⟨1000000, [(72, true)]⟩ (preC 2 lnB2) (stW 0 0 (tmk (lnT2 m N (frB k A) (frB l B) r) 0 131) (outG N f))).map (cutPW 0 0 lnK2 (maskOf [70, 71])) =
    some (.normal, decide (r < m - 1) == true && true && true, tmk (lnT2 m N (frB k A) (frB l B) r) 0 131, outG N f, true) := by kernel_rfl
theorem ln_17x (hv : decide (r < m - 1) = false) : Tr Try.prog 0 lnB2 (stW 0 0 (tmk (lnT2 m N (frB k A) (frB l B) r) 0 131) (outG N f)) (.exit 2) (stW 0 0 (tmk [(6, frB k A), (9, outS N 0), (10, frB l B)] 0 131) (outG N f)) :=
  Tr.evW (n := ⟨1000000, [(72, false)]⟩) (N := 1) (keep := maskOf [6, 9, 10]) (nm := 0) (vc := decide (r < m - 1) == false && true && true) envLn_ok mix (by kernel_rfl) (by rw [hv]; rfl) rfl rfl rfl
theorem ln_18 : Tr Try.prog 0 (cL lnM) (stW 0 0 (tmk (lnT2 m N (frB k A) (frB l B) r) 0 131) (outG N f)) .normal (stW 0 0 (tmk (lnT2 m N (frB k A) (frB l B) r ++ [(11, .nilslice)]) 0 131) (outG N f)) :=
  Tr.evW (n := 1000000) (N := 1) (keep := lnK2 + 2048) (nm := maskOf [70, 71]) (vc := true) envLn_ok mix (by kernel_rfl) rfl rfl rfl rfl
def lnT3 (m : Int) (N i : Nat) (x y : T) (r : Int) (id : Nat) (j : Int) : List (Nat × T) := [(6, x), (9, outS N 0), (10, y), (70, .num (m - 1)), (71, .num r), (11, .slice id [] 0 1 i none), (12, .num j)]
def lnK3 : Nat := maskOf [6, 9, 10, 11, 12, 70, 71]
def lnG3 : Heap := [some (.ints .i64 N f), some (.rows i 1 (frw H))]
theorem ln_19 : Tr Try.prog 0 (cL (cL (cR lnM))) (stW 0 0 (tmk (lnT2 m N (frB k A) (frB l B) r ++ [(11, .slice 1 [] 0 1 i none)]) 0 131) (lnG3 N i H f)) .normal (stW 0 0 (tmk (lnT3 m N i (frB k A) (frB l B) r 1 0) 0 131) (lnG3 N i H f)) :=
  Tr.evW (n := 1000000) (N := 2) (keep := lnK3) (nm := maskOf [12, 70, 71]) (vc := true) envLn_ok mix (by kernel_rfl) rfl rfl rfl twoG
def chB (s y : Nat → Int) (a b : Nat → T) : Nat → T := fun i => chA (s i) (y i) (a i) (b i)
noncomputable def lnV22 : Bool := (i64B (j + 2) && true) && ((decide (0 ≤ j ∧ j < l) && (i64B (j + 1) && (decide (0 ≤ j + 1 ∧ j + 1 < l) && (decide (0 ≤ j ∧ j < l) && (i64B (j + 1) && (decide (0 ≤ j + 1 ∧ j + 1 < l) && (decide (i ≤ i) && szV (i + 1) && true))))))) && (i64B (j + 1) && (decide (j + 1 < l) == true && true) && true))
def lnG4 (t : T) : Heap := [some (.ints .i64 N f), none, some t, some (.rows 1 1 (box1 (.ptr 2 []))), some (.rows (i + 1) 1 (catT i (frw H) (fun j => box1 (.ptr 2 []) (0 + j))))]
theorem lnG4_ok (t : T) (ht : idsB 5 t = true) : heapOK 5 (lnG4 N i H f t) = true := by
  show (true && (idsB 5 t && ((allN (fun j => idsB 5 (box1 (.ptr 2 []) j)) 1) && ((allN (fun j => idsB 5 (catT i (frw H) (fun j => box1 (.ptr 2 []) (0 + j)) j)) (i + 1)) && true)))) = true
  rw [ht, allN_of fun j _ => box_ids (by omega) j, allN_of fun j _ => cat_ids i H (by omega) j]; rfl
def pairN (t u : T) : T := .cons (.int .u64 (IntKind.u64.wrap (sumT t + sumT u))) (.cons (.int .i64 (-1)) (.cons (.fp t) (.cons (.fp u) .nil)))
theorem ln_22 (s y : Nat → Int) (a b : Nat → T) (hv : lnV22 l i j = true) : Tr Try.prog 0 lnB4 (stW 0 0 (tmk (lnT3 m N i (frB k A) (frB l (chB s y a b)) r 1 j) 0 131) (lnG3 N i H f)) .normal
    (stW 0 0 (tmk (lnT3 m N (i + 1) (frB k A) (frB l (chB s y a b)) r 4 (j + 2)) 0 131) (lnG4 N i H f (pairN (chB s y a b j.toNat) (chB s y a b (j + 1).toNat)))) :=
  Tr.evW (n := ⟨1000000, [(77, true)]⟩) (N := 5) (keep := lnK3) (nm := maskOf [12, 70, 71]) (vc := lnV22 l i j) envLn_ok mix (by kernel_rfl) hv rfl rfl (lnG4_ok _ _ _ _ _ rfl)
theorem ln_22x (hv : (i64B (j + 1) && (decide (j + 1 < l) == false && true) && true) = true) : Tr Try.prog 0 lnB4 (stW 0 0 (tmk (lnT3 m N i (frB k A) (frB l B) r 1 j) 0 131) (lnG3 N i H f)) (.exit 4)
    (stW 0 0 (tmk (lnT2 m N (frB k A) (frB l B) r ++ [(11, .slice 1 [] 0 1 i none)]) 0 131) (lnG3 N i H f)) :=
  Tr.evW (n := ⟨1000000, [(77, false)]⟩) (N := 2) (keep := lnK2 + 2048) (nm := maskOf [70, 71]) (vc := i64B (j + 1) && (decide (j + 1 < l) == false && true) && true) envLn_ok mix (by kernel_rfl) hv rfl rfl twoG
theorem ln_23 (hv : (holds (MgIn k i (frw A) (frw H)) && true && true && true) = true) : Tr Try.prog 0 (cR (cR lnM)) (stW 0 0 (tmk (lnT2 m N (frB k A) (frB l B) r ++ [(11, frB i H)]) 0 131) [some (.ints .i64 N f), none]) .normal
    (stW 0 0 (tmk (lnT2 m N (frB k A) (frzL (mrg (unls k (frw A)) (unls i (frw H)))) r) 0 131) [some (.ints .i64 N f), none]) :=
  Tr.evW (n := 1000000) (N := 2) (keep := lnK2) (nm := maskOf [70, 71]) (vc := holds (MgIn k i (frw A) (frw H)) && true && true && true) envLn_ok mix (by kernel_rfl) hv rfl rfl rfl
theorem ln_24 (hv : (i64B (r + 1) && true && true) = true) : Tr Try.prog 0 (cR (cR (cR lnB2))) (stW 0 0 (tmk (lnT2 m N (frB k A) (frB l B) r) 0 131) (outG N f)) .normal (stW 0 0 (tmk (lnT2 m N (frB k A) (frB l B) (r + 1)) 0 131) (outG N f)) :=
  Tr.evW (n := 1000000) (N := 1) (keep := lnK2) (nm := maskOf [70, 71]) (vc := i64B (r + 1) && true && true) envLn_ok mix (by kernel_rfl) hv rfl rfl rfl
def lnT4 (N : Nat) (x : T) (l j : Int) : List (Nat × T) := [(9, outS N 0), (120, x), (121, .num l), (122, .num j)]
def lnK4 : Nat := maskOf [9, 120, 121, 122]
def tw (k : Nat) : Int := bif true then max (2 * (k : Int) - 2) 0 else min (2 * (k : Int) - 2) 0
def lnV25 : Bool := (i64B (2 * k) && (i64B (2 * k - 2) && ((decide (0 ≤ tw k ∧ tw k ≤ l) && decide ((0 : Int) ≤ 0 ∧ 0 ≤ tw k)) && true))) && true
theorem ln_25 (hv : lnV25 k l = true) : Tr Try.prog 0 (cL lnQ) (stW 0 0 (tmk [(6, frB k A), (9, outS N 0), (10, frB l B)] 0 131) (outG N f)) .normal
    (stW 0 0 (tmk (lnT4 N (.fsr 1 ((tw k).toNat - (0 : Int).toNat) (fun j => .fp (B ((0 : Int).toNat + j))) none) ((tw k).toNat - (0 : Int).toNat : Nat) 0) 0 131) (outG N f)) :=
  Tr.evW (n := 1000000) (N := 1) (keep := lnK4) (nm := maskOf [121, 122]) (vc := lnV25 k l) envLn_ok mix (by kernel_rfl) hv rfl rfl rfl
noncomputable def lnV26 : Bool := (i64B (j + 1) && true) && ((((decide (N = N ∧ N = N) && holds (DpIn 15 N (B j.toNat) f)) && true) && true) && ((decide (0 ≤ j ∧ j < l) && true) && (decide (j < l) == true && true && true)))
theorem ln_26 (hv : lnV26 N l B f j = true) : Tr Try.prog 0 lnB6 (stW 0 0 (tmk (lnT4 N (frB l B) l j) 0 131) (outG N f)) .normal (stW 0 0 (tmk (lnT4 N (frB l B) l (j + 1)) 0 131) (outG N (deepF (B j.toNat) f))) :=
  Tr.evW (n := ⟨1000000, [(123, true)]⟩) (N := 1) (keep := lnK4) (nm := maskOf [121, 122]) (vc := lnV26 N l B f j) envLn_ok mix (by kernel_rfl) hv rfl rfl rfl
theorem ln_26x (hv : decide (j < l) = false) : Tr Try.prog 0 lnB6 (stW 0 0 (tmk (lnT4 N (frB l B) l j) 0 131) (outG N f)) (.exit 6) (stW 0 0 (tmk [(9, outS N 0)] 0 131) (outG N f)) :=
  Tr.evW (n := ⟨1000000, [(123, false)]⟩) (N := 1) (keep := maskOf [9]) (nm := 0) (vc := decide (j < l) == false && true && true) envLn_ok mix (by kernel_rfl) (by rw [hv]; rfl) rfl rfl rfl
theorem ln_30 : Tr Try.prog 0 lnE (stW 0 0 (tmk [(9, outS N 0)] 0 131) (outG N f)) .ret (stW 0 0 (tmk [(4, outS N 0), (5, .int .i64 0)] 0 131) (outG N f)) :=
  Tr.evW (n := 1000000) (N := 1) (keep := maskOf [4, 5]) (nm := 0) (vc := true) envLn_ok mix (by kernel_rfl) rfl rfl rfl rfl
end
end Go.Proofs.Ytjianphppcappaa

/-! huff.Lengths: pairs, rounds. No condition. -/
namespace Go.Proofs.Ytjianphppcappaa
open Go.AE
set_option maxRecDepth 100000

theorem lstT_succ (n : Nat) (f : Nat → T) : lstT (n + 1) f = lstT n f ++ [f n] := by
  unfold lstT
  rw [List.range_succ, List.map_append]; rfl
def pairT (t u : T) : T := chA (sumT t + sumT u) (-1) (.fp t) (.fp u)
def pairsI (L : List T) (i : Nat) : List T := lstT i fun q => pairT (nthT L (2 * q)) (nthT L (2 * q + 1))
def pairsT (L : List T) : List T := pairsI L (L.length / 2)
theorem snoc4 {cd : Code} {s : St} {e : Ex} {N k l : Nat} {m r j : Int} {f : Nat → Int} {A B : Nat → T} {O : List T} {t t' : T} (ht : t.size = t'.size ∧ ∀ ρ cs, (R ρ t).c cs → (R ρ t').c cs) (hp : noPtr t' = true) (hs : Nat.ble s.G.length 2 = true)
    (h : Tr Try.prog 0 cd s e (stW 0 0 (tmk (lnT3 m N (O.length + 1) (frB k A) (frB l B) r 4 j) 0 131) (lnG4 N O.length (nthT O) f t))) :
    Tr Try.prog 0 cd s e (stW 0 0 (tmk (lnT3 m N (O.length + 1) (frB k A) (frB l B) r 1 j) 0 131) (lnG3 N (O.length + 1) (nthT (O ++ [t'])) f)) := by
  have h1 := h.weak (s2 := stW 0 0 (tmk (lnT3 m N (O.length + 1) (frB k A) (frB l B) r 4 j) 0 131) (lnG4 N O.length (nthT O) f t')) (St.leL (LeL.refl _) ⟨⟨rfl, fun _ _ h => h⟩, ht, ⟨rfl, fun _ _ h => h⟩, ⟨rfl, fun _ _ h => h⟩, trivial⟩ fun _ h => absurd h (Nat.not_lt_zero _))
  let G := lnG4 N O.length (nthT O) f t'
  have hF : frF 0 4 2 = true := by kernel_rfl
  have h2 := Tr.frz 4 0 h1 (tm' := tmk (lnT3 m N (O.length + 1) (frB k A) (frB l B) r 4 j) 0 131)
    (G' := [some (.ints .i64 N f), none, none, some (.rows 1 1 fun j => (lend (frF 0 4) G 0 (box1 (.ptr 2 []) j)).2.1), some (.rows (O.length + 1) 1 fun j => (lend (frF 0 4) G 0 (catT O.length (frw (nthT O)) (fun j => box1 (.ptr 2 []) (0 + j)) j)).2.1)])
    (by kernel_rfl) (by kernel_rfl) (by
      show (true && (true && (true && ((allN (fun j => (lend (frF 0 4) G 0 (box1 (.ptr 2 []) j)).1) 1) && ((allN (fun j => (lend (frF 0 4) G 0 (catT O.length (frw (nthT O)) (fun j => box1 (.ptr 2 []) (0 + j)) j)).1) (O.length + 1)) && true))))) = true
      rw [allN_of fun j _ => fzb_ok hF rfl hp j, allN_of fun j _ => fz_ok (n := 0) hF rfl hp j]; rfl) (by kernel_rfl) (fun j hj => absurd hj (Nat.not_lt_zero _))
  have h3 := h2.weak (s2 := stW 0 0 (tmk (lnT3 m N (O.length + 1) (frB k A) (frB l B) r 4 j) 0 131) [some (.ints .i64 N f), none, none, some (.rows 1 1 fun j => (lend (frF 0 4) G 0 (box1 (.ptr 2 []) j)).2.1), some (.rows (O.length + 1) 1 (frw (nthT (O ++ [t']))))])
    (St.leL (LeL.refl _) ⟨⟨rfl, fun _ _ h => h⟩, ⟨rfl, fun _ _ h => h⟩, ⟨rfl, fun ρ cs hc => frw_le (fun i hi => fz_at hF rfl hi) ρ cs hc⟩, trivial⟩ fun _ h => absurd h (Nat.not_lt_zero _))
  exact Tr.pick [0, 4] lnK3 h3 (tm' := tmk (lnT3 m N (O.length + 1) (frB k A) (frB l B) r 1 j) 0 131) (G' := lnG3 N (O.length + 1) (nthT (O ++ [t'])) f) (by kernel_rfl) (by kernel_rfl) (by kernel_rfl) trivial (by kernel_rfl) (by
    show (true && ((!Nat.blt 0 0 || Nat.beq 0 0) && (allN (fun i => idsL [0, 4] (frw (nthT (O ++ [t'])) i)) (O.length + 1) && ((!Nat.blt 1 0 || Nat.beq 4 1) && true)))) = true
    rw [allN_of (p := fun i => idsL [0, 4] (frw (nthT (O ++ [t'])) i)) fun i _ => rfl]; rfl)
/-- Chains of symbols below that, no deeper than that, of sums that fit. -/
structure WfL (d n : Nat) (L : List T) : Prop where
  wf : ∀ t ∈ L, wfT d n t
  sum : ∀ t ∈ L, 0 ≤ sumT t ∧ sumT t ≤ 4294967296 * 2 ^ d
def aT : T → T
  | .cons _ (.cons _ (.cons a _)) => a
  | _ => .any
def bT : T → T
  | .cons _ (.cons _ (.cons _ (.cons b _))) => b
  | _ => .any
theorem ch_eta {t : T} (h : isCh t = true) : chA (sumT t) (symT t) (aT t) (bT t) = t := by
  obtain ⟨a, b, e, _⟩ := isCh_shape h
  rw [e]; rfl
def etaB (L : List T) : Nat → T := chB (fun i => sumT (nthT L i)) (fun i => symT (nthT L i)) (fun i => aT (nthT L i)) (fun i => bT (nthT L i))
theorem etaB_eq {L : List T} (h : lsOK L) {i : Nat} (hi : i < L.length) : etaB L i = nthT L i := ch_eta (h _ (nthT_mem hi))
theorem toEta {L : List T} (h : lsOK L) (ρ : Rho) (x : Value) (hx : (R ρ (frzL L)).v x) : (R ρ (frB L.length (etaB L))).v x :=
  fsr_congr2 (fun i hi => by show T.fp _ = .fp _; rw [etaB_eq h hi]) ρ x hx
theorem ofEta {L : List T} (h : lsOK L) (ρ : Rho) (x : Value) (hx : (R ρ (frB L.length (etaB L))).v x) : (R ρ (frzL L)).v x :=
  fsr_congr2 (fun i hi => by show T.fp _ = .fp _; rw [etaB_eq h hi]) ρ x hx
theorem pairN_le {d n : Nat} {L : List T} (h : WfL d n L) (hd : d ≤ 20) {t u : T} (ht : t ∈ L) (hu : u ∈ L) : (pairN t u).size = (pairT t u).size ∧ ∀ ρ cs, (R ρ (pairN t u)).c cs → (R ρ (pairT t u)).c cs := by
  refine ⟨rfl, fun ρ cs hc => ?_⟩
  have h1 := h.sum t ht
  have h2 := h.sum u hu
  have h3 : (2 : Int) ^ d ≤ 2 ^ 20 := by
    have := Nat.pow_le_pow_right (show 2 > 0 by omega) hd
    exact_mod_cast this
  have e20 : (2 : Int) ^ 20 = 1048576 := by decide
  rw [e20] at h3
  unfold pairN at hc
  rw [show IntKind.u64.wrap (sumT t + sumT u) = sumT t + sumT u by rw [IntKind.wrap_u64]; omega] at hc
  exact hc
theorem ln_inner {N k d n : Nat} {m r : Int} {f : Nat → Int} {A : Nat → T} {L : List T} (hw : WfL d n L) (hd : d ≤ 20) (hc : lsOK L) (hL : L.length ≤ 1099511627776) :
    Tr Try.prog 0 (.block 4 (.loop lnB4)) (stW 0 0 (tmk (lnT3 m N 0 (frB k A) (frB L.length (etaB L)) r 1 0) 0 131) (lnG3 N 0 (nthT []) f)) .normal
      (stW 0 0 (tmk (lnT2 m N (frB k A) (frB L.length (etaB L)) r ++ [(11, .slice 1 [] 0 1 (pairsT L).length none)]) 0 131) (lnG3 N (pairsT L).length (nthT (pairsT L)) f)) := by
  have hl : ∀ i, (pairsI L i).length = i := fun i => lstT_len _ _
  refine Tr.iter (n := L.length / 2) (S := fun i => stW 0 0 (tmk (lnT3 m N (pairsI L i).length (frB k A) (frB L.length (etaB L)) r 1 (2 * i : Nat)) 0 131) (lnG3 N (pairsI L i).length (nthT (pairsI L i)) f)) (fun i hi => ?_) ?_
  · have e1 : pairsI L (i + 1) = pairsI L i ++ [pairT (nthT L (2 * i)) (nthT L (2 * i + 1))] := lstT_succ _ _
    rw [e1, List.length_append]
    have h := ln_22 N m k L.length (pairsI L i).length (nthT (pairsI L i)) A f r ((2 * i : Nat) : Int) (fun i => sumT (nthT L i)) (fun i => symT (nthT L i)) (fun i => aT (nthT L i)) (fun i => bT (nthT L i)) (by
      unfold lnV22
      rw [hl, szV_ok (by omega)]
      simp only [i64B, Bool.and_true, Bool.and_eq_true, decide_eq_true_eq, beq_iff_eq, true_and, and_true]
      omega)
    have ea : chB (fun i => sumT (nthT L i)) (fun i => symT (nthT L i)) (fun i => aT (nthT L i)) (fun i => bT (nthT L i)) ((2 * i : Nat) : Int).toNat = nthT L (2 * i) := etaB_eq hc (by omega)
    have eb : chB (fun i => sumT (nthT L i)) (fun i => symT (nthT L i)) (fun i => aT (nthT L i)) (fun i => bT (nthT L i)) (((2 * i : Nat) : Int) + 1).toNat = nthT L (2 * i + 1) := by
      rw [show (((2 * i : Nat) : Int) + 1).toNat = 2 * i + 1 by omega]; exact etaB_eq hc (by omega)
    rw [ea, eb, show ((2 * i : Nat) : Int) + 2 = ((2 * (i + 1) : Nat) : Int) by omega] at h
    have m1 : nthT L (2 * i) ∈ L := nthT_mem (by omega)
    have m2 : nthT L (2 * i + 1) ∈ L := nthT_mem (by omega)
    exact snoc4 (pairN_le hw hd m1 m2) rfl rfl h
  · exact ln_22x N m k L.length _ (nthT (pairsI L (L.length / 2))) A (etaB L) f r _ (by
      simp only [i64B, Bool.and_true, Bool.and_eq_true, decide_eq_true_eq, beq_iff_eq, decide_eq_false_iff_not]
      omega)
theorem pickT_ok {p : T → Bool} (ha : p .any = true) : ∀ {l : List (Nat × T)}, (∀ e ∈ l, p e.2 = true) → ∀ i, p (pickT i l) = true
  | [], _, _ => ha
  | (j, t) :: l, h, i => by
    simp only [pickT]
    cases Nat.beq i j with
    | true => exact h (j, t) (by simp)
    | false => exact pickT_ok ha (fun e he => h e (by simp [he])) i
theorem frTOK_tmk {n0 mask d : Nat} {G : Heap} {l : List (Nat × T)} (h : ∀ e ∈ l, (lend (frF n0 mask) G d e.2).1 = true) : ∀ n i, frTOK n0 mask G d (tmk l i n) = true
  | 0, _ => rfl
  | n + 1, i => by
    simp only [tmk, frTOK, Bool.and_eq_true]
    exact ⟨pickT_ok (p := fun t => (lend (frF n0 mask) G d t).1) (by cases d <;> rfl) h i, frTOK_tmk h n (i + 1)⟩
theorem lnB2_post : postC 2 lnB2 = .seq (.block 3 lnM) (cR (cR (cR lnB2))) := by kernel_rfl
theorem pairs_len (L : List T) : (pairsT L).length = L.length / 2 := lstT_len _ _
theorem ln_round {N d n : Nat} {m r : Int} {f : Nat → Int} {S L : List T} (hS : lsOK S) (hw : WfL d n L) (hd : d ≤ 20) (hL : S.length + L.length ≤ 1099511627776) (hr : r < m - 1) (hr2 : 0 ≤ r ∧ r < 100) :
    Tr Try.prog 0 lnB2 (stW 0 0 (tmk (lnT2 m N (frzL S) (frzL L) r) 0 131) (outG N f)) .normal (stW 0 0 (tmk (lnT2 m N (frzL S) (frzL (mrg S (pairsT L))) (r + 1)) 0 131) (outG N f)) := by
  have hc : lsOK L := fun t ht => wfT_ch (hw.wf t ht)
  refine Tr.preW envLn_ok mix 0 2 lnK2 (maskOf [70, 71]) (ln_17 N m S.length L.length (nthT S) (nthT L) f r) (by rw [decide_eq_true hr]; rfl) rfl ?_
  rw [lnB2_post]
  refine Tr.seq (s1 := stW 0 0 (tmk (lnT2 m N (frzL S) (frzL (mrg S (pairsT L))) r) 0 131) (outG N f)) (Tr.block ?_ (fun _ h => by cases h)) ?_
  · rw [lnM_eq]
    have h18 := (ln_18 N m S.length L.length (nthT S) (nthT L) f r).vac (.rows 0 1 (frw (nthT []))) rfl
    have h18' : Tr Try.prog 0 (cL lnM) _ .normal (stW 0 0 (tmk (lnT2 m N (frB S.length (nthT S)) (frB L.length (etaB L)) r ++ [(11, .slice 1 [] 0 1 0 none)]) 0 131) (lnG3 N 0 (nthT []) f)) := h18.weak
      (St.leL (show LeL [(6, _), (9, _), (10, _), (70, _), (71, _), (11, _)] [(6, _), (9, _), (10, _), (70, _), (71, _), (11, _)] from ⟨rfl, fun _ _ h => h, rfl, fun _ _ h => h, rfl, fun ρ x hx => toEta hc ρ x hx, rfl, fun _ _ h => h, rfl, fun _ _ h => h, rfl, fun _ _ h => nil_slice h, trivial⟩) (LeG.refl _) fun _ h => absurd h (Nat.not_lt_zero _))
    have hin := Tr.seq (ln_19 N m S.length L.length 0 (nthT []) (nthT S) (etaB L) f r) (ln_inner (N := N) (k := S.length) (m := m) (r := r) (f := f) (A := nthT S) hw hd hc (by omega))
    have hz := Tr.frz 2 0 hin (tm' := tmk (lnT2 m N (frB S.length (nthT S)) (frB L.length (etaB L)) r ++ [(11, .fsr 1 (pairsT L).length (fun j => frw (nthT (pairsT L)) (0 + j)) none)]) 0 131) (G' := [some (.ints .i64 N f), none]) (by kernel_rfl) (by kernel_rfl) (by kernel_rfl) (by
        refine frTOK_tmk (fun e he => ?_) 131 0
        rcases (show e = (6, frB S.length (nthT S)) ∨ e = (9, outS N 0) ∨ e = (10, frB L.length (etaB L)) ∨ e = (70, .num (m - 1)) ∨ e = (71, .num r) ∨ e = (11, .slice 1 [] 0 1 (pairsT L).length none) by simpa [lnT2] using he) with rfl | rfl | rfl | rfl | rfl | rfl
        all_goals first | rfl | skip
        show (((true && decide (0 + (pairsT L).length ≤ (pairsT L).length)) && (true && true)) && allN (fun j => noPtr (frw (nthT (pairsT L)) (0 + j)) && noPtr (frw (nthT (pairsT L)) (0 + j))) (pairsT L).length) = true
        rw [decide_eq_true (show 0 + (pairsT L).length ≤ (pairsT L).length by omega), allN_of (p := fun j => noPtr (frw (nthT (pairsT L)) (0 + j)) && noPtr (frw (nthT (pairsT L)) (0 + j))) fun i _ => rfl]; rfl) (fun j hj => absurd hj (Nat.not_lt_zero _))
    have hz2 : Tr Try.prog 0 _ _ .normal (stW 0 0 (tmk (lnT2 m N (frB S.length (nthT S)) (frzL L) r ++ [(11, frB (pairsT L).length (nthT (pairsT L)))]) 0 131) [some (.ints .i64 N f), none]) := hz.weak
      (St.leL (by
        show LeL [(6, frB S.length (nthT S)), (9, outS N 0), (10, frB L.length (etaB L)), (70, .num (m - 1)), (71, .num r), (11, .fsr 1 (pairsT L).length (fun j => frw (nthT (pairsT L)) (0 + j)) none)] [(6, frB S.length (nthT S)), (9, outS N 0), (10, frzL L), (70, .num (m - 1)), (71, .num r), (11, frB (pairsT L).length (nthT (pairsT L)))]
        exact ⟨rfl, fun _ _ h => h, rfl, fun _ _ h => h, rfl, fun ρ x hx => ofEta hc ρ x hx, rfl, fun _ _ h => h, rfl, fun _ _ h => h, rfl, fun ρ x hx => fsr_congr2 (fun i _ => by rw [Nat.zero_add]) ρ x hx, trivial⟩) (LeG.refl _) fun _ h => absurd h (Nat.not_lt_zero _))
    have h23 := ln_23 N m S.length L.length (pairsT L).length (nthT (pairsT L)) (nthT S) (nthT L) f r (by
      rw [holds_of (p := MgIn S.length (pairsT L).length (frw (nthT S)) (frw (nthT (pairsT L)))) ⟨by rw [pairs_len]; omega, fun i hi => ⟨rfl, hS _ (nthT_mem hi)⟩, fun i hi => ⟨rfl, by
        show isCh (nthT (pairsT L) i) = true
        rw [pairsT, pairsI, nthT_lst (by rw [← pairs_len]; exact hi)]; rfl⟩⟩]
      rfl)
    rw [unls_frz, unls_frz] at h23
    exact Tr.pick [0] lnK2 (Tr.seq h18' (Tr.seq hz2 h23)) (tm' := tmk (lnT2 m N (frzL S) (frzL (mrg S (pairsT L))) r) 0 131) (G' := outG N f) (by kernel_rfl) (by kernel_rfl) (by kernel_rfl) trivial (by kernel_rfl) (by kernel_rfl)
  · exact ln_24 N m S.length (mrg S (pairsT L)).length (nthT S) (nthT (mrg S (pairsT L))) f r (by
      simp only [i64B, Bool.and_true, decide_eq_true_eq]
      omega)
end Go.Proofs.Ytjianphppcappaa

/-! huff.Lengths: all rounds, and what is told of them. No condition. -/
namespace Go.Proofs.Ytjianphppcappaa
open Go.AE
set_option maxRecDepth 100000

theorem mem_mrg {t : T} : ∀ (a b : List T), t ∈ mrg a b ↔ t ∈ a ∨ t ∈ b
  | [], b => by simp [mrg_nil]
  | x :: xs, [] => by simp [mrg_nil2]
  | x :: xs, y :: ys => by
    by_cases h : sumT x > sumT y
    · rw [mrg_gt _ _ h, List.mem_cons, mem_mrg (x :: xs) ys]; simp only [List.mem_cons]
      constructor
      · rintro (h | h | h) <;> simp [h]
      · rintro ((h | h) | h | h) <;> simp [h]
    · rw [mrg_le _ _ h, List.mem_cons, mem_mrg xs (y :: ys)]; simp only [List.mem_cons]
      constructor
      · rintro (h | h | h | h) <;> simp [h]
      · rintro ((h | h) | h | h) <;> simp [h]
termination_by a b => a.length + b.length
/-- The list behind so many rounds. -/
def Lst (S : List T) : Nat → List T
  | 0 => S
  | r + 1 => mrg S (pairsT (Lst S r))
theorem Lst_len (S : List T) (r : Nat) : (Lst S (r + 1)).length = S.length + (Lst S r).length / 2 := by rw [Lst, mrg_len, pairs_len]
theorem Lst_le (S : List T) : ∀ r, S.length ≤ (Lst S r).length ∧ (Lst S r).length ≤ 2 * S.length
  | 0 => ⟨Nat.le_refl _, by show S.length ≤ _; omega⟩
  | r + 1 => by
    have := Lst_le S r
    rw [Lst_len]; omega
theorem Lst_ge (S : List T) : ∀ r e, S.length ≤ 2 ^ (r + e) → 2 * S.length ≤ (Lst S r).length + 2 ^ e
  | 0, e, h => by
    rw [Nat.zero_add] at h
    show 2 * S.length ≤ S.length + 2 ^ e
    omega
  | r + 1, e, h => by
    have h1 := Lst_ge S r (e + 1) (by rw [show r + (e + 1) = r + 1 + e by omega]; exact h)
    have h2 := Lst_le S r
    rw [Lst_len]
    rw [Nat.pow_succ] at h1
    omega
theorem mem_pairs {L : List T} {t : T} (h : t ∈ pairsT L) : ∃ a b, a ∈ L ∧ b ∈ L ∧ t = pairT a b := by
  simp only [pairsT, pairsI, lstT, List.mem_map, List.mem_range] at h
  obtain ⟨q, hq, rfl⟩ := h
  exact ⟨_, _, nthT_mem (by omega), nthT_mem (by omega), rfl⟩
theorem WfL_up {d n : Nat} {L : List T} (h : WfL d n L) : WfL (d + 1) n L := by
  refine ⟨fun t ht => wfT_succ (h.wf t ht), fun t ht => ?_⟩
  have := h.sum t ht
  have h0 : (0 : Int) < 2 ^ d := Int.pow_pos (by decide)
  rw [Int.pow_succ]; omega
theorem WfL_pairs {d n : Nat} {L : List T} (h : WfL d n L) : WfL (d + 1) n (pairsT L) := by
  refine ⟨fun t ht => ?_, fun t ht => ?_⟩
  · obtain ⟨a, b, ha, hb, rfl⟩ := mem_pairs ht
    exact .inr ⟨_, a, b, rfl, h.wf a ha, h.wf b hb⟩
  · obtain ⟨a, b, ha, hb, rfl⟩ := mem_pairs ht
    have h1 := h.sum a ha
    have h2 := h.sum b hb
    show 0 ≤ sumT a + sumT b ∧ sumT a + sumT b ≤ _
    rw [Int.pow_succ]; omega
theorem WfL_mrg {d n : Nat} {A B : List T} (h1 : WfL d n A) (h2 : WfL d n B) : WfL d n (mrg A B) :=
  ⟨fun t ht => ((mem_mrg A B).1 ht).elim (h1.wf t) (h2.wf t), fun t ht => ((mem_mrg A B).1 ht).elim (h1.sum t) (h2.sum t)⟩
theorem WfL_of {d n : Nat} {L : List T} (h : WfL 1 n L) : WfL (d + 1) n L := by
  induction d with
  | zero => exact h
  | succ d ih => exact WfL_up ih
theorem Lst_wf {n : Nat} {S : List T} (h : WfL 1 n S) : ∀ r, WfL (r + 1) n (Lst S r)
  | 0 => h
  | r + 1 => WfL_mrg (WfL_of h) (WfL_pairs (Lst_wf h r))
theorem WfL.ch {d n : Nat} {L : List T} (h : WfL d n L) : lsOK L := fun t ht => wfT_ch (h.wf t ht)

theorem ln_rounds {N M n : Nat} {f : Nat → Int} {S : List T} (h : WfL 1 n S) (hM : 1 ≤ M ∧ M ≤ 15) (hS : S.length ≤ 1000) :
    Tr Try.prog 0 (.block 2 (.loop lnB2)) (stW 0 0 (tmk (lnT2 M N (frzL S) (frzL S) 0) 0 131) (outG N f)) .normal (stW 0 0 (tmk [(6, frzL S), (9, outS N 0), (10, frzL (Lst S (M - 1)))] 0 131) (outG N f)) := by
  refine Tr.iter (n := M - 1) (S := fun r => stW 0 0 (tmk (lnT2 M N (frzL S) (frzL (Lst S r)) (r : Nat)) 0 131) (outG N f)) (fun r hr => ?_) ?_
  · have := Lst_le S r
    exact ln_round h.ch (Lst_wf h r) (by omega) (by omega) (by omega) (by omega)
  · exact ln_17x N M S.length (Lst S (M - 1)).length (nthT S) (nthT (Lst S (M - 1))) f ((M - 1 : Nat) : Int) (decide_eq_false (by omega))

/-- Deepened by so many chains. -/
noncomputable def dps (L : List T) (f : Nat → Int) : Nat → Nat → Int
  | 0 => f
  | i + 1 => deepF (nthT L i) (dps L f i)
theorem dps_bnd {d n : Nat} {L : List T} (h : WfL d n L) (hd : d ≤ 15) {f : Nat → Int} (hf : ∀ j, f j = 0) : ∀ i, i ≤ L.length → ∀ j, 0 ≤ dps L f i j ∧ dps L f i j ≤ i * 32768
  | 0, _, j => by
    show 0 ≤ f j ∧ f j ≤ _
    rw [hf]; omega
  | i + 1, hi, j => by
    have h1 := dps_bnd h hd hf i (by omega) j
    have h2 := (wfT_lvs (h.wf _ (nthT_mem (show i < L.length by omega)))).2.2
    have h3 := List.count_le_length (a := j) (l := lvs (nthT L i))
    have h4 := Nat.pow_le_pow_right (show 2 > 0 by omega) hd
    rw [show 2 ^ 15 = 32768 from rfl] at h4
    show 0 ≤ deepF (nthT L i) (dps L f i) j ∧ deepF (nthT L i) (dps L f i) j ≤ _
    rw [deepF_eq]; omega
theorem ln_deep {N d q : Nat} {L : List T} (h : WfL d N L) (hd : d ≤ 15) (hq : q ≤ L.length) (hL : q ≤ 2000) {f : Nat → Int} (hf : ∀ j, f j = 0) :
    Tr Try.prog 0 (.block 6 (.loop lnB6)) (stW 0 0 (tmk (lnT4 N (frB q (nthT L)) q 0) 0 131) (outG N f)) .normal (stW 0 0 (tmk [(9, outS N 0)] 0 131) (outG N (dps L f q))) := by
  refine Tr.iter (n := q) (S := fun i => stW 0 0 (tmk (lnT4 N (frB q (nthT L)) q (i : Nat)) 0 131) (outG N (dps L f i))) (fun i hi => ?_) ?_
  · have hD : DpIn 15 N (nthT L i) (dps L f i) := by
      refine ⟨wfT_mono (h.wf _ (nthT_mem (by omega))) hd, fun j _ => ?_⟩
      have h1 := dps_bnd h hd hf i (by omega) j
      have h2 := (wfT_lvs (h.wf _ (nthT_mem (show i < L.length by omega)))).2.2
      have h4 := Nat.pow_le_pow_right (show 2 > 0 by omega) hd
      rw [show 2 ^ 15 = 32768 from rfl] at h4
      omega
    exact ln_26 N q (nthT L) (dps L f i) i (by
      unfold lnV26
      rw [Int.toNat_natCast, holds_of hD, decide_eq_true (show N = N ∧ N = N from ⟨rfl, rfl⟩)]
      simp only [i64B, Bool.and_true, Bool.true_and, Bool.and_eq_true, decide_eq_true_eq, beq_iff_eq]
      omega)
  · exact ln_26x N q (nthT L) (dps L f q) q (decide_eq_false (by omega))
end Go.Proofs.Ytjianphppcappaa

/-! huff.Lengths: a run that ends well. No condition. -/
namespace Go.Proofs.Ytjianphppcappaa
open Go.AE
set_option maxRecDepth 100000

/-- The leaves in order. -/
noncomputable def sorted (L : List T) : List T := lstT L.length (sbF L.length (nthT L) L.length)
theorem sorted_ok {L : List T} (h : lsOK L) (hL : L.length ≤ 1099511627776) : (sorted L).Perm L ∧ (sorted L).length = L.length ∧ ∀ i j, i ≤ j → j < L.length → sumT (nthT (sorted L) i) ≤ sumT (nthT (sorted L) j) := by
  obtain ⟨tm, hS, _⟩ := sbF_ok hL (Nat.le_refl L.length) (nthT L) (fun i hi => h _ (nthT_mem hi))
  refine ⟨?_, lstT_len _ _, fun i j hij hj => ?_⟩
  · have := hS.pm.perm
    rw [show (List.range L.length).map (nthT L) = L from lstT_nth L] at this
    exact this
  · unfold sorted
    rw [nthT_lst (by omega), nthT_lst hj]
    exact hS.srt i j (Nat.zero_le _) hij hj
theorem ln_v {N M k : Nat} {L : List T} (hk : L.length = k) (h : WfL 1 N L) (hM : 1 ≤ M ∧ M ≤ 15) (hL : L.length ≤ 1000) (hL2 : L.length ≤ 2 ^ M) :
    Tr Try.prog 0 lnV (stW 0 0 (tmk (lnT1 M N k) 0 131) [some (.rows k 1 (frw (nthT L))), some (.ints .i64 N fun _ => 0)]) .ret
      (stW 0 0 (tmk [(4, outS N 0), (5, .int .i64 0)] 0 131) (outG N (dps (Lst (sorted L) (M - 1)) (fun _ => 0) (2 * k - 2)))) := by
  subst hk
  have hc := h.ch
  obtain ⟨p1, p2, p3⟩ := sorted_ok hc (by omega)
  have hS : WfL 1 N (sorted L) := ⟨fun t ht => h.wf t (p1.mem_iff.1 ht), fun t ht => h.sum t (p1.mem_iff.1 ht)⟩
  rw [lnV_eq]
  have h14 := ln_14 N M L.length (nthT L) (fun _ => 0) (by
    rw [cvB_ok (show stVc L.length (nthT L) [] = true from holds_of (p := L.length ≤ 1099511627776 ∧ Chs L.length (nthT L)) ⟨by omega, fun i hi => hc _ (nthT_mem hi)⟩)]; rfl)
  refine Tr.seq h14 ?_
  have h15 := ln_15 N M L.length (sbF L.length (nthT L) L.length) (fun _ => 0)
  have hz := Tr.frz 1 0 h15 (tm' := tmk [(1, .num M), (6, .fsr 1 L.length (fun j => frw (sbF L.length (nthT L) L.length) (0 + j)) none), (9, outS N 1), (10, .fsr 1 L.length (fun j => frw (sbF L.length (nthT L) L.length) (0 + j)) none)] 0 131)
    (G' := [none, some (.ints .i64 N fun _ => 0)]) (by kernel_rfl) (by kernel_rfl) (by kernel_rfl) (by
      refine frTOK_tmk (fun e he => ?_) 131 0
      have hs : (((true && decide (0 + L.length ≤ L.length)) && (true && true)) && allN (fun j => noPtr (frw (sbF L.length (nthT L) L.length) (0 + j)) && noPtr (frw (sbF L.length (nthT L) L.length) (0 + j))) L.length) = true := by
        rw [decide_eq_true (show 0 + L.length ≤ L.length by omega), allN_of (p := fun j => noPtr (frw (sbF L.length (nthT L) L.length) (0 + j)) && noPtr (frw (sbF L.length (nthT L) L.length) (0 + j))) fun i _ => rfl]; rfl
      rcases (show e = (1, .num M) ∨ e = (6, .slice 0 [] 0 1 L.length none) ∨ e = (9, outS N 1) ∨ e = (10, .slice 0 [] 0 1 L.length none) by simpa [lnT1] using he) with rfl | rfl | rfl | rfl
      · rfl
      · exact hs
      · rfl
      · exact hs) (fun j hj => absurd hj (Nat.not_lt_zero _))
  have conv : ∀ ρ x, (R ρ (.fsr 1 L.length (fun j => frw (sbF L.length (nthT L) L.length) (0 + j)) none)).v x → (R ρ (frzL (sorted L))).v x := fun ρ x hx => by
    unfold frzL
    rw [p2]
    refine fsr_congr2 (fun i hi => ?_) ρ x hx
    show T.fp _ = .fp (nthT (sorted L) i)
    unfold sorted
    rw [nthT_lst hi, Nat.zero_add]
  have hz2 : Tr Try.prog 0 (cL (cR lnV)) _ .normal (stW 0 0 (tmk [(1, .num M), (6, frzL (sorted L)), (9, outS N 1), (10, frzL (sorted L))] 0 131) [none, some (.ints .i64 N fun _ => 0)]) := hz.weak
    (St.leL ⟨rfl, fun _ _ h => h, rfl, conv, rfl, fun _ _ h => h, rfl, conv, trivial⟩ (LeG.refl _) fun _ h => absurd h (Nat.not_lt_zero _))
  have hz3 := Tr.pick [1] (maskOf [1, 6, 9, 10]) hz2 (tm' := tmk [(1, .num M), (6, frzL (sorted L)), (9, outS N 0), (10, frzL (sorted L))] 0 131) (G' := outG N fun _ => 0) (by kernel_rfl) (by kernel_rfl) (by kernel_rfl) trivial (by kernel_rfl) (by kernel_rfl)
  refine Tr.seq hz3 ?_
  have hlen := Lst_le (sorted L) (M - 1)
  have hge := Lst_ge (sorted L) (M - 1) 1 (by rw [p2, show M - 1 + 1 = M by omega]; exact hL2)
  rw [p2] at hlen hge
  refine Tr.seq (s1 := stW 0 0 (tmk [(6, frzL (sorted L)), (9, outS N 0), (10, frzL (Lst (sorted L) (M - 1)))] 0 131) (outG N fun _ => 0)) ?_ (Tr.seq (s1 := stW 0 0 (tmk [(9, outS N 0)] 0 131) (outG N (dps (Lst (sorted L) (M - 1)) (fun _ => 0) (2 * L.length - 2)))) ?_ (ln_30 N _))
  · rw [lnS_eq]
    exact Tr.seq (ln_16 N M (sorted L).length (nthT (sorted L)) (fun _ => 0) (by simp only [i64B, Bool.and_true, decide_eq_true_eq]; omega)) (ln_rounds hS hM (by rw [p2]; exact hL))
  · rw [lnQ_eq]
    have etw : (tw L.length).toNat - (0 : Int).toNat = 2 * L.length - 2 := by
      show (max (2 * (L.length : Int) - 2) 0).toNat - (0 : Int).toNat = _
      omega
    have h25 := ln_25 N (sorted L).length (Lst (sorted L) (M - 1)).length (nthT (sorted L)) (nthT (Lst (sorted L) (M - 1))) (fun _ => 0) (by
      have e : tw (sorted L).length = max (2 * (L.length : Int) - 2) 0 := by unfold tw; rw [p2]; rfl
      unfold lnV25
      rw [e, p2]
      simp only [i64B, Bool.and_true, Bool.and_eq_true, decide_eq_true_eq]
      omega)
    rw [p2, etw] at h25
    have ef : (fun j => T.fp (nthT (Lst (sorted L) (M - 1)) ((0 : Int).toNat + j))) = frw (nthT (Lst (sorted L) (M - 1))) := by
      funext j; show T.fp _ = T.fp _; rw [show (0 : Int).toNat + j = j from Nat.zero_add j]
    rw [ef] at h25
    refine Tr.seq (s1 := stW 0 0 (tmk (lnT4 N (frB (2 * L.length - 2) (nthT (Lst (sorted L) (M - 1)))) (2 * L.length - 2 : Nat) 0) 0 131) (outG N fun _ => 0)) ?_ (ln_deep (Lst_wf hS (M - 1)) (by omega) (by omega) (by omega) (fun _ => rfl))
    have e2 : frzL (sorted L) = frB L.length (nthT (sorted L)) := by unfold frzL frB; rw [p2]
    rw [e2]
    exact h25
end Go.Proofs.Ytjianphppcappaa

/-! huff.Lengths by its models. No condition. -/
namespace Go.Proofs.Ytjianphppcappaa
open Go.AE
set_option maxRecDepth 100000

theorem mem_leafs {c : Nat → Int} {t : T} : ∀ {n}, t ∈ leafs c n → ∃ i, i < n ∧ c i > 0 ∧ t = leaf c i
  | 0, h => by cases h
  | n + 1, h => by
    rw [leafs] at h
    rcases List.mem_append.1 h with h | h
    · obtain ⟨i, h1, h2, h3⟩ := mem_leafs h
      exact ⟨i, by omega, h2, h3⟩
    · by_cases hc : c n > 0
      · rw [if_pos hc] at h
        exact ⟨n, by omega, hc, List.mem_singleton.1 h⟩
      · rw [if_neg hc] at h; cases h
theorem leafs_wf {c : Nat → Int} {N : Nat} (hc : ∀ i, i < N → 0 ≤ c i ∧ c i < 4294967296) : WfL 1 N (leafs c N) := by
  refine ⟨fun t ht => ?_, fun t ht => ?_⟩
  · obtain ⟨i, h1, h2, rfl⟩ := mem_leafs ht
    exact .inl ⟨_, _, rfl, by omega, by omega⟩
  · obtain ⟨i, h1, h2, rfl⟩ := mem_leafs ht
    have := hc i h1
    show 0 ≤ c i ∧ c i ≤ 4294967296 * 2 ^ 1
    omega
theorem b3 : Try.prog.types[3].bytes = 8 := by kernel_rfl
theorem pow_m {M : Nat} (h : M ≤ 15) : 1 ≤ (2 : Int) ^ M ∧ (2 : Int) ^ M ≤ 32768 := by
  have h1 := Nat.pow_le_pow_right (show 2 > 0 by omega) h
  have h2 : 1 ≤ 2 ^ M := Nat.one_le_two_pow
  rw [show 2 ^ 15 = 32768 from rfl] at h1
  constructor <;> exact_mod_cast (by assumption)
/-- What Lengths tells of more than one. -/
noncomputable def lenN (c : Nat → Int) (N M : Nat) : Nat → Int := dps (Lst (sorted (leafs c N)) (M - 1)) (fun _ => 0) (2 * (leafs c N).length - 2)
theorem ln_many {N M : Nat} {c : Nat → Int} {cp : Option Nat} (hN : N ≤ 1000) (hc : ∀ i, i < N → 0 ≤ c i ∧ c i < 4294967296) (hM : 1 ≤ M ∧ M ≤ 15) (hk : (leafs c N).length ≤ 2 ^ M) (h1 : (leafs c N).length ≠ 1) :
    Tr Try.prog 0 lnC (stW 0 0 ([.fsi .u32 N c cp, .num M] ++ undefs 129) []) .ret (stW 0 0 (tmk [(4, outS N 0), (5, .int .i64 0)] 0 131) (outG N (lenN c N M))) := by
  have hl := leafs_len c N
  have hp := pow_m hM.2
  have hk' : ((leafs c N).length : Int) ≤ 2 ^ M := by exact_mod_cast hk
  refine Tr.preW (env0_ok _) mix 0 2 (maskOf [0, 1, 6]) (maskOf [1]) (ln_i N c cp M) rfl rfl ?_
  refine Tr.vac0 (.rows 0 1 (frw (nthT []))) rfl ?_
  refine Tr.weak0 (s := stW 0 0 (tmk (lnT N c cp M (.slice 0 [] 0 1 0 none)) 0 131) (soG 0 (nthT []))) ?_ (St.leL ⟨rfl, fun _ _ h => h, rfl, fun _ _ h => h, rfl, fun _ _ h => nil_slice h, trivial⟩ (LeG.refl _) fun _ h => absurd h (Nat.not_lt_zero _))
  show Tr Try.prog 0 lnX _ _ _
  rw [lnX_eq]
  refine Tr.seq (ln_loop hN hc) (Tr.seq (ln_8 N c cp M (leafs c N).length (nthT (leafs c N)) ?_) (Tr.seq (ln_10 N c cp M (leafs c N).length (nthT (leafs c N)) ?_) (Tr.seq (ln_11 N M (leafs c N).length (nthT (leafs c N)) (fun _ => 0) ?_) (ln_v rfl (leafs_wf hc) hM (by omega) hk))))
  · unfold lnVok in64
    rw [Int.toNat_natCast]
    simp only [Bool.and_true, Bool.or_false, Bool.false_or, Bool.and_eq_true, decide_eq_true_eq, beq_iff_eq, decide_eq_false_iff_not]
    omega
  · unfold lnV10
    rw [b3]
    simp only [Bool.and_true, Bool.and_eq_true, decide_eq_true_eq]
    omega
  · rw [beq_eq_false_iff_ne]
    omega
/-- What may be asked. -/
structure LnIn (N : Nat) (c : Nat → Int) (M : Int) : Prop where
  n : N ≤ 1000
  cs : ∀ i, i < N → 0 ≤ c i ∧ c i < 4294967296
  m : 1 ≤ M ∧ M ≤ 15
  k : (leafs c N).length ≤ 2 ^ M.toNat
def lenT (N : Nat) (e : Int) : T := .tup (.cons (outS N 0) (.cons (.int .i64 e) .nil))
noncomputable def LenV : VModel
  | [.fsi .u32 N c _, m] => match numOf m with
    | some M => some ⟨holds (LnIn N c M ∧ (leafs c N).length ≠ 1), lenT N 0, outG N (lenN c N M.toNat), true⟩
    | none => none
  | _ => none
theorem Len_ok : SoundV Try.prog 14 LenV := by
  refine SoundV.refine fun args r hr hvc ρ xs hρ hargs => ?_
  unfold LenV at hr
  split at hr
  · rename_i N c cp m
    split at hr
    · rename_i M hm
      cases hr
      obtain ⟨hI, h1⟩ := of_holds hvc
      obtain ⟨K, rfl⟩ := Int.eq_ofNat_of_zero_le (show 0 ≤ M by have := hI.m; omega)
      have hK := hI.k
      rw [Int.toNat_natCast] at hK
      have hS : SoundV Try.prog 14 (onlyV [.fsi .u32 N c cp, .num K] ⟨true, lenT N 0, outG N (lenN c N K), true⟩) := by
        refine SoundV.of_tr (fn := Try.f14) (c := lnC) (by kernel_rfl) (by kernel_rfl) (by kernel_rfl) ?_
        intro args r hr _
        obtain ⟨rfl, rfl⟩ := onlyV_spec hr
        exact ⟨.ret, _, [outS N 0, .int .i64 0], 0, .inl rfl, ln_many hI.n hI.cs (by have := hI.m; omega) hK h1, rfl, rfl, rfl, fun _ => rfl⟩
      obtain ⟨y, ys, e, hy, z, zs, e2, hz, h3⟩ := hargs
      refine ⟨_, hS, [.fsi .u32 N c cp, .num K], ⟨y, ys, e, hy, z, zs, e2, numOf_R hm ρ z hz, h3⟩, _, onlyV_self _ _, rfl, rfl, fun _ => rfl, fun ρ' x hx => hx⟩
    · cases hr
  · cases hr
end Go.Proofs.Ytjianphppcappaa

/-! huff.Lengths: one leaf, and what may not be. No condition. -/
namespace Go.Proofs.Ytjianphppcappaa
open Go.AE
set_option maxRecDepth 100000
section
variable (N : Nat) (c : Nat → Int) (cp : Option Nat) (m : Int) (k : Nat) (H : Nat → T)
def erT : List T := tmk [(4, .nilslice), (5, .int .i64 1)] 0 131
theorem ln_e1 (hv : decide (m < 1) = true) : Tr Try.prog 0 (cL lnY) (stW 0 0 (tmk (lnT N c cp m (.slice 0 [] 0 1 k none)) 0 131) (soG k H)) .ret (stW 0 0 erT (soG k H)) :=
  Tr.evW (n := ⟨1000000, [(34, true), (50, true)]⟩) (N := 1) (keep := maskOf [4, 5]) (nm := 0) (vc := decide (m < 1) == true && true && true) envLn_ok mix (by kernel_rfl) (by rw [hv]; rfl) rfl rfl (soH _ _ _)
def lnVe2 : Bool := (decide (m < 1) == false && ((decide (m > 15) == true || false) && true)) && true
theorem ln_e2 (hv : lnVe2 m = true) : Tr Try.prog 0 (cL lnY) (stW 0 0 (tmk (lnT N c cp m (.slice 0 [] 0 1 k none)) 0 131) (soG k H)) .ret (stW 0 0 erT (soG k H)) :=
  Tr.evW (n := ⟨1000000, [(34, false), (37, true), (50, true)]⟩) (N := 1) (keep := maskOf [4, 5]) (nm := 0) (vc := lnVe2 m) envLn_ok mix (by kernel_rfl) hv rfl rfl (soH _ _ _)
noncomputable def lnVe4 : Bool := (decide (m < 1) == false && ((decide (m > 15) == false || false) && ((decide ((N : Int) > 1000) == false || false) && ((false || decide (0 ≤ m ∧ m < 64) && in64 (1 * 2 ^ m.toNat)) && ((decide ((k : Int) > 1 * 2 ^ m.toNat) == true || false) && true))))) && true
theorem ln_e4 (hv : lnVe4 N m k = true) : Tr Try.prog 0 (cL lnY) (stW 0 0 (tmk (lnT N c cp m (.slice 0 [] 0 1 k none)) 0 131) (soG k H)) .ret (stW 0 0 erT (soG k H)) :=
  Tr.evW (n := ⟨1000000, [(34, false), (37, false), (42, false), (49, true), (50, true)]⟩) (N := 1) (keep := maskOf [4, 5]) (nm := 0) (vc := lnVe4 N m k) envLn_ok mix (by kernel_rfl) hv rfl rfl (soH _ _ _)
end
theorem ln_err {N : Nat} {m : Int} {c : Nat → Int} {cp : Option Nat} (hN : N ≤ 1000) (hc : ∀ i, i < N → 0 ≤ c i ∧ c i < 4294967296) (hm : m < 1 ∨ m > 15 ∨ (leafs c N).length > 2 ^ m.toNat) :
    Tr Try.prog 0 lnC (stW 0 0 ([.fsi .u32 N c cp, .num m] ++ undefs 129) []) .ret (stW 0 0 erT []) := by
  have hl := leafs_len c N
  refine Tr.preW (env0_ok _) mix 0 2 (maskOf [0, 1, 6]) (maskOf [1]) (ln_i N c cp m) rfl rfl ?_
  refine Tr.vac0 (.rows 0 1 (frw (nthT []))) rfl ?_
  refine Tr.weak0 (s := stW 0 0 (tmk (lnT N c cp m (.slice 0 [] 0 1 0 none)) 0 131) (soG 0 (nthT []))) ?_ (St.leL ⟨rfl, fun _ _ h => h, rfl, fun _ _ h => h, rfl, fun _ _ h => nil_slice h, trivial⟩ (LeG.refl _) fun _ h => absurd h (Nat.not_lt_zero _))
  show Tr Try.prog 0 lnX _ _ _
  rw [lnX_eq]
  refine Tr.pick [] (maskOf [4, 5]) (Tr.seq (ln_loop hN hc) (Tr.seqX (e := .ret) (s1 := stW 0 0 erT (soG (leafs c N).length (nthT (leafs c N)))) ?_ (by intro h; cases h))) (tm' := erT) (G' := []) (by kernel_rfl) (by kernel_rfl) (by kernel_rfl) trivial (by kernel_rfl) (by kernel_rfl)
  by_cases h1 : m < 1
  · exact ln_e1 N c cp m _ _ (decide_eq_true h1)
  · by_cases h2 : m > 15
    · exact ln_e2 N c cp m _ _ (by
        unfold lnVe2
        rw [decide_eq_false h1, decide_eq_true h2]; rfl)
    · obtain ⟨M, rfl⟩ := Int.eq_ofNat_of_zero_le (show 0 ≤ m by omega)
      have hp := pow_m (M := M) (by omega)
      have hk : (leafs c N).length > 2 ^ M := by
        rcases hm with h | h | h
        · omega
        · omega
        · exact h
      have hk' : ((leafs c N).length : Int) > 2 ^ M := by exact_mod_cast hk
      refine ln_e4 N c cp M _ _ ?_
      unfold lnVe4 in64
      rw [Int.toNat_natCast]
      simp only [Bool.and_true, Bool.or_false, Bool.false_or, Bool.and_eq_true, decide_eq_true_eq, beq_iff_eq, decide_eq_false_iff_not]
      omega
noncomputable def LenErrV : VModel
  | [.fsi .u32 N c _, m] => match numOf m with
    | some M => some ⟨holds (N ≤ 1000 ∧ (∀ i, i < N → 0 ≤ c i ∧ c i < 4294967296) ∧ (M < 1 ∨ M > 15 ∨ (leafs c N).length > 2 ^ M.toNat)), .tup (.cons .nilslice (.cons (.int .i64 1) .nil)), [], true⟩
    | none => none
  | _ => none
theorem LenErr_ok : SoundV Try.prog 14 LenErrV := by
  refine SoundV.refine fun args r hr hvc ρ xs hρ hargs => ?_
  unfold LenErrV at hr
  split at hr
  · rename_i N c cp m
    split at hr
    · rename_i M hm
      cases hr
      obtain ⟨h1, h2, h3⟩ := of_holds hvc
      have hS : SoundV Try.prog 14 (onlyV [.fsi .u32 N c cp, .num M] ⟨true, .tup (.cons .nilslice (.cons (.int .i64 1) .nil)), [], true⟩) := by
        refine SoundV.of_tr (fn := Try.f14) (c := lnC) (by kernel_rfl) (by kernel_rfl) (by kernel_rfl) ?_
        intro args r hr _
        obtain ⟨rfl, rfl⟩ := onlyV_spec hr
        exact ⟨.ret, _, [.nilslice, .int .i64 1], 0, .inl rfl, ln_err h1 h2 h3, rfl, rfl, rfl, fun _ => rfl⟩
      obtain ⟨y, ys, e, hy, z, zs, e2, hz, h4⟩ := hargs
      refine ⟨_, hS, [.fsi .u32 N c cp, .num M], ⟨y, ys, e, hy, z, zs, e2, numOf_R hm ρ z hz, h4⟩, _, onlyV_self _ _, rfl, rfl, fun _ => rfl, fun ρ' x hx => hx⟩
    · cases hr
  · cases hr
end Go.Proofs.Ytjianphppcappaa

/-! huff.Lengths: one leaf. No condition. -/
namespace Go.Proofs.Ytjianphppcappaa
open Go.AE
set_option maxRecDepth 100000
def oneF (i : Nat) : Nat → Int := fun j => bif Nat.beq j (0 + (i : Int).toNat) then 1 else 0
theorem ln_one {N M i : Nat} {c : Nat → Int} {cp : Option Nat} (hN : N ≤ 1000) (hc : ∀ i, i < N → 0 ≤ c i ∧ c i < 4294967296) (hM : 1 ≤ M ∧ M ≤ 15) (hi : i < N) (h1 : leafs c N = [leaf c i]) :
    Tr Try.prog 0 lnC (stW 0 0 ([.fsi .u32 N c cp, .num M] ++ undefs 129) []) .ret (stW 0 0 (tmk [(4, outS N 0), (5, .int .i64 0)] 0 131) (outG N (oneF i))) := by
  have hp := pow_m hM.2
  have hl := ln_loop (cp := cp) (m := M) hN hc
  rw [h1] at hl
  refine Tr.preW (env0_ok _) mix 0 2 (maskOf [0, 1, 6]) (maskOf [1]) (ln_i N c cp M) rfl rfl ?_
  refine Tr.vac0 (.rows 0 1 (frw (nthT []))) rfl ?_
  refine Tr.weak0 (s := stW 0 0 (tmk (lnT N c cp M (.slice 0 [] 0 1 0 none)) 0 131) (soG 0 (nthT []))) ?_ (St.leL ⟨rfl, fun _ _ h => h, rfl, fun _ _ h => h, rfl, fun _ _ h => nil_slice h, trivial⟩ (LeG.refl _) fun _ h => absurd h (Nat.not_lt_zero _))
  show Tr Try.prog 0 lnX _ _ _
  rw [lnX_eq]
  have h12 := ln_12 N M 1 (fun _ => 0) (c i) i .nilptr .nilptr (by
    unfold lnV11
    simp only [Bool.and_true, Bool.and_eq_true, decide_eq_true_eq, beq_iff_eq]
    omega)
  refine Tr.pick [1] (maskOf [4, 5]) (Tr.seq hl (Tr.seq (ln_8 N c cp M 1 (nthT [leaf c i]) ?_) (Tr.seq (ln_10 N c cp M 1 (nthT [leaf c i]) ?_) (Tr.seqX h12 (by intro h; cases h))))) (tm' := tmk [(4, outS N 0), (5, .int .i64 0)] 0 131) (G' := outG N (oneF i)) (by kernel_rfl) (by kernel_rfl) (by kernel_rfl) trivial (by kernel_rfl) (by kernel_rfl)
  · unfold lnVok in64
    rw [Int.toNat_natCast]
    simp only [Bool.and_true, Bool.or_false, Bool.false_or, Bool.and_eq_true, decide_eq_true_eq, beq_iff_eq, decide_eq_false_iff_not]
    omega
  · unfold lnV10
    rw [b3]
    simp only [Bool.and_true, Bool.and_eq_true, decide_eq_true_eq]
    omega
/-- The place of the one that is there. -/
noncomputable def theOne (c : Nat → Int) (N : Nat) : Nat := open Classical in if h : ∃ i, i < N ∧ leafs c N = [leaf c i] then Classical.choose h else 0
theorem theOne_ok {c : Nat → Int} {N : Nat} (h : (leafs c N).length = 1) : theOne c N < N ∧ leafs c N = [leaf c (theOne c N)] := by
  have hx : ∃ i, i < N ∧ leafs c N = [leaf c i] := by
    obtain ⟨t, ht⟩ := List.length_eq_one_iff.1 h
    obtain ⟨i, h1, _, h3⟩ := mem_leafs (show t ∈ leafs c N by rw [ht]; simp)
    exact ⟨i, h1, by rw [ht, h3]⟩
  unfold theOne
  rw [dif_pos hx]
  exact Classical.choose_spec hx
noncomputable def LenOneV : VModel
  | [.fsi .u32 N c _, m] => match numOf m with
    | some M => some ⟨holds (LnIn N c M ∧ (leafs c N).length = 1), lenT N 0, outG N (oneF (theOne c N)), true⟩
    | none => none
  | _ => none
theorem LenOne_ok : SoundV Try.prog 14 LenOneV := by
  refine SoundV.refine fun args r hr hvc ρ xs hρ hargs => ?_
  unfold LenOneV at hr
  split at hr
  · rename_i N c cp m
    split at hr
    · rename_i M hm
      cases hr
      obtain ⟨hI, h1⟩ := of_holds hvc
      obtain ⟨K, rfl⟩ := Int.eq_ofNat_of_zero_le (show 0 ≤ M by have := hI.m; omega)
      obtain ⟨g1, g2⟩ := theOne_ok h1
      have hS : SoundV Try.prog 14 (onlyV [.fsi .u32 N c cp, .num K] ⟨true, lenT N 0, outG N (oneF (theOne c N)), true⟩) := by
        refine SoundV.of_tr (fn := Try.f14) (c := lnC) (by kernel_rfl) (by kernel_rfl) (by kernel_rfl) ?_
        intro args r hr _
        obtain ⟨rfl, rfl⟩ := onlyV_spec hr
        exact ⟨.ret, _, [outS N 0, .int .i64 0], 0, .inl rfl, ln_one hI.n hI.cs (by have := hI.m; omega) g1 g2, rfl, rfl, rfl, fun _ => rfl⟩
      obtain ⟨y, ys, e, hy, z, zs, e2, hz, h3⟩ := hargs
      refine ⟨_, hS, [.fsi .u32 N c cp, .num K], ⟨y, ys, e, hy, z, zs, e2, numOf_R hm ρ z hz, h3⟩, _, onlyV_self _ _, rfl, rfl, fun _ => rfl, fun ρ' x hx => hx⟩
    · cases hr
  · cases hr
end Go.Proofs.Ytjianphppcappaa

/-! Package-merge in lists of numbers. No condition. -/
namespace Go.Pm
set_option maxRecDepth 20000
abbrev C := Int × List Nat
/-- Two lists, one: the first one's ahead of the second one's that are no less. -/
def mg : List C → List C → List C
  | [], b => b
  | x :: xs, [] => x :: xs
  | x :: xs, y :: ys => if x.1 > y.1 then y :: mg (x :: xs) ys else x :: mg xs (y :: ys)
termination_by a b => a.length + b.length
theorem mg_nil (b : List C) : mg [] b = b := by rw [mg]
theorem mg_nil2 (a : List C) : mg a [] = a := by cases a <;> rw [mg]
theorem mg_gt {x y : C} (xs ys : List C) (h : x.1 > y.1) : mg (x :: xs) (y :: ys) = y :: mg (x :: xs) ys := by rw [mg, if_pos h]
theorem mg_le {x y : C} (xs ys : List C) (h : ¬ x.1 > y.1) : mg (x :: xs) (y :: ys) = x :: mg xs (y :: ys) := by rw [mg, if_neg h]
/-- Two and two. -/
def pr : List C → List C
  | x :: y :: r => (x.1 + y.1, x.2 ++ y.2) :: pr r
  | _ => []
def Ls (S : List C) : Nat → List C
  | 0 => S
  | r + 1 => mg S (pr (Ls S r))
def wt : List C → Int
  | [] => 0
  | x :: r => x.1 + wt r
def fl : List C → List Nat
  | [] => []
  | x :: r => x.2 ++ fl r
def Up : List C → Prop
  | [] => True
  | t :: r => (∀ u ∈ r, t.1 ≤ u.1) ∧ Up r
theorem wt_app : ∀ a b, wt (a ++ b) = wt a + wt b
  | [], b => by simp [wt]
  | t :: r, b => by simp only [List.cons_append, wt, wt_app r b]; omega
theorem fl_app : ∀ a b, fl (a ++ b) = fl a ++ fl b
  | [], b => rfl
  | t :: r, b => by simp only [List.cons_append, fl, fl_app r b, List.append_assoc]
theorem mem_fl {j : Nat} : ∀ {L : List C}, j ∈ fl L ↔ ∃ t ∈ L, j ∈ t.2
  | [] => by simp [fl]
  | t :: r => by simp only [fl, List.mem_append, mem_fl (L := r), List.mem_cons, exists_eq_or_imp]
theorem wt_perm {a b : List C} (h : a.Perm b) : wt a = wt b := by
  induction h with
  | nil => rfl
  | cons x _ ih => simp only [wt, ih]
  | swap x y l => simp only [wt]; omega
  | trans _ _ h1 h2 => exact h1.trans h2
theorem mg_perm : ∀ a b, (mg a b).Perm (a ++ b)
  | [], b => by rw [mg_nil]; exact .refl _
  | x :: xs, [] => by rw [mg_nil2, List.append_nil]
  | x :: xs, y :: ys => by
    by_cases h : x.1 > y.1
    · rw [mg_gt _ _ h]
      exact (List.Perm.cons y (mg_perm (x :: xs) ys)).trans List.perm_middle.symm
    · rw [mg_le _ _ h]
      exact List.Perm.cons x (mg_perm xs (y :: ys))
termination_by a b => a.length + b.length
theorem mg_len (a b : List C) : (mg a b).length = a.length + b.length := by rw [(mg_perm a b).length_eq, List.length_append]
theorem mem_mg {a b : List C} {t : C} : t ∈ mg a b ↔ t ∈ a ∨ t ∈ b := by rw [(mg_perm a b).mem_iff, List.mem_append]
theorem Up.mg : ∀ a b, Up a → Up b → Up (mg a b)
  | [], b, _, hb => by rw [mg_nil]; exact hb
  | x :: xs, [], ha, _ => by rw [mg_nil2]; exact ha
  | x :: xs, y :: ys, ha, hb => by
    by_cases h : x.1 > y.1
    · rw [mg_gt _ _ h]
      refine ⟨fun u hu => ?_, Up.mg (x :: xs) ys ha hb.2⟩
      rcases mem_mg.1 hu with h1 | h1
      · rcases List.mem_cons.1 h1 with rfl | h2
        · omega
        · have := ha.1 u h2; omega
      · exact hb.1 u h1
    · rw [mg_le _ _ h]
      refine ⟨fun u hu => ?_, Up.mg xs (y :: ys) ha.2 hb⟩
      rcases mem_mg.1 hu with h1 | h1
      · exact ha.1 u h1
      · rcases List.mem_cons.1 h1 with rfl | h2
        · omega
        · have := hb.1 u h2; omega
termination_by a b => a.length + b.length
theorem pr_len : ∀ L, (pr L).length = L.length / 2
  | [] => rfl
  | [_] => by simp [pr]
  | x :: y :: r => by simp only [pr, List.length_cons, pr_len r]; omega
theorem mem_pr {t : C} : ∀ {L : List C}, t ∈ pr L → ∃ x y, x ∈ L ∧ y ∈ L ∧ t = (x.1 + y.1, x.2 ++ y.2)
  | [], h => by cases h
  | [_], h => by cases h
  | x :: y :: r, h => by
    rcases List.mem_cons.1 h with rfl | h
    · exact ⟨x, y, by simp, by simp, rfl⟩
    · obtain ⟨a, b, ha, hb, e⟩ := mem_pr h
      exact ⟨a, b, by simp [ha], by simp [hb], e⟩
theorem Up.pr : ∀ {L : List C}, Up L → Up (pr L)
  | [], _ => trivial
  | [_], _ => trivial
  | x :: y :: r, h => by
    refine ⟨fun u hu => ?_, Up.pr h.2.2⟩
    obtain ⟨a, b, ha, hb, rfl⟩ := mem_pr hu
    have h1 := h.1 a (by simp [ha])
    have h2 := h.2.1 b hb
    show x.1 + y.1 ≤ a.1 + b.1
    omega
theorem pr_take : ∀ (L : List C) (b : Nat), b ≤ L.length / 2 → wt ((pr L).take b) = wt (L.take (2 * b)) ∧ fl ((pr L).take b) = fl (L.take (2 * b))
  | L, 0, _ => by simp [wt, fl]
  | [], b + 1, h => by simp at h
  | [_], b + 1, h => by simp at h
  | x :: y :: r, b + 1, h => by
    obtain ⟨h1, h2⟩ := pr_take r b (by simp only [List.length_cons] at h; omega)
    rw [show 2 * (b + 1) = 2 * b + 1 + 1 by omega]
    simp only [pr, List.take_succ_cons, wt, fl, h1, h2, List.append_assoc, and_true]
    omega
theorem Ls_len (S : List C) (r : Nat) : (Ls S (r + 1)).length = S.length + (Ls S r).length / 2 := by rw [Ls, mg_len, pr_len]
theorem Ls_up {S : List C} (h : Up S) : ∀ r, Up (Ls S r)
  | 0 => h
  | r + 1 => Up.mg _ _ h (Up.pr (Ls_up h r))
theorem Ls_ge (S : List C) : ∀ r e, S.length ≤ 2 ^ (r + e) → 2 * S.length ≤ (Ls S r).length + 2 ^ e
  | 0, e, h => by
    rw [Nat.zero_add] at h
    show 2 * S.length ≤ S.length + 2 ^ e
    omega
  | r + 1, e, h => by
    have h1 := Ls_ge S r (e + 1) (by rw [show r + (e + 1) = r + 1 + e by omega]; exact h)
    rw [Ls_len]
    rw [Nat.pow_succ] at h1
    omega

theorem Up.get {a : List C} (h : Up a) : ∀ {i : Nat} (hi : i < a.length) {t r}, a = t :: r → t.1 ≤ (a[i]).1
  | 0, hi, t, r, e => by subst e; exact Int.le_refl _
  | i + 1, hi, t, r, e => by
    subst e
    exact h.1 _ (by simp)
theorem mg_split : ∀ (a b : List C) (q : Nat), Up a → q ≤ a.length + b.length → ∃ x y, x + y = q ∧ x ≤ a.length ∧ y ≤ b.length ∧
    wt ((mg a b).take q) = wt (a.take x) + wt (b.take y) ∧ (∀ j, (fl ((mg a b).take q)).count j = (fl (a.take x)).count j + (fl (b.take y)).count j) ∧
    (∀ h : x < a.length, ∀ t ∈ b.take y, t.1 < (a[x]).1)
  | [], b, q, _, hq => ⟨0, q, by omega, by simp, by simpa using hq, by simp [mg_nil, wt], by simp [mg_nil, fl], fun h => absurd h (by simp)⟩
  | x :: xs, [], q, _, hq => ⟨q, 0, by omega, by simpa using hq, by simp, by simp [mg_nil2, wt], by simp [mg_nil2, fl], fun _ t ht => by simp at ht⟩
  | x :: xs, y :: ys, 0, _, _ => ⟨0, 0, rfl, by simp, by simp, by simp [wt], by simp [fl], fun _ t ht => by simp at ht⟩
  | x :: xs, y :: ys, q + 1, ha, hq => by
    by_cases h : x.1 > y.1
    · obtain ⟨m, n, e, h1, h2, h3, h4, h5⟩ := mg_split (x :: xs) ys q ha (by simp only [List.length_cons] at hq ⊢; omega)
      refine ⟨m, n + 1, by omega, h1, by simp only [List.length_cons]; omega, ?_, fun j => ?_, fun hm t ht => ?_⟩
      · rw [mg_gt _ _ h]; simp only [List.take_succ_cons, wt, h3]; omega
      · rw [mg_gt _ _ h]; simp only [List.take_succ_cons, fl, List.count_append, h4]; omega
      · rw [List.take_succ_cons] at ht
        rcases List.mem_cons.1 ht with rfl | ht
        · have := ha.get hm rfl; omega
        · exact h5 hm t ht
    · obtain ⟨m, n, e, h1, h2, h3, h4, h5⟩ := mg_split xs (y :: ys) q ha.2 (by simp only [List.length_cons] at hq ⊢; omega)
      refine ⟨m + 1, n, by omega, by simp only [List.length_cons]; omega, h2, ?_, fun j => ?_, fun hm t ht => ?_⟩
      · rw [mg_le _ _ h]; simp only [List.take_succ_cons, wt, h3]; omega
      · rw [mg_le _ _ h]; simp only [List.take_succ_cons, fl, List.count_append, h4]; omega
      · simp only [List.getElem_cons_succ]
        exact h5 (by simp only [List.length_cons] at hm; omega) t ht
termination_by a b => a.length + b.length

theorem min_take : ∀ {L U V : List C}, Up L → (U ++ V).Perm L → wt (L.take U.length) ≤ wt U
  | [], U, V, _, h => by
    have := h.length_eq
    rw [List.length_append] at this
    rw [List.eq_nil_of_length_eq_zero (show U.length = 0 by simp at this; simp [this])]; simp
  | t :: r, U, V, hL, h => by
    rcases List.mem_append.1 (h.mem_iff.2 (List.mem_cons_self)) with hu | hv
    · have e := List.perm_cons_erase hu
      have h1 : (U.erase t ++ V).Perm r := List.Perm.cons_inv ((List.Perm.append_right V e).symm.trans h)
      have h2 := min_take hL.2 h1
      rw [wt_perm e, e.length_eq, List.length_cons, List.take_succ_cons, wt, wt]
      omega
    · have e := List.perm_cons_erase hv
      have h1 : (U ++ V.erase t).Perm r := List.Perm.cons_inv ((List.perm_middle.symm.trans (List.Perm.append_left U e.symm)).trans h)
      have h2 := min_take hL.2 h1
      have hl := h1.length_eq
      rw [List.length_append] at hl
      cases hU : U.length with
      | zero => rw [List.eq_nil_of_length_eq_zero hU]; simp
      | succ n =>
        rw [hU] at h2
        have hn : n < r.length := by omega
        rw [List.take_succ_cons, wt]
        rw [List.take_succ_eq_append_getElem hn, wt_app] at h2
        have := hL.1 r[n] (List.getElem_mem hn)
        simp only [wt] at h2
        omega
theorem mg_min {a b : List C} (ha : Up a) (hb : Up b) {x y : Nat} (hx : x ≤ a.length) (hy : y ≤ b.length) : wt ((mg a b).take (x + y)) ≤ wt (a.take x) + wt (b.take y) := by
  have h := min_take (U := a.take x ++ b.take y) (V := a.drop x ++ b.drop y) (Up.mg a b ha hb) (by
    refine List.Perm.trans ?_ (mg_perm a b).symm
    have e1 : a.take x ++ b.take y ++ (a.drop x ++ b.drop y) = a.take x ++ (b.take y ++ a.drop x) ++ b.drop y := by simp only [List.append_assoc]
    have e2 : a ++ b = a.take x ++ (a.drop x ++ b.take y) ++ b.drop y := by
      conv => lhs; rw [← List.take_append_drop x a, ← List.take_append_drop y b]
      simp only [List.append_assoc]
    rw [e1, e2]
    exact List.Perm.append_right _ (List.Perm.append_left _ List.perm_append_comm))
  rw [wt_app, List.length_append, List.length_take, List.length_take, Nat.min_eq_left hx, Nat.min_eq_left hy] at h
  exact h

/-- Sums over symbols. -/
def sI : List Nat → (Nat → Int) → Int
  | [], _ => 0
  | j :: r, f => f j + sI r f
theorem sI_app (f : Nat → Int) : ∀ a b, sI (a ++ b) f = sI a f + sI b f
  | [], b => by simp [sI]
  | t :: r, b => by simp only [List.cons_append, sI, sI_app f r b]; omega
theorem sI_perm {a b : List Nat} (h : a.Perm b) (f : Nat → Int) : sI a f = sI b f := by
  induction h with
  | nil => rfl
  | cons x _ ih => simp only [sI, ih]
  | swap x y l => simp only [sI]; omega
  | trans _ _ h1 h2 => exact h1.trans h2
theorem sI_congr {f g : Nat → Int} : ∀ {a : List Nat}, (∀ j ∈ a, f j = g j) → sI a f = sI a g
  | [], _ => rfl
  | t :: r, h => by rw [sI, sI, h t (by simp), sI_congr fun j hj => h j (by simp [hj])]
theorem sI_le {f g : Nat → Int} : ∀ {a : List Nat}, (∀ j ∈ a, f j ≤ g j) → sI a f ≤ sI a g
  | [], _ => Int.le_refl _
  | t :: r, h => by
    have h1 := h t (by simp)
    have h2 := sI_le (a := r) fun j hj => h j (by simp [hj])
    rw [sI, sI]; omega
theorem sI_add (f g : Nat → Int) : ∀ a, sI a (fun j => f j + g j) = sI a f + sI a g
  | [] => rfl
  | t :: r => by rw [sI, sI, sI, sI_add f g r]; omega
theorem sI_mul (f : Nat → Int) (c : Int) : ∀ a, sI a (fun j => c * f j) = c * sI a f
  | [] => by simp [sI]
  | t :: r => by rw [sI, sI, sI_mul f c r, Int.mul_add]
theorem sI_const (c : Int) : ∀ a : List Nat, sI a (fun _ => c) = a.length * c
  | [] => by simp [sI]
  | t :: r => by rw [sI, sI_const c r, List.length_cons]; rw [show ((r.length + 1 : Nat) : Int) = r.length + 1 by omega, Int.add_mul]; omega
theorem sI_nonneg {f : Nat → Int} {a : List Nat} (h : ∀ j ∈ a, 0 ≤ f j) : 0 ≤ sI a f := by
  have := sI_le (f := fun _ => 0) h
  rw [sI_const] at this; omega
theorem sI_mem {f : Nat → Int} : ∀ {a : List Nat} {j}, (∀ j ∈ a, 0 ≤ f j) → j ∈ a → f j ≤ sI a f
  | t :: r, j, h, hj => by
    rw [sI]
    rcases List.mem_cons.1 hj with rfl | hj
    · have := sI_nonneg (f := f) (a := r) fun i hi => h i (by simp [hi])
      omega
    · have := sI_mem (f := f) (a := r) (fun i hi => h i (by simp [hi])) hj
      have := h t (by simp)
      omega

variable {c : Nat → Int} {js : List Nat}
/-- The chains of one symbol each. -/
def sg (c : Nat → Int) (js : List Nat) : List C := js.map fun j => (c j, [j])
theorem sg_len : (sg c js).length = js.length := by simp [sg]
theorem sg_take (a : Nat) : (sg c js).take a = sg c (js.take a) := by simp [sg, List.map_take]
theorem sg_fl : ∀ js, fl (sg c js) = js
  | [] => rfl
  | j :: r => by show [j] ++ fl (sg c r) = _; rw [sg_fl r]; rfl
theorem sg_wt : ∀ js, wt (sg c js) = sI js c
  | [] => rfl
  | j :: r => by show c j + wt (sg c r) = _; rw [sg_wt r]; rfl
theorem Ls_inv (r : Nat) : ∀ t ∈ Ls (sg c js) r, t.1 = sI t.2 c ∧ ∀ j ∈ t.2, j ∈ js := by
  induction r with
  | zero =>
    intro t ht
    obtain ⟨j, hj, rfl⟩ := List.mem_map.1 ht
    exact ⟨by simp [sI], fun i hi => by simp at hi; subst hi; exact hj⟩
  | succ r ih =>
    intro t ht
    rcases mem_mg.1 ht with h | h
    · obtain ⟨j, hj, rfl⟩ := List.mem_map.1 h
      exact ⟨by simp [sI], fun i hi => by simp at hi; subst hi; exact hj⟩
    · obtain ⟨x, y, hx, hy, rfl⟩ := mem_pr h
      obtain ⟨a1, a2⟩ := ih x hx
      obtain ⟨b1, b2⟩ := ih y hy
      refine ⟨by rw [sI_app, ← a1, ← b1], fun j hj => ?_⟩
      rcases List.mem_append.1 hj with h | h
      · exact a2 j h
      · exact b2 j h
theorem wt_fl : ∀ {L : List C}, (∀ t ∈ L, t.1 = sI t.2 c) → wt L = sI (fl L) c
  | [], _ => rfl
  | t :: r, h => by rw [wt, fl, sI_app, h t (by simp), wt_fl fun u hu => h u (by simp [hu])]
/-- How often a symbol is in so many of the first. -/
def lens (c : Nat → Int) (js : List Nat) (r q j : Nat) : Nat := (fl ((Ls (sg c js) r).take q)).count j
theorem lens_mem {r q j : Nat} (h : lens c js r q j ≠ 0) : j ∈ js := by
  have h1 := List.count_pos_iff.1 (Nat.pos_of_ne_zero h)
  obtain ⟨t, ht, hj⟩ := mem_fl.1 h1
  exact (Ls_inv r t (List.mem_of_mem_take ht)).2 j hj
/-- The room, of 2^16, that lengths leave. -/
def gR (l : Nat) : Int := 65536 - 2 ^ (16 - l)
theorem gR_succ {l : Nat} (h : l ≤ 15) : 2 * gR (l + 1) = 65536 + gR l := by
  unfold gR
  rw [show 16 - l = (16 - (l + 1)) + 1 by omega, Int.pow_succ]; omega
theorem sI_split (x : Nat) (f : Nat → Int) (js : List Nat) : sI js f = sI (js.take x) f + sI (js.drop x) f := by
  rw [← sI_app, List.take_append_drop]
theorem nodup_drop {x j : Nat} (hn : js.Nodup) (hj : j ∈ js.drop x) : (js.take x).count j = 0 := by
  rw [List.count_eq_zero]
  intro h
  have := (List.nodup_append.1 (by rw [List.take_append_drop x js]; exact hn : (js.take x ++ js.drop x).Nodup)).2.2 j h j hj
  exact this rfl
theorem nodup_take {x j : Nat} (hn : js.Nodup) (hj : j ∈ js.take x) : (js.take x).count j = 1 := by
  have h : (js.take x).Nodup := (List.nodup_append.1 (by rw [List.take_append_drop x js]; exact hn : (js.take x ++ js.drop x).Nodup)).1
  have h1 := List.nodup_iff_count.1 h j
  have h2 := List.count_pos_iff.2 hj
  omega
theorem count_le (hn : js.Nodup) (x j : Nat) : (js.take x).count j ≤ 1 := by
  have h : (js.take x).Nodup := (List.nodup_append.1 (by rw [List.take_append_drop x js]; exact hn : (js.take x ++ js.drop x).Nodup)).1
  exact List.nodup_iff_count.1 h j
theorem Up.drop : ∀ {a : List C} {x : Nat} (h : Up a) (hx : x < a.length), ∀ t ∈ a.drop x, (a[x]).1 ≤ t.1
  | t :: r, 0, h, _, u, hu => by
    rcases List.mem_cons.1 hu with rfl | hu
    · exact Int.le_refl _
    · exact h.1 u hu
  | t :: r, x + 1, h, hx, u, hu => by
    simp only [List.getElem_cons_succ]
    exact Up.drop h.2 (by simpa using hx) u (by simpa using hu)

theorem lens_spec (hc : ∀ j ∈ js, 0 ≤ c j) (hn : js.Nodup) (hS : Up (sg c js)) : ∀ r, r ≤ 14 → ∀ q, q ≤ (Ls (sg c js) r).length →
    (∀ j, lens c js r q j ≤ r + 1) ∧ sI js (fun j => gR (lens c js r q j)) = q * 32768
  | 0, _, q, hq => by
    have e : ∀ j, lens c js 0 q j = (js.take q).count j := fun j => by
      unfold lens
      rw [Ls, sg_take, sg_fl]
    refine ⟨fun j => by rw [e]; exact count_le hn q j, ?_⟩
    rw [Ls, sg_len] at hq
    rw [sI_split q, sI_congr (a := js.take q) (g := fun _ => 32768) fun j hj => by rw [e, nodup_take hn hj]; decide,
      sI_congr (a := js.drop q) (g := fun _ => 0) fun j hj => by rw [e, nodup_drop hn hj]; decide]
    rw [sI_const, sI_const, List.length_take, Nat.min_eq_left hq]; omega
  | r + 1, hr, q, hq => by
    rw [Ls, mg_len] at hq
    obtain ⟨x, y, e, hx, hy, h3, h4, h5⟩ := mg_split (sg c js) (pr (Ls (sg c js) r)) q hS hq
    rw [pr_len] at hy
    have hp := pr_take _ y hy
    obtain ⟨i1, i2⟩ := lens_spec hc hn hS r (by omega) (2 * y) (by omega)
    have el : ∀ j, lens c js (r + 1) q j = (js.take x).count j + lens c js r (2 * y) j := fun j => by
      unfold lens
      rw [Ls, h4, sg_take, sg_fl, hp.2]
    have hz : ∀ j ∈ js.drop x, lens c js r (2 * y) j = 0 := fun j hj => by
      rcases Nat.eq_zero_or_pos (lens c js r (2 * y) j) with h | h
      · exact h
      · exfalso
        unfold lens at h
        rw [← hp.2] at h
        obtain ⟨t, ht, hjt⟩ := mem_fl.1 (List.count_pos_iff.1 h)
        have hxl : x < js.length := by
          have := List.length_pos_of_mem hj
          rw [List.length_drop] at this; omega
        have h6 := h5 (by rw [sg_len]; exact hxl) t ht
        obtain ⟨u, v, hu, hv, rfl⟩ := mem_pr (List.mem_of_mem_take ht)
        obtain ⟨u1, u2⟩ := Ls_inv r u hu
        obtain ⟨v1, v2⟩ := Ls_inv r v hv
        have h7 : u.1 + v.1 = sI (u.2 ++ v.2) c := by rw [sI_app, u1, v1]
        have h8 := sI_mem (f := c) (a := u.2 ++ v.2) (fun i hi => by
          rcases List.mem_append.1 hi with h | h
          · exact hc i (u2 i h)
          · exact hc i (v2 i h)) hjt
        have h9 := hS.drop (x := x) (by rw [sg_len]; exact hxl) (c j, [j]) (by
          unfold sg
          rw [← List.map_drop]
          exact List.mem_map.2 ⟨j, hj, rfl⟩)
        simp only at h6 h9
        omega
    refine ⟨fun j => by
      rw [el]
      have := count_le hn x j
      have := i1 j
      omega, ?_⟩
    have e2 : 2 * sI js (fun j => gR (lens c js (r + 1) q j)) = x * 65536 + sI js (fun j => gR (lens c js r (2 * y) j)) := by
      rw [← sI_mul, sI_split x, sI_split x (fun j => gR (lens c js r (2 * y) j))]
      rw [sI_congr (a := js.take x) (g := fun j => 65536 + gR (lens c js r (2 * y) j)) fun j hj => by
        rw [el, nodup_take hn hj, Nat.add_comm 1]
        exact gR_succ (by have := i1 j; omega)]
      rw [sI_congr (a := js.drop x) (g := fun j => gR (lens c js r (2 * y) j)) fun j hj => by
        rw [el, nodup_drop hn hj, hz j hj]; decide]
      rw [sI_add, sI_const, List.length_take, Nat.min_eq_left (by rw [sg_len] at hx; exact hx)]; omega
    rw [i2] at e2
    omega
theorem lens_cost {r q : Nat} (hn : js.Nodup) : wt ((Ls (sg c js) r).take q) = sI js (fun j => c j * lens c js r q j) := by
  rw [wt_fl fun t ht => (Ls_inv r t (List.mem_of_mem_take ht)).1]
  have hm : ∀ j ∈ fl ((Ls (sg c js) r).take q), j ∈ js := fun j hj => by
    obtain ⟨t, ht, h⟩ := mem_fl.1 hj
    exact (Ls_inv r t (List.mem_of_mem_take ht)).2 j h
  unfold lens
  generalize fl ((Ls (sg c js) r).take q) = xs at hm
  induction xs with
  | nil => rw [sI, sI_congr (g := fun _ => 0) fun j _ => by simp]; rw [sI_const]; omega
  | cons x xs ih =>
    rw [sI, ih fun j hj => hm j (by simp [hj])]
    have h1 : sI js (fun j => c j * ((x :: xs).count j : Nat)) = sI js (fun j => c j * (if x == j then 1 else 0)) + sI js (fun j => c j * (xs.count j : Nat)) := by
      rw [← sI_add]
      refine sI_congr fun j _ => ?_
      rw [List.count_cons, ← Int.mul_add]
      congr 1
      by_cases h : x == j <;> simp [h] <;> omega
    rw [h1]
    have h2 : ∀ {a : List Nat}, a.Nodup → sI a (fun j => c j * (if x == j then 1 else 0)) = if x ∈ a then c x else 0 := by
      intro a
      induction a with
      | nil => intro _; simp [sI]
      | cons j r ih =>
        intro h
        rw [List.nodup_cons] at h
        rw [sI, ih h.2]
        by_cases e : x = j
        · subst e; simp [h.1]
        · simp [e]
    rw [h2 hn, if_pos (hm x (by simp))]
theorem Up.mono : ∀ {L : List C} {p q : Nat}, (∀ t ∈ L, 0 ≤ t.1) → p ≤ q → wt (L.take p) ≤ wt (L.take q)
  | [], p, q, _, _ => by simp
  | t :: r, 0, 0, _, _ => Int.le_refl _
  | t :: r, 0, q + 1, h, _ => by
    have := Up.mono (L := r) (p := 0) (q := q) (fun u hu => h u (by simp [hu])) (Nat.zero_le _)
    have := h t (by simp)
    rw [List.take_zero] at *
    simp only [List.take_succ_cons, wt] at *
    omega
  | t :: r, p + 1, q + 1, h, hp => by
    have := Up.mono (L := r) (p := p) (q := q) (fun u hu => h u (by simp [hu])) (by omega)
    simp only [List.take_succ_cons, wt]; omega
theorem sI_filter (p : Nat → Bool) (f : Nat → Int) : ∀ js, sI (js.filter p) f = sI js (fun j => if p j then f j else 0)
  | [] => rfl
  | j :: r => by
    by_cases h : p j = true
    · rw [List.filter_cons_of_pos h, sI, sI, sI_filter p f r, if_pos h]
    · rw [List.filter_cons_of_neg h, sI, sI_filter p f r, if_neg h]; omega
theorem filter_perm (p : Nat → Bool) : ∀ js : List Nat, (js.filter p ++ js.filter (fun j => !p j)).Perm js
  | [] => .refl _
  | j :: r => by
    by_cases h : p j = true
    · rw [List.filter_cons_of_pos h, List.filter_cons_of_neg (by simp [h])]
      exact (filter_perm p r).cons j
    · rw [List.filter_cons_of_neg h, List.filter_cons_of_pos (by simp [h])]
      exact List.perm_middle.trans ((filter_perm p r).cons j)
/-- So many of the least ones are no more than any so many. -/
theorem sg_min (hc : ∀ j ∈ js, 0 ≤ c j) (hS : Up (sg c js)) (p : Nat → Bool) {q : Nat} (hq : q ≤ (js.filter p).length) : wt ((sg c js).take q) ≤ sI (js.filter p) c := by
  refine Int.le_trans (Up.mono (fun t ht => ?_) hq) ?_
  · obtain ⟨j, hj, rfl⟩ := List.mem_map.1 ht
    exact hc j hj
  · have := min_take (U := sg c (js.filter p)) (V := sg c (js.filter fun j => !p j)) hS (by
      unfold sg
      rw [← List.map_append]
      exact (filter_perm p js).map _)
    rw [sg_len, sg_wt] at this
    exact this
theorem lower (hc : ∀ j ∈ js, 0 ≤ c j) (hS : Up (sg c js)) : ∀ r, r ≤ 14 → ∀ (l : Nat → Nat) (q : Nat), (∀ j ∈ js, l j ≤ r + 1) → q * 32768 ≤ sI js (fun j => gR (l j)) →
    q ≤ (Ls (sg c js) r).length ∧ wt ((Ls (sg c js) r).take q) ≤ sI js (fun j => c j * l j) := by
  intro r
  induction r with
  | zero =>
    intro _ l q hl hq
    have e : sI js (fun j => gR (l j)) = ((js.filter fun j => decide (1 ≤ l j)).length : Int) * 32768 := by
      rw [← sI_const, sI_filter]
      refine sI_congr fun j hj => ?_
      have := hl j hj
      rcases (show l j = 0 ∨ l j = 1 by omega) with h | h <;> simp [h, gR]
    have hf : (js.filter fun j => decide (1 ≤ l j)).length ≤ js.length := List.length_filter_le _ _
    have hq2 : q ≤ (js.filter fun j => decide (1 ≤ l j)).length := by omega
    refine ⟨by rw [Ls, sg_len]; omega, Int.le_trans (sg_min hc hS _ hq2) ?_⟩
    rw [sI_filter]
    refine sI_le fun j hj => ?_
    have := hl j hj
    rcases (show l j = 0 ∨ l j = 1 by omega) with h | h <;> rw [h] <;> simp
  | succ r ih =>
    intro hr l q hl hq
    let F := js.filter fun j => decide (1 ≤ l j)
    have hF : F.length ≤ js.length := List.length_filter_le _ _
    have e1 : 2 * sI js (fun j => gR (l j)) = F.length * 65536 + sI js (fun j => gR (l j - 1)) := by
      rw [← sI_mul, ← sI_const, sI_filter, ← sI_add]
      refine sI_congr fun j hj => ?_
      have := hl j hj
      cases h : l j with
      | zero => rfl
      | succ n =>
        rw [if_pos (by simp)]
        exact gR_succ (by omega)
    have hw : sI F c + sI js (fun j => c j * (l j - 1 : Nat)) = sI js (fun j => c j * l j) := by
      rw [sI_filter, ← sI_add]
      refine sI_congr fun j hj => ?_
      cases h : l j with
      | zero => simp
      | succ n =>
        rw [if_pos (by simp), show n + 1 - 1 = n by omega, show ((n + 1 : Nat) : Int) = n + 1 by omega, Int.mul_add]; omega
    have hnn : 0 ≤ sI js (fun j => c j * (l j - 1 : Nat)) := sI_nonneg fun j hj => Int.mul_nonneg (hc j hj) (by omega)
    by_cases hx : q ≤ F.length
    · have h1 := sg_min hc hS (fun j => decide (1 ≤ l j)) hx
      have h2 := mg_min (a := sg c js) (b := pr (Ls (sg c js) r)) hS (Up.pr (Ls_up hS r)) (x := q) (y := 0) (by rw [sg_len]; omega) (Nat.zero_le _)
      refine ⟨by rw [Ls_len, sg_len]; omega, ?_⟩
      rw [Nat.add_zero, List.take_zero] at h2
      have h3 : wt ((Ls (sg c js) (r + 1)).take q) ≤ wt ((sg c js).take q) + 0 := h2
      show _ ≤ _
      have h4 : sI F c = sI (js.filter fun j => decide (1 ≤ l j)) c := rfl
      omega
    · obtain ⟨i1, i2⟩ := ih (by omega) (fun j => l j - 1) (2 * (q - F.length)) (fun j hj => by have := hl j hj; show l j - 1 ≤ _; omega) (by
        rw [show ((2 * (q - F.length) : Nat) : Int) = 2 * (q - F.length) by omega]; omega)
      have hy : q - F.length ≤ (Ls (sg c js) r).length / 2 := by omega
      have h1 := sg_min hc hS (fun j => decide (1 ≤ l j)) (Nat.le_refl F.length)
      have h2 := mg_min (a := sg c js) (b := pr (Ls (sg c js) r)) hS (Up.pr (Ls_up hS r)) (x := F.length) (y := q - F.length) (by rw [sg_len]; exact hF) (by rw [pr_len]; exact hy)
      rw [show F.length + (q - F.length) = q by omega, (pr_take _ _ hy).1] at h2
      refine ⟨by rw [Ls_len, sg_len]; omega, ?_⟩
      have h3 : wt ((Ls (sg c js) (r + 1)).take q) ≤ _ := h2
      have h4 : sI F c = sI (js.filter fun j => decide (1 ≤ l j)) c := rfl
      omega

/-- Lengths of two or more. -/
theorem kraft (hc : ∀ j ∈ js, 0 ≤ c j) (hn : js.Nodup) (hS : Up (sg c js)) {r : Nat} (hr : r ≤ 14) (hk : 2 ≤ js.length) (hk2 : js.length ≤ 2 ^ (r + 1)) :
    (∀ j ∈ js, 1 ≤ lens c js r (2 * js.length - 2) j ∧ lens c js r (2 * js.length - 2) j ≤ r + 1) ∧ sI js (fun j => 2 ^ (15 - lens c js r (2 * js.length - 2) j)) = 32768 := by
  have h1 := Ls_ge (sg c js) r 1 (by rw [sg_len]; exact hk2)
  rw [sg_len] at h1
  obtain ⟨h2, h3⟩ := lens_spec hc hn hS r hr (2 * js.length - 2) (by omega)
  generalize hl : lens c js r (2 * js.length - 2) = l at h2 h3
  have h4 : sI js (fun j => 2 ^ (16 - l j)) = 65536 := by
    have : sI js (fun j => gR (l j)) + sI js (fun j => 2 ^ (16 - l j)) = js.length * 65536 := by
      rw [← sI_add, ← sI_const]
      exact sI_congr fun j _ => by unfold gR; omega
    omega
  have hp : ∀ j ∈ js, 1 ≤ l j := fun j hj => by
    rcases Nat.eq_zero_or_pos (l j) with h | h
    · exfalso
      obtain ⟨x, hx, e⟩ := List.mem_iff_getElem.1 hj
      have hperm := List.perm_cons_erase hj
      rw [sI_perm hperm, sI, h] at h4
      have hlen := hperm.length_eq
      rw [List.length_cons] at hlen
      have := sI_le (a := js.erase j) (f := fun _ => 1) (g := fun j => 2 ^ (16 - l j)) fun i _ => by
        have h : 0 < (2 : Int) ^ (16 - l i) := Int.pow_pos (by decide)
        omega
      rw [sI_const] at this
      have e16 : (2 : Int) ^ (16 - 0) = 65536 := by decide
      rw [e16] at h4
      omega
    · exact h
  refine ⟨fun j hj => ⟨hp j hj, h2 j⟩, ?_⟩
  have : 2 * sI js (fun j => 2 ^ (15 - l j)) = sI js (fun j => 2 ^ (16 - l j)) := by
    rw [← sI_mul]
    refine sI_congr fun j hj => ?_
    have := hp j hj
    rw [show 16 - l j = (15 - l j) + 1 by have := h2 j; omega, Int.pow_succ]; omega
  omega
/-- No lengths that may be are better. -/
theorem least (hc : ∀ j ∈ js, 0 ≤ c j) (hn : js.Nodup) (hS : Up (sg c js)) {r : Nat} (hr : r ≤ 14) (hk : 2 ≤ js.length) {l : Nat → Nat} (hl : ∀ j ∈ js, 1 ≤ l j ∧ l j ≤ r + 1) (hR : sI js (fun j => 2 ^ (15 - l j)) ≤ 32768) :
    sI js (fun j => c j * lens c js r (2 * js.length - 2) j) ≤ sI js (fun j => c j * l j) := by
  rw [← lens_cost hn]
  refine (lower hc hS r hr l _ (fun j hj => (hl j hj).2) ?_).2
  have h1 : 2 * sI js (fun j => 2 ^ (15 - l j)) = sI js (fun j => 2 ^ (16 - l j)) := by
    rw [← sI_mul]
    refine sI_congr fun j hj => ?_
    have := hl j hj
    rw [show 16 - l j = (15 - l j) + 1 by omega, Int.pow_succ]; omega
  have h2 : sI js (fun j => gR (l j)) + sI js (fun j => 2 ^ (16 - l j)) = js.length * 65536 := by
    rw [← sI_add, ← sI_const]
    exact sI_congr fun j _ => by unfold gR; omega
  omega

/-- The sums alone. -/
def mI : List Int → List Int → List Int
  | [], b => b
  | x :: xs, [] => x :: xs
  | x :: xs, y :: ys => if x > y then y :: mI (x :: xs) ys else x :: mI xs (y :: ys)
termination_by a b => a.length + b.length
def pI : List Int → List Int
  | x :: y :: r => (x + y) :: pI r
  | _ => []
def LI (S : List Int) : Nat → List Int
  | 0 => S
  | r + 1 => mI S (pI (LI S r))
def wI : List Int → Int
  | [] => 0
  | x :: r => x + wI r
theorem mI_nil (b : List Int) : mI [] b = b := by rw [mI]
theorem mI_nil2 (a : List Int) : mI a [] = a := by cases a <;> rw [mI]
theorem mI_gt {x y : Int} (xs ys : List Int) (h : x > y) : mI (x :: xs) (y :: ys) = y :: mI (x :: xs) ys := by rw [mI, if_pos h]
theorem mI_le {x y : Int} (xs ys : List Int) (h : ¬ x > y) : mI (x :: xs) (y :: ys) = x :: mI xs (y :: ys) := by rw [mI, if_neg h]
theorem map_mg : ∀ a b : List C, (mg a b).map (·.1) = mI (a.map (·.1)) (b.map (·.1))
  | [], b => by rw [mg_nil, List.map_nil, mI_nil]
  | x :: xs, [] => by rw [mg_nil2, List.map_nil, mI_nil2]
  | x :: xs, y :: ys => by
    by_cases h : x.1 > y.1
    · rw [mg_gt _ _ h, List.map_cons, map_mg (x :: xs) ys, List.map_cons, List.map_cons, mI_gt _ _ h]
    · rw [mg_le _ _ h, List.map_cons, map_mg xs (y :: ys), List.map_cons, List.map_cons, mI_le _ _ h]
termination_by a b => a.length + b.length
theorem map_pr : ∀ a : List C, (pr a).map (·.1) = pI (a.map (·.1))
  | [] => rfl
  | [_] => by simp [pr, pI]
  | x :: y :: r => by simp only [pr, List.map_cons, pI, map_pr r]
theorem map_Ls (S : List C) : ∀ r, (Ls S r).map (·.1) = LI (S.map (·.1)) r
  | 0 => rfl
  | r + 1 => by rw [Ls, map_mg, map_pr, map_Ls S r]; rfl
theorem wt_wI : ∀ L : List C, wt L = wI (L.map (·.1))
  | [] => rfl
  | t :: r => by rw [wt, wt_wI r]; rfl
def UpI : List Int → Prop
  | [] => True
  | t :: r => (∀ u ∈ r, t ≤ u) ∧ UpI r
theorem Up_map : ∀ {L : List C}, Up L → UpI (L.map (·.1))
  | [], _ => trivial
  | t :: r, h => ⟨fun u hu => by
      obtain ⟨v, hv, rfl⟩ := List.mem_map.1 hu
      exact h.1 v hv, Up_map h.2⟩
/-- Rising lists of the same numbers are the same. -/
theorem UpI.eq : ∀ {a b : List Int}, UpI a → UpI b → a.Perm b → a = b
  | [], b, _, _, h => (List.Perm.nil_eq h).symm ▸ rfl
  | x :: xs, [], _, _, h => absurd h.length_eq (by simp)
  | x :: xs, y :: ys, ha, hb, h => by
    have e : x = y := by
      have h1 : x ≤ y := by
        rcases List.mem_cons.1 (h.mem_iff.2 (List.mem_cons_self)) with h | h
        · exact Int.le_of_eq h.symm
        · exact ha.1 y h
      have h2 : y ≤ x := by
        rcases List.mem_cons.1 (h.mem_iff.1 (List.mem_cons_self)) with h | h
        · exact Int.le_of_eq h.symm
        · exact hb.1 x h
      omega
    subst e
    rw [UpI.eq ha.2 hb.2 (List.Perm.cons_inv h)]
theorem lens_wI {r q : Nat} (hn : js.Nodup) : sI js (fun j => c j * lens c js r q j) = wI ((LI (js.map c) r).take q) := by
  rw [← lens_cost hn, wt_wI, List.map_take, map_Ls]
  congr 3
  simp [sg]
end Go.Pm

/-! huff.Lengths' answer, by the plain law. No condition. -/
namespace Go.Proofs.Ytjianphppcappaa
open Go.AE Go.Pm
set_option maxRecDepth 100000
def chT (t : T) : C := (sumT t, lvs t)
theorem map_mrg : ∀ a b : List T, (mrg a b).map chT = mg (a.map chT) (b.map chT)
  | [], b => by rw [mrg_nil, List.map_nil, mg_nil]
  | x :: xs, [] => by rw [mrg_nil2, List.map_nil, mg_nil2]
  | x :: xs, y :: ys => by
    by_cases h : sumT x > sumT y
    · rw [mrg_gt _ _ h, List.map_cons, map_mrg (x :: xs) ys, List.map_cons, List.map_cons, mg_gt _ _ h]
    · rw [mrg_le _ _ h, List.map_cons, map_mrg xs (y :: ys), List.map_cons, List.map_cons, mg_le _ _ h]
termination_by a b => a.length + b.length
theorem chT_pair (t u : T) : chT (pairT t u) = (sumT t + sumT u, lvs t ++ lvs u) := by
  unfold chT pairT
  rw [lvs_node (by omega)]; rfl
theorem pairs_cons (x y : T) (r : List T) : pairsT (x :: y :: r) = pairT x y :: pairsT r := by
  unfold pairsT pairsI lstT
  rw [show (x :: y :: r).length / 2 = r.length / 2 + 1 by simp only [List.length_cons]; omega, List.range_succ_eq_map, List.map_cons, List.map_map]
  rfl
theorem map_pairs : ∀ L : List T, (pairsT L).map chT = pr (L.map chT)
  | [] => rfl
  | [_] => by simp [pairsT, pairsI, lstT, pr]
  | x :: y :: r => by rw [pairs_cons, List.map_cons, map_pairs r, chT_pair]; rfl
theorem map_Lst (S : List T) : ∀ r, (Lst S r).map chT = Ls (S.map chT) r
  | 0 => rfl
  | r + 1 => by rw [Lst, map_mrg, map_pairs, map_Lst S r]; rfl
theorem dps_eq (L : List T) (f : Nat → Int) : ∀ q, q ≤ L.length → ∀ j, dps L f q j = f j + ((fl ((L.map chT).take q)).count j : Nat)
  | 0, _, j => by show f j = _; simp [fl]
  | q + 1, h, j => by
    show deepF (nthT L q) (dps L f q) j = _
    have hq : q < (L.map chT).length := by rw [List.length_map]; omega
    rw [deepF_eq, dps_eq L f q (by omega) j, List.take_succ_eq_append_getElem hq, fl_app, List.count_append, List.getElem_map, nthT_lt (by omega)]
    simp only [fl, chT, List.append_nil]
    omega
/-- The symbols that are. -/
def jsO (c : Nat → Int) (N : Nat) : List Nat := (List.range N).filter fun j => decide (c j > 0)
theorem lvs_lf (c : Nat → Int) (i : Nat) : chT (leaf c i) = (c i, [i]) := by
  unfold chT leaf
  rw [lvs_leaf (by omega), Int.toNat_natCast]; rfl
theorem leafs_js (c : Nat → Int) : ∀ N, (leafs c N).map (fun t => (symT t).toNat) = jsO c N
  | 0 => rfl
  | n + 1 => by
    rw [leafs, List.map_append, leafs_js c n, jsO, jsO, List.range_succ, List.filter_append]
    congr 1
    by_cases h : c n > 0
    · rw [if_pos h, List.filter_cons_of_pos (by simpa using h)]; rfl
    · rw [if_neg h, List.filter_cons_of_neg (by simpa using h)]; rfl
theorem jsO_nd (c : Nat → Int) (N : Nat) : (jsO c N).Nodup := List.Pairwise.filter _ List.nodup_range
theorem jsO_len (c : Nat → Int) (N : Nat) : (jsO c N).length = (leafs c N).length := by rw [← leafs_js, List.length_map]
theorem mem_jsO {c : Nat → Int} {N j : Nat} : j ∈ jsO c N ↔ j < N ∧ c j > 0 := by simp [jsO]
theorem Up_of : ∀ {L : List C}, (∀ i j (hj : j < L.length) (hi : i ≤ j), (L[i]'(by omega)).1 ≤ (L[j]).1) → Up L
  | [], _ => trivial
  | t :: r, h => by
    refine ⟨fun u hu => ?_, Up_of fun i j hj hi => ?_⟩
    · obtain ⟨j, hj, rfl⟩ := List.mem_iff_getElem.1 hu
      exact h 0 (j + 1) (by simpa using hj) (Nat.zero_le _)
    · exact h (i + 1) (j + 1) (by simpa using hj) (by omega)
/-- Lengths of two or more are the plain law's. -/
theorem len_law {c : Nat → Int} {N M : Nat} (hN : N ≤ 1000) (hc : ∀ i, i < N → 0 ≤ c i ∧ c i < 4294967296) (hM : 1 ≤ M ∧ M ≤ 15) (h2 : 2 ≤ (jsO c N).length) (hk : (jsO c N).length ≤ 2 ^ M) :
    ∃ js : List Nat, js.Perm (jsO c N) ∧ Up (sg c js) ∧ ∀ j, lenN c N M j = (lens c js (M - 1) (2 * js.length - 2) j : Nat) := by
  have hl := leafs_len c N
  obtain ⟨p1, p2, p3⟩ := sorted_ok (L := leafs c N) (leafs_wf hc).ch (by omega)
  have hjl : (leafs c N).length = (jsO c N).length := (jsO_len c N).symm
  have hmap : (sorted (leafs c N)).map chT = sg c ((sorted (leafs c N)).map fun t => (symT t).toNat) := by
    unfold sg
    rw [List.map_map]
    refine List.map_congr_left fun t ht => ?_
    obtain ⟨i, h1, _, rfl⟩ := mem_leafs (p1.mem_iff.1 ht)
    rw [lvs_lf]; rfl
  refine ⟨(sorted (leafs c N)).map fun t => (symT t).toNat, ?_, ?_, fun j => ?_⟩
  · rw [← leafs_js]
    exact p1.map _
  · rw [← hmap]
    refine Up_of fun i j hj hi => ?_
    rw [List.length_map] at hj
    rw [List.getElem_map, List.getElem_map]
    have := p3 i j hi (by omega)
    rw [nthT_lt (by omega), nthT_lt hj] at this
    exact this
  · have hlen := Lst_ge (sorted (leafs c N)) (M - 1) 1 (by rw [p2, show M - 1 + 1 = M by omega]; omega)
    unfold lenN lens
    rw [dps_eq _ _ _ (by omega), map_Lst, hmap, List.length_map, p2]
    omega
/-- What two or more lengths are. -/
structure LenLaw (c : Nat → Int) (N M : Nat) (l : Nat → Int) : Prop where
  some : ∀ j, j < N → c j > 0 → 1 ≤ l j ∧ l j ≤ M
  none : ∀ j, ¬ (j < N ∧ c j > 0) → l j = 0
  room : sI (jsO c N) (fun j => 2 ^ (15 - (l j).toNat)) = 32768
  cost : ∀ S : List Int, UpI S → S.Perm ((jsO c N).map c) → sI (jsO c N) (fun j => c j * l j) = wI ((LI S (M - 1)).take (2 * (jsO c N).length - 2))
  least : ∀ m : Nat → Int, (∀ j, j < N → c j > 0 → 1 ≤ m j ∧ m j ≤ M) → sI (jsO c N) (fun j => 2 ^ (15 - (m j).toNat)) ≤ 32768 → sI (jsO c N) (fun j => c j * l j) ≤ sI (jsO c N) (fun j => c j * m j)
theorem lenLaw {c : Nat → Int} {N M : Nat} (hN : N ≤ 1000) (hc : ∀ i, i < N → 0 ≤ c i ∧ c i < 4294967296) (hM : 1 ≤ M ∧ M ≤ 15) (h2 : 2 ≤ (jsO c N).length) (hk : (jsO c N).length ≤ 2 ^ M) : LenLaw c N M (lenN c N M) := by
  obtain ⟨js, hp, hU, hl⟩ := len_law hN hc hM h2 hk
  have hn : js.Nodup := hp.nodup_iff.2 (jsO_nd c N)
  have hlen := hp.length_eq
  have hc0 : ∀ j ∈ js, 0 ≤ c j := fun j hj => by
    have := (mem_jsO.1 (hp.mem_iff.1 hj)).2; omega
  obtain ⟨k1, k2⟩ := kraft hc0 hn hU (r := M - 1) (by omega) (by omega) (by rw [show M - 1 + 1 = M by omega]; omega)
  refine ⟨fun j hj hcj => ?_, fun j hj => ?_, ?_, fun S hS hSp => ?_, fun m hm hr => ?_⟩
  · have := k1 j (hp.mem_iff.2 (mem_jsO.2 ⟨hj, hcj⟩))
    rw [hl]; omega
  · rw [hl]
    have : lens c js (M - 1) (2 * js.length - 2) j = 0 := by
      rcases Nat.eq_zero_or_pos (lens c js (M - 1) (2 * js.length - 2) j) with h | h
      · exact h
      · exact absurd (mem_jsO.1 (hp.mem_iff.1 (lens_mem (show lens c js (M - 1) (2 * js.length - 2) j ≠ 0 by omega)))) hj
    rw [this]; rfl
  · rw [← sI_perm hp, ← k2]
    exact sI_congr fun j _ => by rw [hl, Int.toNat_natCast]
  · rw [← sI_perm hp, sI_congr (g := fun j => c j * lens c js (M - 1) (2 * js.length - 2) j) fun j _ => by rw [hl], lens_wI hn, hlen]
    have e : js.map c = S := by
      refine UpI.eq ?_ hS ((hp.map c).trans hSp.symm)
      have := Up_map hU
      unfold sg at this
      rw [List.map_map] at this
      exact this
    rw [e]
  · rw [← sI_perm hp, ← sI_perm hp, sI_congr (g := fun j => c j * lens c js (M - 1) (2 * js.length - 2) j) fun j _ => by rw [hl]]
    have hm' : ∀ j ∈ js, 1 ≤ m j ∧ m j ≤ M := fun j hj => by
      obtain ⟨a, b⟩ := mem_jsO.1 (hp.mem_iff.1 hj)
      exact hm j a b
    have h3 := Go.Pm.least hc0 hn hU (r := M - 1) (by omega) (by omega) (l := fun j => (m j).toNat) (fun j hj => by
      have := hm' j hj
      show 1 ≤ (m j).toNat ∧ (m j).toNat ≤ _
      omega) (by rw [sI_perm hp]; exact hr)
    refine Int.le_trans h3 (Int.le_of_eq (sI_congr fun j hj => ?_))
    have := hm' j hj
    rw [show ((m j).toNat : Int) = m j by omega]
end Go.Proofs.Ytjianphppcappaa

/-! fardelref13.Least: piles, in plain Lean. No condition. -/
namespace Go.Proofs.Ytjianphppcappaa
open Go.AE Go.Pm
set_option maxRecDepth 100000
/-- A pile: its sum, and how often each is in it. -/
abbrev Pile := Int × (Nat → Int)
def nthP : List Pile → Nat → Pile
  | [], _ => (0, fun _ => 0)
  | p :: _, 0 => p
  | _ :: r, i + 1 => nthP r i
theorem nthP_lt : ∀ {l : List Pile} {i : Nat} (h : i < l.length), nthP l i = l[i]
  | _ :: _, 0, _ => rfl
  | _ :: r, i + 1, h => by simp only [nthP, List.getElem_cons_succ]; exact nthP_lt (by simpa using h)
theorem nthP_app1 {a b : List Pile} {i : Nat} (h : i < a.length) : nthP (a ++ b) i = nthP a i := by
  rw [nthP_lt h, nthP_lt (by simp; omega), List.getElem_append_left h]
theorem nthP_app2 {a b : List Pile} {i : Nat} (h : a.length ≤ i) (h2 : i < a.length + b.length) : nthP (a ++ b) i = nthP b (i - a.length) := by
  rw [nthP_lt (by simp; omega), nthP_lt (by omega), List.getElem_append_right h]
def mgP : List Pile → List Pile → List Pile
  | [], b => b
  | x :: xs, [] => x :: xs
  | x :: xs, y :: ys => if x.1 ≤ y.1 then x :: mgP xs (y :: ys) else y :: mgP (x :: xs) ys
termination_by a b => a.length + b.length
theorem mgP_nil (b : List Pile) : mgP [] b = b := by rw [mgP]
theorem mgP_nil2 (a : List Pile) : mgP a [] = a := by cases a <;> rw [mgP]
theorem mgP_le {x y : Pile} (xs ys : List Pile) (h : x.1 ≤ y.1) : mgP (x :: xs) (y :: ys) = x :: mgP xs (y :: ys) := by rw [mgP, if_pos h]
theorem mgP_gt {x y : Pile} (xs ys : List Pile) (h : ¬ x.1 ≤ y.1) : mgP (x :: xs) (y :: ys) = y :: mgP (x :: xs) ys := by rw [mgP, if_neg h]
theorem mgP_len : ∀ (a b : List Pile), (mgP a b).length = a.length + b.length
  | [], b => by simp [mgP_nil]
  | a :: xs, [] => by simp [mgP_nil2]
  | a :: xs, b :: ys => by
    by_cases h : a.1 ≤ b.1
    · rw [mgP_le _ _ h]; simp only [List.length_cons, mgP_len xs (b :: ys)]; omega
    · rw [mgP_gt _ _ h]; simp only [List.length_cons, mgP_len (a :: xs) ys]; omega
termination_by a b => a.length + b.length
def addP (a b : Pile) : Pile := (a.1 + b.1, fun j => IntKind.i64.wrap (a.2 j + b.2 j))
def prP : List Pile → List Pile
  | x :: y :: r => addP x y :: prP r
  | _ => []
theorem prP_len : ∀ L, (prP L).length = L.length / 2
  | [] => rfl
  | [_] => by simp [prP]
  | x :: y :: r => by simp only [prP, List.length_cons, prP_len r]; omega
theorem prP_nth : ∀ (L : List Pile) (q : Nat), 2 * q + 1 < L.length → nthP (prP L) q = addP (nthP L (2 * q)) (nthP L (2 * q + 1))
  | [], q, h => by simp at h
  | [_], q, h => by simp at h
  | x :: y :: r, 0, _ => rfl
  | x :: y :: r, q + 1, h => by
    simp only [List.length_cons] at h
    exact prP_nth r q (by omega)
def LP (S : List Pile) : Nat → List Pile
  | 0 => S
  | r + 1 => mgP S (prP (LP S r))
/-- A pile in its place. -/
def insP (p : Pile) : List Pile → List Pile
  | [] => [p]
  | q :: L => if q.1 ≤ p.1 then q :: insP p L else p :: q :: L
def atP (p : Pile) : List Pile → Nat
  | [] => 0
  | q :: L => if q.1 ≤ p.1 then atP p L + 1 else 0
theorem atP_le (p : Pile) : ∀ L, atP p L ≤ L.length
  | [] => Nat.le_refl _
  | q :: L => by
    have := atP_le p L
    rw [atP, List.length_cons]
    split <;> omega
theorem insP_eq (p : Pile) : ∀ L, insP p L = L.take (atP p L) ++ ([p] ++ L.drop (atP p L))
  | [] => rfl
  | q :: L => by
    rw [insP, atP]
    by_cases h : q.1 ≤ p.1
    · rw [if_pos h, if_pos h, insP_eq p L]; rfl
    · rw [if_neg h, if_neg h]; rfl
theorem atP_lt (p : Pile) : ∀ (L : List Pile) (i : Nat), i < atP p L → (nthP L i).1 ≤ p.1
  | [], i, h => absurd h (Nat.not_lt_zero _)
  | q :: L, i, h => by
    rw [atP] at h
    by_cases h2 : q.1 ≤ p.1
    · rw [if_pos h2] at h
      cases i with
      | zero => exact h2
      | succ i => exact atP_lt p L i (by omega)
    · rw [if_neg h2] at h; omega
theorem atP_at (p : Pile) : ∀ (L : List Pile), atP p L < L.length → ¬ (nthP L (atP p L)).1 ≤ p.1
  | [], h => absurd h (Nat.not_lt_zero _)
  | q :: L, h => by
    rw [atP] at h ⊢
    by_cases h2 : q.1 ≤ p.1
    · rw [if_pos h2] at h ⊢
      exact atP_at p L (by simpa using h)
    · rw [if_neg h2]
      exact h2
theorem insP_len (p : Pile) : ∀ L, (insP p L).length = L.length + 1
  | [] => rfl
  | q :: L => by
    rw [insP]
    split
    · rw [List.length_cons, insP_len p L]; rfl
    · rfl
theorem insP_perm (p : Pile) : ∀ L, (insP p L).Perm (p :: L)
  | [] => List.Perm.refl _
  | q :: L => by
    rw [insP]
    split
    · exact (List.Perm.cons q (insP_perm p L)).trans (List.Perm.swap p q L)
    · exact List.Perm.refl _
theorem insP_up (p : Pile) : ∀ L, UpI (L.map (·.1)) → UpI ((insP p L).map (·.1))
  | [], _ => ⟨fun _ h => absurd h List.not_mem_nil, trivial⟩
  | q :: L, h => by
    rw [insP]
    split
    · rename_i h2
      refine ⟨fun u hu => ?_, insP_up p L h.2⟩
      obtain ⟨v, hv, rfl⟩ := List.mem_map.1 hu
      rcases List.mem_cons.1 ((insP_perm p L).mem_iff.1 hv) with rfl | hv
      · exact h2
      · exact h.1 _ (List.mem_map_of_mem hv)
    · rename_i h2
      refine ⟨fun u hu => ?_, h⟩
      rcases List.mem_cons.1 hu with rfl | hu
      · show p.1 ≤ q.1
        omega
      · have h3 : q.1 ≤ u := h.1 u hu
        show p.1 ≤ u
        omega
/-- One alone. -/
def oneP (i j : Nat) : Int := if j = i then 1 else 0
def sgP (c : Nat → Int) : Nat → List Pile
  | 0 => []
  | n + 1 => if c n = 0 then sgP c n else insP (c n, oneP n) (sgP c n)
theorem sgP_up (c : Nat → Int) : ∀ n, UpI ((sgP c n).map (·.1))
  | 0 => trivial
  | n + 1 => by
    rw [sgP]
    split
    · exact sgP_up c n
    · exact insP_up _ _ (sgP_up c n)
theorem jsO_snoc (c : Nat → Int) (n : Nat) : jsO c (n + 1) = jsO c n ++ if c n > 0 then [n] else [] := by
  unfold jsO
  rw [List.range_succ, List.filter_append]
  by_cases h : c n > 0
  · rw [if_pos h, List.filter_cons_of_pos (by simpa using h)]; rfl
  · rw [if_neg h, List.filter_cons_of_neg (by simpa using h)]; rfl
theorem sgP_perm {c : Nat → Int} : ∀ n, (∀ i, i < n → 0 ≤ c i) → ((sgP c n).map (·.1)).Perm ((jsO c n).map c)
  | 0, _ => List.Perm.refl _
  | n + 1, h => by
    have ih := sgP_perm n fun i hi => h i (by omega)
    have hn := h n (by omega)
    rw [sgP, jsO_snoc]
    by_cases h0 : c n = 0
    · rw [if_pos h0, if_neg (by omega), List.append_nil]; exact ih
    · rw [if_neg h0, if_pos (by omega), List.map_append]
      refine ((insP_perm (c n, oneP n) (sgP c n)).map _).trans ?_
      exact (List.Perm.cons _ ih).trans (List.perm_append_singleton _ _).symm
theorem sgP_len {c : Nat → Int} {n : Nat} (h : ∀ i, i < n → 0 ≤ c i) : (sgP c n).length = (jsO c n).length := by
  have := (sgP_perm n h).length_eq
  simpa using this
theorem map_mgP : ∀ a b : List Pile, (mgP a b).map (·.1) = mI (a.map (·.1)) (b.map (·.1))
  | [], b => by rw [mgP_nil, List.map_nil, mI_nil]
  | x :: xs, [] => by rw [mgP_nil2, List.map_nil, mI_nil2]
  | x :: xs, y :: ys => by
    by_cases h : x.1 ≤ y.1
    · rw [mgP_le _ _ h, List.map_cons, map_mgP xs (y :: ys), List.map_cons, List.map_cons, mI_le _ _ (by omega)]
    · rw [mgP_gt _ _ h, List.map_cons, map_mgP (x :: xs) ys, List.map_cons, List.map_cons, mI_gt _ _ (by omega)]
termination_by a b => a.length + b.length
theorem map_prP : ∀ a : List Pile, (prP a).map (·.1) = pI (a.map (·.1))
  | [] => rfl
  | [_] => by simp [prP, pI]
  | x :: y :: r => by simp only [prP, List.map_cons, pI, map_prP r, addP]
theorem map_LP (S : List Pile) : ∀ r, (LP S r).map (·.1) = LI (S.map (·.1)) r
  | 0 => rfl
  | r + 1 => by rw [LP, map_mgP, map_prP, map_LP S r]; rfl
/-! ### Bounds -/
def bndP (B : Int) (L : List Pile) : Prop := ∀ p ∈ L, 0 ≤ p.1 ∧ p.1 ≤ B
theorem mem_mgP {p : Pile} : ∀ {a b : List Pile}, p ∈ mgP a b → p ∈ a ∨ p ∈ b
  | [], b, h => by rw [mgP_nil] at h; exact .inr h
  | x :: xs, [], h => by rw [mgP_nil2] at h; exact .inl h
  | x :: xs, y :: ys, h => by
    by_cases h2 : x.1 ≤ y.1
    · rw [mgP_le _ _ h2] at h
      rcases List.mem_cons.1 h with rfl | h
      · exact .inl List.mem_cons_self
      · rcases mem_mgP h with h | h
        · exact .inl (List.mem_cons_of_mem _ h)
        · exact .inr h
    · rw [mgP_gt _ _ h2] at h
      rcases List.mem_cons.1 h with rfl | h
      · exact .inr List.mem_cons_self
      · rcases mem_mgP h with h | h
        · exact .inl h
        · exact .inr (List.mem_cons_of_mem _ h)
termination_by a b => a.length + b.length
theorem mem_prP {p : Pile} : ∀ {L : List Pile}, p ∈ prP L → ∃ x y, x ∈ L ∧ y ∈ L ∧ p = addP x y
  | [], h => absurd h List.not_mem_nil
  | [_], h => by simp [prP] at h
  | x :: y :: r, h => by
    rw [prP] at h
    rcases List.mem_cons.1 h with rfl | h
    · exact ⟨x, y, by simp, by simp, rfl⟩
    · obtain ⟨u, v, a, b, d⟩ := mem_prP h
      exact ⟨u, v, by simp [a], by simp [b], d⟩
theorem bnd_LP {S : List Pile} {B : Int} (hB : 0 ≤ B) (h : bndP B S) : ∀ r, bndP (2 ^ r * B) (LP S r)
  | 0 => by
    intro p hp
    have := h p hp
    rw [show (2 : Int) ^ 0 * B = B by rw [Int.pow_zero, Int.one_mul]]; exact this
  | r + 1 => by
    have ih := bnd_LP hB h r
    have hp : (1 : Int) ≤ 2 ^ r := by have : (0 : Int) < 2 ^ r := Int.pow_pos (by decide); omega
    have hb : B ≤ 2 ^ r * B := by
      have := Int.mul_le_mul_of_nonneg_right hp hB
      rw [Int.one_mul] at this; exact this
    have e : (2 : Int) ^ (r + 1) * B = 2 * (2 ^ r * B) := by rw [Int.pow_succ, Int.mul_comm (2 ^ r) 2, Int.mul_assoc]
    intro p hp
    rw [e]
    generalize (2 : Int) ^ r * B = D at *
    rcases mem_mgP hp with hp | hp
    · have := h p hp; omega
    · obtain ⟨x, y, hx, hy, rfl⟩ := mem_prP hp
      have h1 := ih x hx
      have h2 := ih y hy
      show 0 ≤ x.1 + y.1 ∧ x.1 + y.1 ≤ _
      omega
theorem bnd_sgP {c : Nat → Int} {B : Int} : ∀ n, (∀ i, i < n → 0 ≤ c i ∧ c i ≤ B) → bndP B (sgP c n)
  | 0, _ => fun _ h => absurd h List.not_mem_nil
  | n + 1, h => by
    have ih := bnd_sgP n fun i hi => h i (by omega)
    rw [sgP]
    split
    · exact ih
    · intro p hp
      rcases List.mem_cons.1 ((insP_perm _ _).mem_iff.1 hp) with rfl | hp
      · exact h n (by omega)
      · exact ih p hp
theorem LP_len (S : List Pile) (r : Nat) : (LP S r).length ≤ 2 * S.length := by
  induction r with
  | zero => rw [LP]; omega
  | succ r ih => rw [LP, mgP_len, prP_len]; omega
/-- The sum of so many. -/
def smP (L : List Pile) : Nat → Int
  | 0 => 0
  | i + 1 => smP L i + (nthP L i).1
theorem smP_eq (L : List Pile) : ∀ q, q ≤ L.length → smP L q = wI ((L.map (·.1)).take q)
  | 0, _ => by simp [smP, wI]
  | q + 1, h => by
    have ih := smP_eq L q (by omega)
    have hq : q < (L.map (·.1)).length := by rw [List.length_map]; omega
    have hw : ∀ a : List Int, ∀ x, wI (a ++ [x]) = wI a + x := fun a x => by
      induction a with
      | nil => simp [wI]
      | cons y r ih => simp only [List.cons_append, wI, ih]; omega
    rw [smP, ih, List.take_succ_eq_append_getElem hq, hw, List.getElem_map, nthP_lt (by omega)]
theorem smP_bnd {L : List Pile} {D : Int} (h : bndP D L) : ∀ q, q ≤ L.length → 0 ≤ smP L q ∧ smP L q ≤ q * D
  | 0, _ => by simp [smP]
  | q + 1, hq => by
    have ih := smP_bnd h q (by omega)
    have hm := h (nthP L q) (by rw [nthP_lt (by omega)]; exact List.getElem_mem _)
    rw [smP]
    have : ((q + 1 : Nat) : Int) * D = q * D + D := by rw [Int.natCast_add, Int.add_mul]; simp
    omega
end Go.Proofs.Ytjianphppcappaa

/-! huff.room. No condition. -/
namespace Go.Proofs.Ytjianphppcappaa
open Go.AE
set_option maxRecDepth 100000
noncomputable def rmC : Code := bodyC Try.f39
noncomputable def rmB : Code := cB (cB (cR (cL (cR rmC))))
def rmT0 (N : Nat) (c : Nat → Int) (cp : Option Nat) (x y : Int) : List (Nat × T) := [(0, .fsi .i64 N c cp), (2, .num x), (3, .num y)]
def rmT (N : Nat) (c : Nat → Int) (cp : Option Nat) (x y i : Int) : List (Nat × T) := [(0, .fsi .i64 N c cp), (2, .num x), (3, .num y), (6, .fsi .i64 N c cp), (7, .num N), (8, .num i)]
def rmE : List (Nat × T) := [(2, .num (-1)), (3, .num 0)]
theorem rmC_eq : rmC = .seq (cL rmC) (.seq (.seq (cL (cL (cR rmC))) (.block 0 (.loop rmB))) (.seq (cL (cR (cR rmC))) .ret)) := by kernel_rfl

theorem rm_0 (N : Nat) (c : Nat → Int) (cp : Option Nat) : Tr Try.prog 0 (cL rmC) (stW 0 0 (tmk ([(0, .fsi .i64 N c cp)]) 0 32) ([])) (.normal) (stW 0 0 (tmk (rmT0 N c cp 0 0) 0 32) ([])) :=
  Tr.evW (n := ⟨1000000, []⟩) (N := 0) (keep := maskOf [0, 2, 3]) (nm := maskOf [2, 3]) (vc := true) (env0_ok _) mix (by kernel_rfl) rfl rfl rfl (rfl)

theorem rm_1 (N : Nat) (c : Nat → Int) (cp : Option Nat) (x y : Int) : Tr Try.prog 0 (cL (cL (cR rmC))) (stW 0 0 (tmk (rmT0 N c cp x y) 0 32) ([])) (.normal) (stW 0 0 (tmk (rmT N c cp x y 0) 0 32) ([])) :=
  Tr.evW (n := ⟨1000000, []⟩) (N := 0) (keep := maskOf [0, 2, 3, 6, 7, 8]) (nm := maskOf [2, 3, 7, 8]) (vc := true) (env0_ok _) mix (by kernel_rfl) rfl rfl rfl (rfl)

noncomputable def rm_2V (N : Nat) (c : Nat → Int) (cp : Option Nat) (x y i : Int) : Bool := (decide (-9223372036854775808 ≤ i + 1 ∧ i + 1 ≤ 9223372036854775807) && true && (decide (-9223372036854775808 ≤ y + 1 ∧ y + 1 ≤ 9223372036854775807) && true && (decide (0 ≤ IntKind.i64.wrap (15 - c i.toNat)) && (decide (-9223372036854775808 ≤ x + shlI IntKind.i64 1 (IntKind.i64.wrap (15 - c i.toNat)) ∧ x + shlI IntKind.i64 1 (IntKind.i64.wrap (15 - c i.toNat)) ≤ 9223372036854775807) && true) && (decide (c i.toNat > 0) == true && true && (decide (c i.toNat < 0) == false && ((decide (c i.toNat > 15) == false || false) && true) && (decide (0 ≤ i ∧ i < ↑N) && true && (decide (i < ↑N) == true && true && true)))))))
theorem rm_2 (N : Nat) (c : Nat → Int) (cp : Option Nat) (x y i : Int) (hv : rm_2V N c cp x y i = true) : Tr Try.prog 0 (rmB) (stW 0 0 (tmk (rmT N c cp x y i) 0 32) ([])) (.normal) (stW 0 0 (tmk (rmT N c cp (x + shlI .i64 1 (IntKind.i64.wrap (15 - c i.toNat))) (y + 1) (i + 1)) 0 32) ([])) :=
  Tr.evW (n := ⟨1000000, [(9, true), (14, false), (17, false), (19, true)]⟩) (N := 0) (keep := maskOf [0, 2, 3, 6, 7, 8]) (nm := maskOf [2, 3, 7, 8]) (vc := rm_2V N c cp x y i) (env0_ok _) mix (by kernel_rfl) hv rfl rfl (rfl)

noncomputable def rm_3V (N : Nat) (c : Nat → Int) (cp : Option Nat) (x y i : Int) : Bool := (decide (-9223372036854775808 ≤ i + 1 ∧ i + 1 ≤ 9223372036854775807) && true && (decide (c i.toNat > 0) == false && true && (decide (c i.toNat < 0) == false && ((decide (c i.toNat > 15) == false || false) && true) && (decide (0 ≤ i ∧ i < ↑N) && true && (decide (i < ↑N) == true && true && true)))))
theorem rm_3 (N : Nat) (c : Nat → Int) (cp : Option Nat) (x y i : Int) (hv : rm_3V N c cp x y i = true) : Tr Try.prog 0 (rmB) (stW 0 0 (tmk (rmT N c cp x y i) 0 32) ([])) (.normal) (stW 0 0 (tmk (rmT N c cp x y (i + 1)) 0 32) ([])) :=
  Tr.evW (n := ⟨1000000, [(9, true), (14, false), (17, false), (19, false)]⟩) (N := 0) (keep := maskOf [0, 2, 3, 6, 7, 8]) (nm := maskOf [2, 3, 7, 8]) (vc := rm_3V N c cp x y i) (env0_ok _) mix (by kernel_rfl) hv rfl rfl (rfl)

noncomputable def rm_4V (N : Nat) (c : Nat → Int) (cp : Option Nat) (x y i : Int) : Bool := (decide (c i.toNat < 0) == true && true && (decide (0 ≤ i ∧ i < ↑N) && true && (decide (i < ↑N) == true && true && true)))
theorem rm_4 (N : Nat) (c : Nat → Int) (cp : Option Nat) (x y i : Int) (hv : rm_4V N c cp x y i = true) : Tr Try.prog 0 (rmB) (stW 0 0 (tmk (rmT N c cp x y i) 0 32) ([])) (.ret) (stW 0 0 (tmk (rmE) 0 32) ([])) :=
  Tr.evW (n := ⟨1000000, [(9, true), (14, true)]⟩) (N := 0) (keep := maskOf [2, 3]) (nm := maskOf [2, 3]) (vc := rm_4V N c cp x y i) (env0_ok _) mix (by kernel_rfl) hv rfl rfl (rfl)

noncomputable def rm_5V (N : Nat) (c : Nat → Int) (cp : Option Nat) (x y i : Int) : Bool := (decide (c i.toNat < 0) == false && ((decide (c i.toNat > 15) == true || false) && true) && (decide (0 ≤ i ∧ i < ↑N) && true && (decide (i < ↑N) == true && true && true)))
theorem rm_5 (N : Nat) (c : Nat → Int) (cp : Option Nat) (x y i : Int) (hv : rm_5V N c cp x y i = true) : Tr Try.prog 0 (rmB) (stW 0 0 (tmk (rmT N c cp x y i) 0 32) ([])) (.ret) (stW 0 0 (tmk (rmE) 0 32) ([])) :=
  Tr.evW (n := ⟨1000000, [(9, true), (14, false), (17, true)]⟩) (N := 0) (keep := maskOf [2, 3]) (nm := maskOf [2, 3]) (vc := rm_5V N c cp x y i) (env0_ok _) mix (by kernel_rfl) hv rfl rfl (rfl)

noncomputable def rm_6V (N : Nat) (c : Nat → Int) (cp : Option Nat) (x y i : Int) : Bool := (decide (i < ↑N) == false && true && true)
theorem rm_6 (N : Nat) (c : Nat → Int) (cp : Option Nat) (x y i : Int) (hv : rm_6V N c cp x y i = true) : Tr Try.prog 0 (rmB) (stW 0 0 (tmk (rmT N c cp x y i) 0 32) ([])) (.exit 0) (stW 0 0 (tmk (rmT0 N c cp x y) 0 32) ([])) :=
  Tr.evW (n := ⟨1000000, [(9, false)]⟩) (N := 0) (keep := maskOf [0, 2, 3]) (nm := maskOf [2, 3]) (vc := rm_6V N c cp x y i) (env0_ok _) mix (by kernel_rfl) hv rfl rfl (rfl)

theorem rm_7 (N : Nat) (c : Nat → Int) (cp : Option Nat) (x y : Int) : Tr Try.prog 0 (.seq (cL (cR (cR rmC))) .ret) (stW 0 0 (tmk (rmT0 N c cp x y) 0 32) ([])) (.ret) (stW 0 0 (tmk ([(2, .num x), (3, .num y)]) 0 32) ([])) :=
  Tr.evW (n := ⟨1000000, []⟩) (N := 0) (keep := maskOf [2, 3]) (nm := maskOf [2, 3]) (vc := true) (env0_ok _) mix (by kernel_rfl) rfl rfl rfl (rfl)

end Go.Proofs.Ytjianphppcappaa

/-! huff.room by its models. No condition. -/
namespace Go.Proofs.Ytjianphppcappaa
open Go.AE
set_option maxRecDepth 100000
/-- The room of so many lengths. -/
def rmI (c : Nat → Int) : Nat → Int
  | 0 => 0
  | i + 1 => rmI c i + if c i > 0 then 2 ^ (15 - (c i).toNat) else 0
/-- How many are above 0. -/
def smI (c : Nat → Int) : Nat → Int
  | 0 => 0
  | i + 1 => smI c i + if c i > 0 then 1 else 0
theorem pow15 {k : Nat} (h : k ≤ 15) : 1 ≤ (2 : Int) ^ k ∧ (2 : Int) ^ k ≤ 32768 := pow_m h
theorem rmI_bnd (c : Nat → Int) : ∀ n, 0 ≤ rmI c n ∧ rmI c n ≤ n * 32768
  | 0 => by simp [rmI]
  | n + 1 => by
    have h := rmI_bnd c n
    have h2 := pow15 (k := 15 - (c n).toNat) (by omega)
    rw [rmI]
    split <;> omega
theorem smI_bnd (c : Nat → Int) : ∀ n, 0 ≤ smI c n ∧ smI c n ≤ n
  | 0 => by simp [smI]
  | n + 1 => by
    have h := smI_bnd c n
    rw [smI]
    split <;> omega
theorem shl15 {l : Int} (h : 0 ≤ l ∧ l ≤ 15) : shlI .i64 1 (IntKind.i64.wrap (15 - l)) = 2 ^ (15 - l.toNat) ∧ IntKind.i64.wrap (15 - l) = 15 - l := by
  have e : IntKind.i64.wrap (15 - l) = 15 - l := by rw [IntKind.wrap_i64]; omega
  refine ⟨?_, e⟩
  rw [e]
  unfold shlI
  rw [show min (15 - l).toNat IntKind.i64.bits = 15 - l.toNat by show min (15 - l).toNat 64 = _; omega, IntKind.wrap_i64, Int.one_mul]
  have h2 := pow15 (k := 15 - l.toNat) (by omega)
  omega
def rmS (N : Nat) (c : Nat → Int) (cp : Option Nat) (i : Nat) : St := stW 0 0 (tmk (rmT N c cp (rmI c i) (smI c i) (i : Nat)) 0 32) []
theorem rm_step {N : Nat} {c : Nat → Int} {cp : Option Nat} (hN : N ≤ 100000) {i : Nat} (hi : i < N) (hc : 0 ≤ c i ∧ c i ≤ 15) : Tr Try.prog 0 rmB (rmS N c cp i) .normal (rmS N c cp (i + 1)) := by
  obtain ⟨h1, h2⟩ := shl15 hc
  have h3 := rmI_bnd c i
  have h4 := smI_bnd c i
  have h5 := pow15 (k := 15 - (c i).toNat) (by omega)
  unfold rmS
  by_cases h : c i > 0
  · have hs := rm_2 N c cp (rmI c i) (smI c i) i (by
      unfold rm_2V
      rw [Int.toNat_natCast, h1, h2]
      simp only [Bool.and_true, Bool.or_false, Bool.and_eq_true, decide_eq_true_eq, decide_eq_false_iff_not, beq_iff_eq]
      omega)
    rw [Int.toNat_natCast, h1] at hs
    rw [show rmI c (i + 1) = rmI c i + 2 ^ (15 - (c i).toNat) by rw [rmI, if_pos h], show smI c (i + 1) = smI c i + 1 by rw [smI, if_pos h]]
    exact hs
  · have hs := rm_3 N c cp (rmI c i) (smI c i) i (by
      unfold rm_3V
      rw [Int.toNat_natCast]
      simp only [Bool.and_true, Bool.or_false, Bool.and_eq_true, decide_eq_true_eq, decide_eq_false_iff_not, beq_iff_eq]
      omega)
    rw [show rmI c (i + 1) = rmI c i by rw [rmI, if_neg h, Int.add_zero], show smI c (i + 1) = smI c i by rw [smI, if_neg h, Int.add_zero]]
    exact hs
theorem rm_all {N : Nat} {c : Nat → Int} {cp : Option Nat} (hN : N ≤ 100000) (hc : ∀ i, i < N → 0 ≤ c i ∧ c i ≤ 15) :
    Tr Try.prog 0 rmC (stW 0 0 ([.fsi .i64 N c cp] ++ undefs 31) []) .ret (stW 0 0 (tmk [(2, .num (rmI c N)), (3, .num (smI c N))] 0 32) []) := by
  rw [rmC_eq]
  refine Tr.seq (rm_0 N c cp) (Tr.seq (Tr.seq (rm_1 N c cp 0 0) (Tr.iter (n := N) (S := rmS N c cp) (fun i hi => rm_step hN hi (hc i hi)) (rm_6 N c cp (rmI c N) (smI c N) N ?_))) (rm_7 N c cp _ _))
  unfold rm_6V
  simp
theorem rm_bad {N : Nat} {c : Nat → Int} {cp : Option Nat} (hN : N ≤ 100000) (hc : ∃ i, i < N ∧ (c i < 0 ∨ c i > 15)) :
    Tr Try.prog 0 rmC (stW 0 0 ([.fsi .i64 N c cp] ++ undefs 31) []) .ret (stW 0 0 (tmk rmE 0 32) []) := by
  have hex : ∃ k, k < N ∧ (c k < 0 ∨ c k > 15) ∧ ∀ i, i < k → 0 ≤ c i ∧ c i ≤ 15 := by
    obtain ⟨i, hi, hb⟩ := hc
    induction i using Nat.strongRecOn with
    | ind i ih =>
      by_cases h : ∃ j, j < i ∧ (c j < 0 ∨ c j > 15)
      · obtain ⟨j, hj, hb2⟩ := h
        exact ih j hj (by omega) hb2
      · refine ⟨i, hi, hb, fun j hj => ?_⟩
        have : ¬ (c j < 0 ∨ c j > 15) := fun h2 => h ⟨j, hj, h2⟩
        omega
  obtain ⟨k, hk, hb, hg⟩ := hex
  rw [rmC_eq]
  refine Tr.seq (rm_0 N c cp) (Tr.seqX (Tr.seq (rm_1 N c cp 0 0) (Tr.block (Tr.loop (TrN.iter (S := rmS N c cp) (s' := stW 0 0 (tmk rmE 0 32) []) (e := .ret) (by intro h; cases h) k 0 (fun i _ hi => rm_step hN (by omega) (hg i (by omega))) ?_)) (by intro i h; cases h))) (by intro h; cases h))
  rw [Nat.zero_add]
  unfold rmS
  by_cases h : c k < 0
  · refine rm_4 N c cp _ _ k ?_
    unfold rm_4V
    rw [Int.toNat_natCast]
    simp only [Bool.and_true, Bool.or_false, Bool.and_eq_true, decide_eq_true_eq, decide_eq_false_iff_not, beq_iff_eq]
    omega
  · refine rm_5 N c cp _ _ k ?_
    unfold rm_5V
    rw [Int.toNat_natCast]
    simp only [Bool.and_true, Bool.or_false, Bool.and_eq_true, decide_eq_true_eq, decide_eq_false_iff_not, beq_iff_eq]
    omega
/-- Lengths that may be: none below 0 or above 15. -/
def lenOK (N : Nat) (c : Nat → Int) : Prop := ∀ i, i < N → 0 ≤ c i ∧ c i ≤ 15
noncomputable def RoomV : VModel
  | [.fsi .i64 N c _] => some ⟨holds (N ≤ 100000 ∧ lenOK N c), .tup (.cons (.num (rmI c N)) (.cons (.num (smI c N)) .nil)), [], true⟩
  | _ => none
noncomputable def RoomBadV : VModel
  | [.fsi .i64 N c _] => some ⟨holds (N ≤ 100000 ∧ ∃ i, i < N ∧ (c i < 0 ∨ c i > 15)), .tup (.cons (.num (-1)) (.cons (.num 0) .nil)), [], true⟩
  | _ => none
theorem Room_ok : SoundV Try.prog 39 RoomV := by
  refine SoundV.of_tr (fn := Try.f39) (c := rmC) (by kernel_rfl) (by kernel_rfl) (by kernel_rfl) ?_
  intro args r hr hvc
  unfold RoomV at hr
  split at hr
  · rename_i N c cp
    cases hr
    obtain ⟨h1, h2⟩ := of_holds hvc
    exact ⟨.ret, _, [.num (rmI c N), .num (smI c N)], 0, .inl rfl, rm_all h1 h2, rfl, rfl, rfl, fun _ => rfl⟩
  · cases hr
theorem RoomBad_ok : SoundV Try.prog 39 RoomBadV := by
  refine SoundV.of_tr (fn := Try.f39) (c := rmC) (by kernel_rfl) (by kernel_rfl) (by kernel_rfl) ?_
  intro args r hr hvc
  unfold RoomBadV at hr
  split at hr
  · rename_i N c cp
    cases hr
    obtain ⟨h1, h2⟩ := of_holds hvc
    exact ⟨.ret, _, [.num (-1), .num 0], 0, .inl rfl, rm_bad h1 h2, rfl, rfl, rfl, fun _ => rfl⟩
  · cases hr
end Go.Proofs.Ytjianphppcappaa

/-! huff.Words. No condition. -/
namespace Go.Proofs.Ytjianphppcappaa
open Go.AE
set_option maxRecDepth 100000
noncomputable def woC : Code := bodyC Try.f18
noncomputable def woX : Code := postC 5 woC
noncomputable def woB0 : Code := cB (cB (cR (cL woX)))
noncomputable def woB2 : Code := cB (cB (cR (cL (cR woX))))
noncomputable def woB4 : Code := cB (cB (cR (cL (cR (cR (cR woX))))))
noncomputable def envWo : Env := env0.set 39 (lift 0 RoomV)
theorem envWo_ok : EnvOK Try.prog envWo := (env0_ok _).set (Room_ok.lift 0)
theorem woX_eq : woX = .seq (.seq (cL (cL woX)) (.block 0 (.loop woB0))) (.seq (.seq (cL (cL (cR woX))) (.block 2 (.loop woB2))) (.seq (cL (cR (cR woX))) (.seq (.seq (cL (cL (cR (cR (cR woX))))) (.block 4 (.loop woB4))) (cR (cR (cR (cR woX))))))) := by kernel_rfl
def woT (N : Nat) (c : Nat → Int) (cp : Option Nat) : List (Nat × T) := [(0, .fsi .i64 N c cp), (7, .ptr 0 [])]
def woT0 (N : Nat) (c : Nat → Int) (cp : Option Nat) (i : Int) : List (Nat × T) := [(0, .fsi .i64 N c cp), (7, .ptr 0 []), (36, .fsi .i64 N c cp), (37, .num N), (38, .num i)]
def woT2 (N : Nat) (c : Nat → Int) (cp : Option Nat) (i : Int) : List (Nat × T) := [(0, .fsi .i64 N c cp), (7, .ptr 0 []), (10, .num i)]
def woT4 (N : Nat) (c : Nat → Int) (cp : Option Nat) (i : Int) : List (Nat × T) := [(7, .ptr 0 []), (11, outS N 1), (69, .fsi .i64 N c cp), (70, .num N), (71, .num i)]
def woG (f : Nat → Int) : Heap := [some (.ints .u32 17 f)]
def woG2 (N : Nat) (f g : Nat → Int) : Heap := [some (.ints .u32 17 f), some (.ints .u32 N g)]
def up1 (f : Nat → Int) (k : Nat) (v : Int) : Nat → Int := fun j => bif Nat.beq j k then v else f j

noncomputable def wo_aV (N : Nat) (c : Nat → Int) (cp : Option Nat) : Bool := (decide ((↑N : Int) > 1000) == false && (((!rmI c N == 32768) == true || false) && ((!rmI c N == 16384) == false && true)) && ((smI c N == 1) == true && true && (holds (N ≤ 100000 ∧ lenOK N c) && true && true && true)))
theorem wo_a (N : Nat) (c : Nat → Int) (cp : Option Nat) : (evCode Try.prog envWo ⟨1000000, [(21, true), (28, false), (31, true), (35, false)]⟩ (preC 5 (woC)) (stW 0 0 (tmk ([(0, .fsi .i64 N c cp)]) 0 91) ([]))).map (cutPW 0 0 (maskOf [0, 7]) (maskOf [])) =
    some (.normal, wo_aV N c cp, (tmk (woT N c cp) 0 91), woG fun _ => 0, true) := by kernel_rfl

noncomputable def wo_bV (N : Nat) (c : Nat → Int) (cp : Option Nat) : Bool := (decide ((↑N : Int) > 1000) == false && (((!rmI c N == 32768) == false || false) && true) && ((smI c N == 1) == false && true && (holds (N ≤ 100000 ∧ lenOK N c) && true && true && true)))
theorem wo_b (N : Nat) (c : Nat → Int) (cp : Option Nat) : (evCode Try.prog envWo ⟨1000000, [(21, false), (28, false), (31, false), (35, false)]⟩ (preC 5 (woC)) (stW 0 0 (tmk ([(0, .fsi .i64 N c cp)]) 0 91) ([]))).map (cutPW 0 0 (maskOf [0, 7]) (maskOf [])) =
    some (.normal, wo_bV N c cp, (tmk (woT N c cp) 0 91), woG fun _ => 0, true) := by kernel_rfl

theorem wo_6 (N : Nat) (c : Nat → Int) (cp : Option Nat) (f : Nat → Int) : Tr Try.prog 0 (cL (cL woX)) (stW 0 0 (tmk (woT N c cp) 0 91) (woG f)) (.normal) (stW 0 0 (tmk (woT0 N c cp 0) 0 91) (woG f)) :=
  Tr.evW (n := ⟨1000000, []⟩) (N := 1) (keep := maskOf [0, 7, 36, 37, 38]) (nm := maskOf [37, 38]) (vc := true) envWo_ok mix (by kernel_rfl) rfl rfl rfl (rfl)

noncomputable def wo_7V (N : Nat) (c : Nat → Int) (cp : Option Nat) (f : Nat → Int) (i : Int) : Bool := (decide (-9223372036854775808 ≤ i + 1 ∧ i + 1 ≤ 9223372036854775807) && true && (decide (0 ≤ IntKind.i64.wrap (c i.toNat + 1) ∧ IntKind.i64.wrap (c i.toNat + 1) < (↑17 : Int)) && (decide ((IntKind.i64.wrap (c i.toNat + 1)).toNat < 17) && true && (decide (0 ≤ IntKind.i64.wrap (c i.toNat + 1) ∧ IntKind.i64.wrap (c i.toNat + 1) < (↑17 : Int)) && (decide ((IntKind.i64.wrap (c i.toNat + 1)).toNat < 17) && true && true))) && (decide (c i.toNat > 0) == true && true && (decide (0 ≤ i ∧ i < (↑N : Int)) && true && (decide (i < (↑N : Int)) == true && true && true)))))
theorem wo_7 (N : Nat) (c : Nat → Int) (cp : Option Nat) (f : Nat → Int) (i : Int) (hv : wo_7V N c cp f i = true) : Tr Try.prog 0 (woB0) (stW 0 0 (tmk (woT0 N c cp i) 0 91) (woG f)) (.normal) (stW 0 0 (tmk (woT0 N c cp (i + 1)) 0 91) (woG (up1 f (IntKind.i64.wrap (c i.toNat + 1)).toNat (IntKind.u32.wrap (f (IntKind.i64.wrap (c i.toNat + 1)).toNat + 1))))) :=
  Tr.evW (n := ⟨1000000, [(39, true), (43, true)]⟩) (N := 1) (keep := maskOf [0, 7, 36, 37, 38]) (nm := maskOf [37, 38]) (vc := wo_7V N c cp f i) envWo_ok mix (by kernel_rfl) hv rfl rfl (rfl)

noncomputable def wo_8V (N : Nat) (c : Nat → Int) (cp : Option Nat) (f : Nat → Int) (i : Int) : Bool := (decide (-9223372036854775808 ≤ i + 1 ∧ i + 1 ≤ 9223372036854775807) && true && (decide (c i.toNat > 0) == false && true && (decide (0 ≤ i ∧ i < (↑N : Int)) && true && (decide (i < (↑N : Int)) == true && true && true))))
theorem wo_8 (N : Nat) (c : Nat → Int) (cp : Option Nat) (f : Nat → Int) (i : Int) (hv : wo_8V N c cp f i = true) : Tr Try.prog 0 (woB0) (stW 0 0 (tmk (woT0 N c cp i) 0 91) (woG f)) (.normal) (stW 0 0 (tmk (woT0 N c cp (i + 1)) 0 91) (woG f)) :=
  Tr.evW (n := ⟨1000000, [(39, true), (43, false)]⟩) (N := 1) (keep := maskOf [0, 7, 36, 37, 38]) (nm := maskOf [37, 38]) (vc := wo_8V N c cp f i) envWo_ok mix (by kernel_rfl) hv rfl rfl (rfl)

noncomputable def wo_9V (N : Nat) (c : Nat → Int) (cp : Option Nat) (f : Nat → Int) (i : Int) : Bool := (decide (i < (↑N : Int)) == false && true && true)
theorem wo_9 (N : Nat) (c : Nat → Int) (cp : Option Nat) (f : Nat → Int) (i : Int) (hv : wo_9V N c cp f i = true) : Tr Try.prog 0 (woB0) (stW 0 0 (tmk (woT0 N c cp i) 0 91) (woG f)) (.exit 0) (stW 0 0 (tmk (woT N c cp) 0 91) (woG f)) :=
  Tr.evW (n := ⟨1000000, [(39, false)]⟩) (N := 1) (keep := maskOf [0, 7]) (nm := maskOf []) (vc := wo_9V N c cp f i) envWo_ok mix (by kernel_rfl) hv rfl rfl (rfl)

theorem wo_12 (N : Nat) (c : Nat → Int) (cp : Option Nat) (f : Nat → Int) : Tr Try.prog 0 (cL (cL (cR woX))) (stW 0 0 (tmk (woT N c cp) 0 91) (woG f)) (.normal) (stW 0 0 (tmk (woT2 N c cp 2) 0 91) (woG f)) :=
  Tr.evW (n := ⟨1000000, []⟩) (N := 1) (keep := maskOf [0, 7, 10]) (nm := maskOf [10]) (vc := true) envWo_ok mix (by kernel_rfl) rfl rfl rfl (rfl)

noncomputable def wo_13V (N : Nat) (c : Nat → Int) (cp : Option Nat) (f : Nat → Int) (i : Int) : Bool := (decide (-9223372036854775808 ≤ i + 1 ∧ i + 1 ≤ 9223372036854775807) && true && (decide (0 ≤ i ∧ i < (↑17 : Int)) && (decide (i.toNat < 17) && true && (decide (-9223372036854775808 ≤ i - 1 ∧ i - 1 ≤ 9223372036854775807) && (decide (0 ≤ i - 1 ∧ i - 1 < (↑17 : Int)) && (decide ((i - 1).toNat < 17) && true && (decide (0 ≤ i ∧ i < (↑17 : Int)) && (decide (i.toNat < 17) && true && true)))))) && (decide (i < 17) == true && true && true)))
theorem wo_13 (N : Nat) (c : Nat → Int) (cp : Option Nat) (f : Nat → Int) (i : Int) (hv : wo_13V N c cp f i = true) : Tr Try.prog 0 (woB2) (stW 0 0 (tmk (woT2 N c cp i) 0 91) (woG f)) (.normal) (stW 0 0 (tmk (woT2 N c cp (i + 1)) 0 91) (woG (up1 f i.toNat (shlI .u32 (IntKind.u32.wrap (f i.toNat + f (i - 1).toNat)) 1)))) :=
  Tr.evW (n := ⟨1000000, [(52, true)]⟩) (N := 1) (keep := maskOf [0, 7, 10]) (nm := maskOf [10]) (vc := wo_13V N c cp f i) envWo_ok mix (by kernel_rfl) hv rfl rfl (rfl)

noncomputable def wo_14V (N : Nat) (c : Nat → Int) (cp : Option Nat) (f : Nat → Int) (i : Int) : Bool := (decide (i < 17) == false && true && true)
theorem wo_14 (N : Nat) (c : Nat → Int) (cp : Option Nat) (f : Nat → Int) (i : Int) (hv : wo_14V N c cp f i = true) : Tr Try.prog 0 (woB2) (stW 0 0 (tmk (woT2 N c cp i) 0 91) (woG f)) (.exit 2) (stW 0 0 (tmk (woT N c cp) 0 91) (woG f)) :=
  Tr.evW (n := ⟨1000000, [(52, false)]⟩) (N := 1) (keep := maskOf [0, 7]) (nm := maskOf []) (vc := wo_14V N c cp f i) envWo_ok mix (by kernel_rfl) hv rfl rfl (rfl)

noncomputable def wo_16V (N : Nat) (c : Nat → Int) (cp : Option Nat) (f : Nat → Int) : Bool := (decide (0 ≤ (↑N : Int) ∧ (↑N : Int) ≤ (↑N : Int)) && decide ((↑Try.prog.types[24].bytes : Int) * (↑N : Int) ≤ 281474976710656 ∧ (↑N : Int) ≤ 9223372036854775807) && true && true)
theorem wo_16 (N : Nat) (c : Nat → Int) (cp : Option Nat) (f : Nat → Int) (hv : wo_16V N c cp f = true) : Tr Try.prog 0 (cL (cR (cR woX))) (stW 0 0 (tmk (woT N c cp) 0 91) (woG f)) (.normal) (stW 0 0 (tmk ([(0, .fsi .i64 N c cp), (7, .ptr 0 []), (11, outS N 1)]) 0 91) (woG2 N f fun _ => 0)) :=
  Tr.evW (n := ⟨1000000, []⟩) (N := 2) (keep := maskOf [0, 7, 11]) (nm := maskOf []) (vc := wo_16V N c cp f) envWo_ok mix (by kernel_rfl) hv rfl rfl (rfl)

theorem wo_17 (N : Nat) (c : Nat → Int) (cp : Option Nat) (f g : Nat → Int) : Tr Try.prog 0 (cL (cL (cR (cR (cR woX))))) (stW 0 0 (tmk ([(0, .fsi .i64 N c cp), (7, .ptr 0 []), (11, outS N 1)]) 0 91) (woG2 N f g)) (.normal) (stW 0 0 (tmk (woT4 N c cp 0) 0 91) (woG2 N f g)) :=
  Tr.evW (n := ⟨1000000, []⟩) (N := 2) (keep := maskOf [7, 11, 69, 70, 71]) (nm := maskOf [70, 71]) (vc := true) envWo_ok mix (by kernel_rfl) rfl rfl rfl (rfl)

noncomputable def wo_18V (N : Nat) (c : Nat → Int) (cp : Option Nat) (f g : Nat → Int) (i : Int) : Bool := (decide (-9223372036854775808 ≤ i + 1 ∧ i + 1 ≤ 9223372036854775807) && true && (decide (0 ≤ c i.toNat ∧ c i.toNat < (↑17 : Int)) && (decide ((c i.toNat).toNat < 17) && true && (decide (0 ≤ c i.toNat ∧ c i.toNat < (↑17 : Int)) && (decide ((c i.toNat).toNat < 17) && true && true))) && (decide (0 ≤ c i.toNat ∧ c i.toNat < (↑17 : Int)) && (decide ((c i.toNat).toNat < 17) && true && (decide (0 ≤ i ∧ i < (↑N : Int)) && (decide (0 + i.toNat < N) && true && true))) && (decide (c i.toNat > 0) == true && true && (decide (0 ≤ i ∧ i < (↑N : Int)) && true && (decide (i < (↑N : Int)) == true && true && true))))))
theorem wo_18 (N : Nat) (c : Nat → Int) (cp : Option Nat) (f g : Nat → Int) (i : Int) (hv : wo_18V N c cp f g i = true) : Tr Try.prog 0 (woB4) (stW 0 0 (tmk (woT4 N c cp i) 0 91) (woG2 N f g)) (.normal) (stW 0 0 (tmk (woT4 N c cp (i + 1)) 0 91) (woG2 N (up1 f (c i.toNat).toNat (IntKind.u32.wrap (f (c i.toNat).toNat + 1))) (up1 g (0 + i.toNat) (f (c i.toNat).toNat)))) :=
  Tr.evW (n := ⟨1000000, [(72, true), (77, true)]⟩) (N := 2) (keep := maskOf [7, 11, 69, 70, 71]) (nm := maskOf [70, 71]) (vc := wo_18V N c cp f g i) envWo_ok mix (by kernel_rfl) hv rfl rfl (rfl)

noncomputable def wo_19V (N : Nat) (c : Nat → Int) (cp : Option Nat) (f g : Nat → Int) (i : Int) : Bool := (decide (-9223372036854775808 ≤ i + 1 ∧ i + 1 ≤ 9223372036854775807) && true && (decide (c i.toNat > 0) == false && true && (decide (0 ≤ i ∧ i < (↑N : Int)) && true && (decide (i < (↑N : Int)) == true && true && true))))
theorem wo_19 (N : Nat) (c : Nat → Int) (cp : Option Nat) (f g : Nat → Int) (i : Int) (hv : wo_19V N c cp f g i = true) : Tr Try.prog 0 (woB4) (stW 0 0 (tmk (woT4 N c cp i) 0 91) (woG2 N f g)) (.normal) (stW 0 0 (tmk (woT4 N c cp (i + 1)) 0 91) (woG2 N f g)) :=
  Tr.evW (n := ⟨1000000, [(72, true), (77, false)]⟩) (N := 2) (keep := maskOf [7, 11, 69, 70, 71]) (nm := maskOf [70, 71]) (vc := wo_19V N c cp f g i) envWo_ok mix (by kernel_rfl) hv rfl rfl (rfl)

noncomputable def wo_20V (N : Nat) (c : Nat → Int) (cp : Option Nat) (f g : Nat → Int) (i : Int) : Bool := (decide (i < (↑N : Int)) == false && true && true)
theorem wo_20 (N : Nat) (c : Nat → Int) (cp : Option Nat) (f g : Nat → Int) (i : Int) (hv : wo_20V N c cp f g i = true) : Tr Try.prog 0 (woB4) (stW 0 0 (tmk (woT4 N c cp i) 0 91) (woG2 N f g)) (.exit 4) (stW 0 0 (tmk ([(11, outS N 1)]) 0 91) (woG2 N f g)) :=
  Tr.evW (n := ⟨1000000, [(72, false)]⟩) (N := 2) (keep := maskOf [11]) (nm := maskOf []) (vc := wo_20V N c cp f g i) envWo_ok mix (by kernel_rfl) hv rfl rfl (rfl)

theorem wo_24 (N : Nat) (f g : Nat → Int) : Tr Try.prog 0 (cR (cR (cR (cR woX)))) (stW 0 0 (tmk ([(11, outS N 1)]) 0 91) (woG2 N f g)) (.ret) (stW 0 0 (tmk ([(2, outS N 1), (3, .int .i64 0)]) 0 91) (woG2 N f g)) :=
  Tr.evW (n := ⟨1000000, []⟩) (N := 2) (keep := maskOf [2, 3]) (nm := maskOf []) (vc := true) envWo_ok mix (by kernel_rfl) rfl rfl rfl (rfl)

end Go.Proofs.Ytjianphppcappaa

/-! huff.Words: what may not be. No condition. -/
namespace Go.Proofs.Ytjianphppcappaa
open Go.AE
set_option maxRecDepth 100000
noncomputable def envWb : Env := env0.set 39 (lift 0 RoomBadV)
theorem envWb_ok : EnvOK Try.prog envWb := (env0_ok _).set (RoomBad_ok.lift 0)

noncomputable def we_1V (N : Nat) (c : Nat → Int) (cp : Option Nat) : Bool := (decide ((↑N : Int) > 1000) == true && true && ((smI c N == 1) == true && true && (holds (N ≤ 100000 ∧ lenOK N c) && true && true && true)))
theorem we_1 (N : Nat) (c : Nat → Int) (cp : Option Nat) (hv : we_1V N c cp = true) : Tr Try.prog 0 (woC) (stW 0 0 (tmk ([(0, .fsi .i64 N c cp)]) 0 91) ([])) (.ret) (stW 0 0 (tmk ([(2, .nilslice), (3, .int .i64 130)]) 0 91) ([])) :=
  Tr.evW (n := ⟨1000000, [(21, true), (28, true), (35, true)]⟩) (N := 0) (keep := maskOf [2, 3]) (nm := maskOf []) (vc := we_1V N c cp) envWo_ok mix (by kernel_rfl) hv rfl rfl (rfl)

noncomputable def we_2V (N : Nat) (c : Nat → Int) (cp : Option Nat) : Bool := (decide ((↑N : Int) > 1000) == true && true && ((smI c N == 1) == false && true && (holds (N ≤ 100000 ∧ lenOK N c) && true && true && true)))
theorem we_2 (N : Nat) (c : Nat → Int) (cp : Option Nat) (hv : we_2V N c cp = true) : Tr Try.prog 0 (woC) (stW 0 0 (tmk ([(0, .fsi .i64 N c cp)]) 0 91) ([])) (.ret) (stW 0 0 (tmk ([(2, .nilslice), (3, .int .i64 130)]) 0 91) ([])) :=
  Tr.evW (n := ⟨1000000, [(21, false), (28, true), (35, true)]⟩) (N := 0) (keep := maskOf [2, 3]) (nm := maskOf []) (vc := we_2V N c cp) envWo_ok mix (by kernel_rfl) hv rfl rfl (rfl)

noncomputable def we_3V (N : Nat) (c : Nat → Int) (cp : Option Nat) : Bool := (decide ((↑N : Int) > 1000) == false && (((!rmI c N == 32768) == true || false) && ((!rmI c N == 16384) == true && true)) && ((smI c N == 1) == true && true && (holds (N ≤ 100000 ∧ lenOK N c) && true && true && true)))
theorem we_3 (N : Nat) (c : Nat → Int) (cp : Option Nat) (hv : we_3V N c cp = true) : Tr Try.prog 0 (woC) (stW 0 0 (tmk ([(0, .fsi .i64 N c cp)]) 0 91) ([])) (.ret) (stW 0 0 (tmk ([(2, .nilslice), (3, .int .i64 130)]) 0 91) ([])) :=
  Tr.evW (n := ⟨1000000, [(21, true), (28, false), (31, true), (35, true)]⟩) (N := 0) (keep := maskOf [2, 3]) (nm := maskOf []) (vc := we_3V N c cp) envWo_ok mix (by kernel_rfl) hv rfl rfl (rfl)

noncomputable def we_4V (N : Nat) (c : Nat → Int) (cp : Option Nat) : Bool := (decide ((↑N : Int) > 1000) == false && (((!rmI c N == 32768) == true || false) && true) && ((smI c N == 1) == false && true && (holds (N ≤ 100000 ∧ lenOK N c) && true && true && true)))
theorem we_4 (N : Nat) (c : Nat → Int) (cp : Option Nat) (hv : we_4V N c cp = true) : Tr Try.prog 0 (woC) (stW 0 0 (tmk ([(0, .fsi .i64 N c cp)]) 0 91) ([])) (.ret) (stW 0 0 (tmk ([(2, .nilslice), (3, .int .i64 130)]) 0 91) ([])) :=
  Tr.evW (n := ⟨1000000, [(21, false), (28, false), (31, true), (35, true)]⟩) (N := 0) (keep := maskOf [2, 3]) (nm := maskOf []) (vc := we_4V N c cp) envWo_ok mix (by kernel_rfl) hv rfl rfl (rfl)

noncomputable def we_5V (N : Nat) (c : Nat → Int) (cp : Option Nat) : Bool := (decide ((↑N : Int) > 1000) == true && true && (holds (N ≤ 100000 ∧ ∃ i, i < N ∧ (c i < 0 ∨ c i > 15)) && true && true && true))
theorem we_5 (N : Nat) (c : Nat → Int) (cp : Option Nat) (hv : we_5V N c cp = true) : Tr Try.prog 0 (woC) (stW 0 0 (tmk ([(0, .fsi .i64 N c cp)]) 0 91) ([])) (.ret) (stW 0 0 (tmk ([(2, .nilslice), (3, .int .i64 130)]) 0 91) ([])) :=
  Tr.evW (n := ⟨1000000, [(28, true), (35, true)]⟩) (N := 0) (keep := maskOf [2, 3]) (nm := maskOf []) (vc := we_5V N c cp) envWb_ok mix (by kernel_rfl) hv rfl rfl (rfl)

noncomputable def we_6V (N : Nat) (c : Nat → Int) (cp : Option Nat) : Bool := (decide ((↑N : Int) > 1000) == false && true && (holds (N ≤ 100000 ∧ ∃ i, i < N ∧ (c i < 0 ∨ c i > 15)) && true && true && true))
theorem we_6 (N : Nat) (c : Nat → Int) (cp : Option Nat) (hv : we_6V N c cp = true) : Tr Try.prog 0 (woC) (stW 0 0 (tmk ([(0, .fsi .i64 N c cp)]) 0 91) ([])) (.ret) (stW 0 0 (tmk ([(2, .nilslice), (3, .int .i64 130)]) 0 91) ([])) :=
  Tr.evW (n := ⟨1000000, [(28, false)]⟩) (N := 0) (keep := maskOf [2, 3]) (nm := maskOf []) (vc := we_6V N c cp) envWb_ok mix (by kernel_rfl) hv rfl rfl (rfl)

end Go.Proofs.Ytjianphppcappaa

/-! huff.Words by its models. No condition. -/
namespace Go.Proofs.Ytjianphppcappaa
open Go.AE
set_option maxRecDepth 100000
/-- How many of so many lengths are that one. -/
def cntF (c : Nat → Int) : Nat → Nat → Int
  | 0, _ => 0
  | i + 1, m => cntF c i m + if c i = m then 1 else 0
/-- The first word of a length. -/
def stF (c : Nat → Int) (N : Nat) : Nat → Int
  | 0 => 0
  | 1 => 0
  | m + 2 => 2 * (stF c N (m + 1) + cntF c N (m + 1))
/-- The words. -/
def wordF (c : Nat → Int) (N i : Nat) : Int := if c i > 0 then stF c N (c i).toNat + cntF c i (c i).toNat else 0
theorem cntF_bnd (c : Nat → Int) (m : Nat) : ∀ n, 0 ≤ cntF c n m ∧ cntF c n m ≤ n
  | 0 => by simp [cntF]
  | n + 1 => by
    have h := cntF_bnd c m n
    rw [cntF]
    split <;> omega
theorem cntF_mono (c : Nat → Int) (m : Nat) {i n : Nat} (h : i ≤ n) : cntF c i m ≤ cntF c n m := by
  obtain ⟨k, rfl⟩ := Nat.exists_eq_add_of_le h
  induction k with
  | zero => exact Int.le_refl _
  | succ k ih =>
    have := ih (by omega)
    rw [show i + (k + 1) = (i + k) + 1 by omega, cntF]
    split <;> omega
theorem cntF_lt {c : Nat → Int} {m i n : Nat} (h : i < n) (hc : c i = m) : cntF c i m < cntF c n m := by
  have := cntF_mono c m (show i + 1 ≤ n by omega)
  rw [cntF, if_pos hc] at this; omega
/-- The room of those no longer than M. -/
def rmM (c : Nat → Int) (M : Nat) : Nat → Int
  | 0 => 0
  | i + 1 => rmM c M i + if c i > 0 ∧ c i ≤ M then 2 ^ (15 - (c i).toNat) else 0
theorem rmM_succ (c : Nat → Int) (M : Nat) : ∀ n, rmM c (M + 1) n = rmM c M n + cntF c n (M + 1) * 2 ^ (15 - (M + 1))
  | 0 => by simp [rmM, cntF]
  | n + 1 => by
    rw [rmM, rmM, cntF, rmM_succ c M n, Int.add_mul]
    by_cases h1 : c n = ((M + 1 : Nat) : Int)
    · rw [if_pos (by omega), if_neg (by omega), if_pos h1, show (c n).toNat = M + 1 by omega]; omega
    · rw [if_neg h1]
      by_cases h2 : c n > 0 ∧ c n ≤ M
      · rw [if_pos (by omega), if_pos h2]; omega
      · rw [if_neg (by omega), if_neg h2]; omega
theorem rmM_le (c : Nat → Int) (M : Nat) : ∀ n, rmM c M n ≤ rmI c n
  | 0 => Int.le_refl _
  | n + 1 => by
    have h := rmM_le c M n
    have h2 := pow15 (k := 15 - (c n).toNat) (by omega)
    rw [rmM, rmI]
    by_cases h1 : c n > 0
    · rw [if_pos h1]
      split <;> omega
    · rw [if_neg h1, if_neg (by omega)]; omega
theorem rmM_zero (c : Nat → Int) : ∀ n, rmM c 0 n = 0
  | 0 => rfl
  | n + 1 => by rw [rmM, rmM_zero c n, if_neg (by omega)]; rfl
theorem stF_rm (c : Nat → Int) (N : Nat) : ∀ M, M + 1 ≤ 15 → (stF c N (M + 1) + cntF c N (M + 1)) * 2 ^ (15 - (M + 1)) = rmM c (M + 1) N
  | 0, _ => by rw [rmM_succ, rmM_zero, stF]; omega
  | M + 1, h => by
    have ih := stF_rm c N M (by omega)
    rw [rmM_succ, ← ih, stF, Int.add_mul]
    rw [show 15 - (M + 1) = (15 - (M + 1 + 1)) + 1 by omega, Int.pow_succ]
    generalize (2 : Int) ^ (15 - (M + 1 + 1)) = p
    generalize stF c N (M + 1) + cntF c N (M + 1) = q
    rw [show 2 * q * p = q * (p * 2) by rw [Int.mul_comm 2 q, Int.mul_assoc, Int.mul_comm 2 p]]
theorem stF_bnd {c : Nat → Int} {N : Nat} (hr : rmI c N ≤ 32768) {m : Nat} (h1 : 1 ≤ m) (h2 : m ≤ 15) : stF c N m + cntF c N m ≤ 2 ^ m := by
  obtain ⟨M, rfl⟩ := Nat.exists_eq_add_of_le h1
  rw [Nat.add_comm] at *
  have e := stF_rm c N M (by omega)
  have h3 := rmM_le c (M + 1) N
  have hp : (2 : Int) ^ (M + 1) * 2 ^ (15 - (M + 1)) = 32768 := by
    rw [← Int.pow_add, show M + 1 + (15 - (M + 1)) = 15 by omega]; rfl
  have h4 : (stF c N (M + 1) + cntF c N (M + 1)) * 2 ^ (15 - (M + 1)) ≤ 2 ^ (M + 1) * 2 ^ (15 - (M + 1)) := by rw [hp, e]; omega
  exact Int.le_of_mul_le_mul_right h4 (Int.pow_pos (by decide))
theorem stF_pos (c : Nat → Int) (N : Nat) : ∀ m, 0 ≤ stF c N m
  | 0 => Int.le_refl _
  | 1 => Int.le_refl _
  | m + 2 => by
    have h1 := stF_pos c N (m + 1)
    have h2 := cntF_bnd c (m + 1) N
    rw [stF]; omega
/-- The lengths of a code. -/
structure WoIn (N : Nat) (c : Nat → Int) : Prop where
  n : N ≤ 1000
  ok : lenOK N c
  room : rmI c N = 32768 ∨ smI c N = 1 ∧ rmI c N = 16384
theorem rm_sm (c : Nat → Int) : ∀ n, rmI c n ≤ 16384 * smI c n
  | 0 => by simp [rmI, smI]
  | n + 1 => by
    have h := rm_sm c n
    rw [rmI, smI]
    by_cases h1 : c n > 0
    · rw [if_pos h1, if_pos h1]
      have : (2 : Int) ^ (15 - (c n).toNat) ≤ 16384 := by
        have := Nat.pow_le_pow_right (show 2 > 0 by omega) (show 15 - (c n).toNat ≤ 14 by omega)
        exact_mod_cast this
      omega
    · rw [if_neg h1, if_neg h1]; omega
/-- The counts of lengths one less. -/
def nx0 (c : Nat → Int) (i : Nat) (j : Nat) : Int := if 2 ≤ j then cntF c i (j - 1) else 0
/-- Those below that are first words. -/
def nx2 (c : Nat → Int) (N k : Nat) (j : Nat) : Int := if j < k then stF c N j else nx0 c N j
/-- First words and how many there were. -/
def nx4 (c : Nat → Int) (N i : Nat) (j : Nat) : Int := stF c N j + if 1 ≤ j then cntF c i j else 0
def ou4 (c : Nat → Int) (N i : Nat) (j : Nat) : Int := if j < i then wordF c N j else 0
theorem ints_le {k : IntKind} {n : Nat} {f g : Nat → Int} (h : ∀ i, i < n → f i = g i) : (T.ints k n f).size = (T.ints k n g).size ∧ ∀ ρ cs, (R ρ (.ints k n f)).c cs → (R ρ (.ints k n g)).c cs :=
  ⟨rfl, fun ρ cs hc => R_ints_congr h ρ cs hc⟩
theorem up1_eq (f : Nat → Int) (k : Nat) (v : Int) : up1 f k v k = v := by unfold up1; rw [Nat.beq_refl]; rfl
theorem up1_ne {f : Nat → Int} {k j : Nat} {v : Int} (h : j ≠ k) : up1 f k v j = f j := by
  have hb : Nat.beq j k = false := by
    cases hb : Nat.beq j k with
    | false => rfl
    | true => exact absurd (Nat.eq_of_beq_eq_true hb) h
  unfold up1
  rw [hb]; rfl
theorem wrap_u32 {x : Int} (h : 0 ≤ x ∧ x < 4294967296) : IntKind.u32.wrap x = x := by rw [IntKind.wrap_u32]; omega

theorem wo_x {N : Nat} {c : Nat → Int} {cp : Option Nat} (h : WoIn N c) : Tr Try.prog 0 woX (stW 0 0 (tmk (woT N c cp) 0 91) (woG fun _ => 0)) .ret (stW 0 0 (tmk [(2, outS N 0), (3, .int .i64 0)] 0 91) [some (.ints .u32 N (wordF c N))]) := by
  have hr : rmI c N ≤ 32768 := by have := h.room; omega
  have hN := h.n
  rw [woX_eq]
  have L0 : Tr Try.prog 0 (.seq (cL (cL woX)) (.block 0 (.loop woB0))) (stW 0 0 (tmk (woT N c cp) 0 91) (woG fun _ => 0)) .normal (stW 0 0 (tmk (woT N c cp) 0 91) (woG (nx0 c N))) := by
    refine Tr.seq ((wo_6 N c cp (fun _ => 0)).weak (s2 := stW 0 0 (tmk (woT0 N c cp 0) 0 91) (woG (nx0 c 0))) (St.leL (LeL.refl _) ⟨ints_le (g := nx0 c 0) fun j _ => by unfold nx0; split <;> rfl, trivial⟩ fun _ h => absurd h (Nat.not_lt_zero _))) ?_
    refine Tr.iter (n := N) (S := fun i => stW 0 0 (tmk (woT0 N c cp (i : Nat)) 0 91) (woG (nx0 c i))) (fun i hi => ?_) (wo_9 N c cp (nx0 c N) N (by unfold wo_9V; simp))
    obtain ⟨c1, c2⟩ := h.ok i hi
    by_cases hc : c i > 0
    · have e : IntKind.i64.wrap (c i + 1) = c i + 1 := by rw [IntKind.wrap_i64]; omega
      have hs := wo_7 N c cp (nx0 c i) i (by
        unfold wo_7V
        rw [Int.toNat_natCast, e]
        simp only [Bool.and_true, Bool.or_false, Bool.and_eq_true, decide_eq_true_eq, decide_eq_false_iff_not, beq_iff_eq]
        omega)
      rw [Int.toNat_natCast, e] at hs
      refine hs.weak (St.leL (LeL.refl _) ⟨ints_le fun j hj => ?_, trivial⟩ fun _ h => absurd h (Nat.not_lt_zero _))
      have hb := cntF_bnd c (c i).toNat i
      by_cases hj : j = (c i + 1).toNat
      · subst hj
        rw [up1_eq]
        unfold nx0
        rw [if_pos (by omega), if_pos (by omega), show (c i + 1).toNat - 1 = (c i).toNat by omega, cntF, if_pos (by omega), wrap_u32 (by omega)]
      · rw [up1_ne hj]
        unfold nx0
        by_cases h2 : 2 ≤ j
        · rw [if_pos h2, if_pos h2, cntF, if_neg (by omega)]; omega
        · rw [if_neg h2, if_neg h2]
    · have hs := wo_8 N c cp (nx0 c i) i (by
        unfold wo_8V
        rw [Int.toNat_natCast]
        simp only [Bool.and_true, Bool.or_false, Bool.and_eq_true, decide_eq_true_eq, decide_eq_false_iff_not, beq_iff_eq]
        omega)
      refine hs.weak (St.leL (LeL.refl _) ⟨ints_le fun j _ => ?_, trivial⟩ fun _ h => absurd h (Nat.not_lt_zero _))
      unfold nx0
      by_cases h2 : 2 ≤ j
      · rw [if_pos h2, if_pos h2, cntF, if_neg (by omega)]; omega
      · rw [if_neg h2, if_neg h2]
  have L2 : Tr Try.prog 0 (.seq (cL (cL (cR woX))) (.block 2 (.loop woB2))) (stW 0 0 (tmk (woT N c cp) 0 91) (woG (nx0 c N))) .normal (stW 0 0 (tmk (woT N c cp) 0 91) (woG (stF c N))) := by
    refine Tr.seq ((wo_12 N c cp (nx0 c N)).weak (s2 := stW 0 0 (tmk (woT2 N c cp 2) 0 91) (woG (nx2 c N 2))) (St.leL (LeL.refl _) ⟨ints_le (g := nx2 c N 2) fun j _ => by
      unfold nx2
      split
      · rename_i hj
        unfold nx0
        rw [if_neg (by omega)]
        match j, hj with
        | 0, _ => rfl
        | 1, _ => rfl
      · rfl, trivial⟩ fun _ h => absurd h (Nat.not_lt_zero _))) ?_
    refine Tr.iter (n := 15) (S := fun i => stW 0 0 (tmk (woT2 N c cp ((2 + i : Nat) : Int)) 0 91) (woG (nx2 c N (2 + i)))) (fun i hi => ?_) ((wo_14 N c cp (nx2 c N 17) ((2 + 15 : Nat) : Int) (by unfold wo_14V; simp)).weak
      (St.leL (LeL.refl _) ⟨ints_le fun j hj => by unfold nx2; rw [if_pos hj], trivial⟩ fun _ h => absurd h (Nat.not_lt_zero _)))
    have hs := wo_13 N c cp (nx2 c N (2 + i)) ((2 + i : Nat) : Int) (by
      unfold wo_13V
      simp only [Bool.and_true, Bool.or_false, Bool.and_eq_true, decide_eq_true_eq, decide_eq_false_iff_not, beq_iff_eq]
      omega)
    rw [Int.toNat_natCast, show (((2 + i : Nat) : Int) - 1).toNat = i + 1 by omega] at hs
    refine (hs.weak (St.leL (LeL.refl _) ⟨ints_le (g := nx2 c N (2 + (i + 1))) fun j _ => ?_, trivial⟩ fun _ h => absurd h (Nat.not_lt_zero _)))
    have e1 : nx2 c N (2 + i) (2 + i) = cntF c N (i + 1) := by
      unfold nx2 nx0
      rw [if_neg (by omega), if_pos (by omega), show 2 + i - 1 = i + 1 by omega]
    have e2 : nx2 c N (2 + i) (i + 1) = stF c N (i + 1) := by unfold nx2; rw [if_pos (by omega)]
    have hb := stF_bnd (m := i + 1) hr (by omega) (by omega)
    have hp := pow15 (k := i + 1) (by omega)
    have h1 := stF_pos c N (i + 1)
    have h2 := cntF_bnd c (i + 1) N
    by_cases hj : j = 2 + i
    · subst hj
      rw [up1_eq, e1, e2, wrap_u32 (by omega)]
      unfold shlI
      rw [show min (1 : Int).toNat IntKind.u32.bits = 1 by decide, wrap_u32 (by omega)]
      unfold nx2
      rw [if_pos (by omega), show 2 + i = i + 2 by omega, stF]; omega
    · rw [up1_ne hj]
      unfold nx2
      by_cases h5 : j < 2 + i
      · rw [if_pos h5, if_pos (by omega)]
      · rw [if_neg h5, if_neg (by omega)]
  have L4 : Tr Try.prog 0 (.seq (cL (cL (cR (cR (cR woX))))) (.block 4 (.loop woB4))) (stW 0 0 (tmk [(0, .fsi .i64 N c cp), (7, .ptr 0 []), (11, outS N 1)] 0 91) (woG2 N (stF c N) fun _ => 0)) .normal (stW 0 0 (tmk [(11, outS N 1)] 0 91) (woG2 N (nx4 c N N) (wordF c N))) := by
    refine Tr.seq ((wo_17 N c cp (stF c N) fun _ => 0).weak (s2 := stW 0 0 (tmk (woT4 N c cp 0) 0 91) (woG2 N (nx4 c N 0) (ou4 c N 0))) (St.leL (LeL.refl _) ⟨ints_le (g := nx4 c N 0) fun j _ => by unfold nx4; split <;> simp [cntF], ints_le (g := ou4 c N 0) fun j _ => by unfold ou4; rw [if_neg (by omega)], trivial⟩ fun _ h => absurd h (Nat.not_lt_zero _))) ?_
    refine Tr.iter (n := N) (S := fun i => stW 0 0 (tmk (woT4 N c cp (i : Nat)) 0 91) (woG2 N (nx4 c N i) (ou4 c N i))) (fun i hi => ?_) ((wo_20 N c cp (nx4 c N N) (ou4 c N N) N (by unfold wo_20V; simp)).weak
      (St.leL (LeL.refl _) ⟨⟨rfl, fun _ _ h => h⟩, ints_le fun j hj => by unfold ou4; rw [if_pos hj], trivial⟩ fun _ h => absurd h (Nat.not_lt_zero _)))
    obtain ⟨c1, c2⟩ := h.ok i hi
    by_cases hc : c i > 0
    · have hs := wo_18 N c cp (nx4 c N i) (ou4 c N i) i (by
        unfold wo_18V
        rw [Int.toNat_natCast]
        simp only [Bool.and_true, Bool.or_false, Bool.and_eq_true, decide_eq_true_eq, decide_eq_false_iff_not, beq_iff_eq]
        omega)
      rw [Int.toNat_natCast, Nat.zero_add] at hs
      obtain ⟨m, hm⟩ := Int.eq_ofNat_of_zero_le c1
      have hm' : (c i).toNat = m := by omega
      rw [hm'] at hs
      have hb := stF_bnd (m := m) hr (by omega) (by omega)
      have hp := pow15 (k := m) (by omega)
      have h1 := stF_pos c N m
      have h2 := cntF_bnd c m i
      have h3 := cntF_lt hi hm
      have e1 : nx4 c N i m = stF c N m + cntF c i m := by unfold nx4; rw [if_pos (by omega)]
      refine hs.weak (St.leL (LeL.refl _) ⟨ints_le fun j _ => ?_, ints_le fun j _ => ?_, trivial⟩ fun _ h => absurd h (Nat.not_lt_zero _))
      · by_cases hj : j = m
        · subst hj
          rw [up1_eq, e1, wrap_u32 (by omega)]
          unfold nx4
          rw [if_pos (by omega), cntF, if_pos hm]; omega
        · rw [up1_ne hj]
          unfold nx4
          by_cases h5 : 1 ≤ j
          · rw [if_pos h5, if_pos h5, cntF, if_neg (by omega), Int.add_zero]
          · rw [if_neg h5, if_neg h5]
      · by_cases hj : j = i
        · subst hj
          rw [up1_eq, e1]
          unfold ou4 wordF
          rw [if_pos (by omega), if_pos hc, hm']
        · rw [up1_ne hj]
          unfold ou4
          by_cases h5 : j < i
          · rw [if_pos h5, if_pos (by omega)]
          · rw [if_neg h5, if_neg (by omega)]
    · have hs := wo_19 N c cp (nx4 c N i) (ou4 c N i) i (by
        unfold wo_19V
        rw [Int.toNat_natCast]
        simp only [Bool.and_true, Bool.or_false, Bool.and_eq_true, decide_eq_true_eq, decide_eq_false_iff_not, beq_iff_eq]
        omega)
      refine hs.weak (St.leL (LeL.refl _) ⟨ints_le fun j _ => ?_, ints_le fun j _ => ?_, trivial⟩ fun _ h => absurd h (Nat.not_lt_zero _))
      · unfold nx4
        by_cases h5 : 1 ≤ j
        · rw [if_pos h5, if_pos h5, cntF, if_neg (by omega), Int.add_zero]
        · rw [if_neg h5, if_neg h5]
      · unfold ou4
        by_cases hj : j = i
        · subst hj
          rw [if_neg (by omega), if_pos (by omega)]
          unfold wordF
          rw [if_neg hc]
        · by_cases h5 : j < i
          · rw [if_pos h5, if_pos (by omega)]
          · rw [if_neg h5, if_neg (by omega)]
  have hW := Tr.seq L0 (Tr.seq L2 (Tr.seq (wo_16 N c cp (stF c N) (by
    unfold wo_16V
    simp only [Bool.and_true, Bool.or_false, Bool.and_eq_true, decide_eq_true_eq, decide_eq_false_iff_not, beq_iff_eq]
    have hb : Try.prog.types[24].bytes = 4 := by kernel_rfl
    rw [hb]
    omega)) (Tr.seq L4 (wo_24 N (nx4 c N N) (wordF c N)))))
  exact Tr.pick [1] (maskOf [2, 3]) hW (by kernel_rfl) (by kernel_rfl) (by kernel_rfl) trivial (by kernel_rfl) (by kernel_rfl)
theorem wo_all {N : Nat} {c : Nat → Int} {cp : Option Nat} (h : WoIn N c) : Tr Try.prog 0 woC (stW 0 0 ([.fsi .i64 N c cp] ++ undefs 90) []) .ret (stW 0 0 (tmk [(2, outS N 0), (3, .int .i64 0)] 0 91) [some (.ints .u32 N (wordF c N))]) := by
  have hN := h.n
  have hL : holds (N ≤ 100000 ∧ lenOK N c) = true := holds_of ⟨by omega, h.ok⟩
  by_cases h1 : smI c N = 1
  · have hR : rmI c N = 16384 := by
      have := rm_sm c N
      have := h.room
      omega
    refine Tr.preW envWo_ok mix 0 5 (maskOf [0, 7]) (maskOf []) (wo_a N c cp) ?_ rfl (wo_x h)
    unfold wo_aV
    rw [hL, hR, h1, decide_eq_false (show ¬ (N : Int) > 1000 by omega)]; rfl
  · have hR : rmI c N = 32768 := by
      have := h.room
      omega
    refine Tr.preW envWo_ok mix 0 5 (maskOf [0, 7]) (maskOf []) (wo_b N c cp) ?_ rfl (wo_x h)
    unfold wo_bV
    rw [hL, hR, decide_eq_false (show ¬ (N : Int) > 1000 by omega), beq_eq_false_iff_ne.2 h1]; rfl
theorem wo_err {N : Nat} {c : Nat → Int} {cp : Option Nat} (hN : N ≤ 100000) (h : ¬ WoIn N c) : Tr Try.prog 0 woC (stW 0 0 ([.fsi .i64 N c cp] ++ undefs 90) []) .ret (stW 0 0 (tmk [(2, .nilslice), (3, .int .i64 130)] 0 91) []) := by
  by_cases hb : ∃ i, i < N ∧ (c i < 0 ∨ c i > 15)
  · have hL : holds (N ≤ 100000 ∧ ∃ i, i < N ∧ (c i < 0 ∨ c i > 15)) = true := holds_of ⟨hN, hb⟩
    by_cases h1 : (N : Int) > 1000
    · exact we_5 N c cp (by unfold we_5V; rw [hL, decide_eq_true h1]; rfl)
    · exact we_6 N c cp (by unfold we_6V; rw [hL, decide_eq_false h1]; rfl)
  · have hok : lenOK N c := fun i hi => by
      have : ¬ (c i < 0 ∨ c i > 15) := fun h => hb ⟨i, hi, h⟩
      omega
    have hL : holds (N ≤ 100000 ∧ lenOK N c) = true := holds_of ⟨hN, hok⟩
    by_cases h1 : (N : Int) > 1000
    · by_cases h2 : smI c N = 1
      · exact we_1 N c cp (by unfold we_1V; rw [hL, decide_eq_true h1, h2]; rfl)
      · exact we_2 N c cp (by unfold we_2V; rw [hL, decide_eq_true h1, beq_eq_false_iff_ne.2 h2]; rfl)
    · have hr : ¬ (rmI c N = 32768 ∨ smI c N = 1 ∧ rmI c N = 16384) := fun hr => h ⟨by omega, hok, hr⟩
      by_cases h2 : smI c N = 1
      · exact we_3 N c cp (by unfold we_3V; rw [hL, decide_eq_false h1, h2, beq_eq_false_iff_ne.2 (show rmI c N ≠ 32768 by omega), beq_eq_false_iff_ne.2 (show rmI c N ≠ 16384 by omega)]; rfl)
      · exact we_4 N c cp (by unfold we_4V; rw [hL, decide_eq_false h1, beq_eq_false_iff_ne.2 h2, beq_eq_false_iff_ne.2 (show rmI c N ≠ 32768 by omega)]; rfl)
/-- The words of lengths. -/
noncomputable def WordsV : VModel
  | [.fsi .i64 N c _] => some ⟨holds (WoIn N c), lenT N 0, [some (.ints .u32 N (wordF c N))], true⟩
  | _ => none
noncomputable def WordsErrV : VModel
  | [.fsi .i64 N c _] => some ⟨holds (N ≤ 100000 ∧ ¬ WoIn N c), .tup (.cons .nilslice (.cons (.int .i64 130) .nil)), [], true⟩
  | _ => none
theorem Words_ok : SoundV Try.prog 18 WordsV := by
  refine SoundV.of_tr (fn := Try.f18) (c := woC) (by kernel_rfl) (by kernel_rfl) (by kernel_rfl) ?_
  intro args r hr hvc
  unfold WordsV at hr
  split at hr
  · rename_i N c cp
    cases hr
    exact ⟨.ret, _, [outS N 0, .int .i64 0], 0, .inl rfl, wo_all (of_holds hvc), rfl, rfl, rfl, fun _ => rfl⟩
  · cases hr
theorem WordsErr_ok : SoundV Try.prog 18 WordsErrV := by
  refine SoundV.of_tr (fn := Try.f18) (c := woC) (by kernel_rfl) (by kernel_rfl) (by kernel_rfl) ?_
  intro args r hr hvc
  unfold WordsErrV at hr
  split at hr
  · rename_i N c cp
    cases hr
    obtain ⟨h1, h2⟩ := of_holds hvc
    exact ⟨.ret, _, [.nilslice, .int .i64 130], 0, .inl rfl, wo_err h1 h2, rfl, rfl, rfl, fun _ => rfl⟩
  · cases hr
end Go.Proofs.Ytjianphppcappaa

/-! slices.Clone. No condition. -/
namespace Go.Proofs.Ytjianphppcappaa
open Go.AE
set_option maxRecDepth 100000
noncomputable def clC : Code := bodyC Try.f41

noncomputable def cl_1V (N : Nat) (c : Nat → Int) (cp : Option Nat) : Bool := (((0 + N) * Try.prog.types[3].bytes).ble 140737488355328 && (0 + N).ble 9223372036854775807 && true && (decide (0 < N) && true && true && true))
theorem cl_1 (N : Nat) (c : Nat → Int) (cp : Option Nat) (hv : cl_1V N c cp = true) : Tr Try.prog 0 (clC) (stW 0 0 (tmk ([(0, .fsi .i64 N c cp)]) 0 8) ([])) (.ret) (stW 0 0 (tmk ([(2, .slice 1 [] 0 1 (0 + N) none)]) 0 8) ([none, some (.ints .i64 (0 + N) (catF 0 (fun _ => 0) c))])) :=
  Tr.evW (n := ⟨1000000, [(4, false)]⟩) (N := 2) (keep := maskOf [2]) (nm := maskOf []) (vc := cl_1V N c cp) (env0_ok _) mix (by kernel_rfl) hv rfl rfl (rfl)

/-- A copy. -/
noncomputable def CloneV : VModel
  | [.fsi .i64 N c _] => some ⟨decide (0 < N ∧ N ≤ 1099511627776), .slice 0 [] 0 1 N none, [some (.ints .i64 N c)], true⟩
  | _ => none
theorem Clone_ok : SoundV Try.prog 41 CloneV := by
  refine SoundV.of_tr (fn := Try.f41) (c := clC) (by kernel_rfl) (by kernel_rfl) (by kernel_rfl) ?_
  intro args r hr hvc
  unfold CloneV at hr
  split at hr
  · rename_i N c cp
    cases hr
    have h := of_decide_eq_true hvc
    have hb : Try.prog.types[3].bytes = 8 := by kernel_rfl
    have h1 := cl_1 N c cp (by
      unfold cl_1V
      rw [hb]
      simp only [Bool.and_true, Bool.or_false, Bool.and_eq_true, decide_eq_true_eq, Nat.ble_eq]
      omega)
    have h2 := h1.weak (s2 := stW 0 0 (tmk [(2, .slice 1 [] 0 1 N none)] 0 8) [none, some (.ints .i64 N c)]) (by
      rw [Nat.zero_add]
      exact St.leL (LeL.refl _) ⟨ints_le fun j _ => by unfold catF; rfl, trivial⟩ fun _ h => absurd h (Nat.not_lt_zero _))
    have h3 := Tr.pick [1] (maskOf [2]) h2 (tm' := tmk [(2, .slice 0 [] 0 1 N none)] 0 8) (G' := [some (.ints .i64 N c)]) (by kernel_rfl) (by kernel_rfl) (by kernel_rfl) trivial (by kernel_rfl) (by kernel_rfl)
    exact ⟨.ret, _, [.slice 0 [] 0 1 N none], 0, .inl rfl, h3, rfl, rfl, rfl, fun _ => rfl⟩
  · cases hr
end Go.Proofs.Ytjianphppcappaa
