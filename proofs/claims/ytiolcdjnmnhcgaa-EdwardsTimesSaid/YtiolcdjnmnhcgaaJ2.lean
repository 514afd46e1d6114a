/- fardelref01: less and Less by their models. No condition. -/
import Derived.Test.YtiolcdjnmnhcgaaJ1
import Derived.Test.YtiolcdjnmnhcgaaH2
namespace Go.Proofs.Ytiolcdjnmnhcgaa
open Go.AE Fardel
set_option maxRecDepth 100000

theorem ls_one {a c b : Int} (ha : 0 ≤ a ∧ a < 65536) (hc : 0 ≤ c ∧ c < 65536) (hb : b = 0 ∨ b = 1) :
    IntKind.u64.wrap (IntKind.u64.wrap (IntKind.u64.wrap (a + 65536) - c) - b) = a + 65536 - c - b := by
  simp only [IntKind.wrap_u64]
  omega

theorem ls_round {f g : Nat → Int} {b : Int} {i : Nat} (hf : 0 ≤ f i ∧ f i < 65536) (hg : 0 ≤ g i ∧ g i < 65536) (hb : b = 0 ∨ b = 1) :
    ∃ r b' : Nat, (b' = 0 ∨ b' = 1) ∧ (lsN f g b i).tmod 65536 = (r : Int) ∧ r < 65536 ∧ lsB f g b i = (b' : Int) ∧ r + (g i).toNat + b.toNat = (f i).toNat + 65536 * b' := by
  have hn : lsN f g b i = f i + 65536 - g i - b := ls_one hf hg hb
  unfold lsB
  rw [hn]
  have h0 : 0 ≤ f i + 65536 - g i - b := by omega
  have e1 : (f i + 65536 - g i - b).tmod 65536 = (f i + 65536 - g i - b) % 65536 := Int.tmod_eq_emod_of_nonneg h0
  have e2 : (f i + 65536 - g i - b).tdiv 65536 = (f i + 65536 - g i - b) / 65536 := Int.tdiv_eq_ediv_of_nonneg h0
  rw [e1, e2]
  refine ⟨((f i + 65536 - g i - b) % 65536).toNat, (1 - (f i + 65536 - g i - b) / 65536).toNat, by omega, by omega, by omega, ?_, by omega⟩
  simp only [IntKind.wrap_u64]
  omega

theorem ls_inv {f g : Nat → Int} (hf : digs 65536 16 f) (hg : digs 65536 16 g) : ∀ i, i ≤ 16 →
    ((lsS f g i).1 = 0 ∨ (lsS f g i).1 = 1) ∧ digs 65536 i (lsS f g i).2 ∧ natB 65536 (lsS f g i).2 i + natB 65536 g i = natB 65536 f i + (lsS f g i).1.toNat * 65536 ^ i
  | 0, _ => ⟨.inl rfl, fun j hj => by omega, rfl⟩
  | i + 1, h => by
    obtain ⟨h1, h2, h3⟩ := ls_inv hf hg i (by omega)
    obtain ⟨r, b', k1, k2, k3, k4, k5⟩ := ls_round (hf i (by omega)) (hg i (by omega)) h1
    have eo : (lsS f g (i + 1)).2 = upd (lsS f g i).2 i (r : Int) := by show upd _ i _ = _; rw [k2]
    have eb : (lsS f g (i + 1)).1 = (b' : Int) := k4
    rw [eo, eb]
    refine ⟨by omega, fun j hj => ?_, ?_⟩
    · by_cases hji : j = i
      · subst hji; rw [upd_same]; omega
      · rw [upd_ne hji]; exact h2 j (by omega)
    · unfold natB
      rw [natB_upd i (Nat.le_refl _), upd_same, Nat.pow_succ]
      generalize natB 65536 (lsS f g i).2 i = A at *
      generalize natB 65536 g i = G at *
      generalize natB 65536 f i = F at *
      generalize (lsS f g i).1.toNat = b at *
      generalize (65536 : Nat) ^ i = W at *
      have e : W * (r + (g i).toNat + b) = W * ((f i).toNat + 65536 * b') := by rw [k5]
      simp only [Nat.mul_add] at e
      have e3 : b * W = W * b := Nat.mul_comm _ _
      have e4 : ((b' : Int)).toNat * (W * 65536) = W * (65536 * b') := by
        rw [Int.toNat_natCast, Nat.mul_comm, Nat.mul_assoc]
      rw [e4, Int.toNat_natCast]
      omega

theorem less_val {f g : Nat → Int} (hf : digs 65536 16 f) (hg : digs 65536 16 g) (hle : vD g ≤ vD f) : ∀ i, i < 16 → (lsS f g 16).2 i = dgB 65536 (vD f - vD g) i := by
  obtain ⟨h1, h2, h3⟩ := ls_inv hf hg 16 (Nat.le_refl _)
  have hlt := natB_lt 16 h2
  have e : natB 65536 (lsS f g 16).2 16 = vD f - vD g := by
    unfold vD at hle ⊢
    rcases h1 with h | h <;> rw [h] at h3
    · simp at h3; omega
    · simp only [show (1 : Int).toNat = 1 from rfl, Nat.one_mul] at h3; omega
  intro i hi
  rw [dgB_of (by decide) h2 hi, e]

/-- Digits that are told, and whether they are digits for sure. -/
noncomputable def asD : T → Option (Bool × (Nat → Int))
  | .ints .u64 16 f => some (digB f, f)
  | .abs (.nn v) => some (true, dg v)
  | _ => none

theorem asD_v {t : T} {c : Bool} {f : Nat → Int} {ρ ρ' : Rho} {x : Value} (h : asD t = some (c, f)) (hc : c = true) (hx : (R ρ t).v x) : digs 65536 16 f ∧ (R ρ' (D16 f)).v x := by
  unfold asD at h
  split at h
  · cases h
    exact ⟨digB_spec.1 hc, (noPtr_R (t := .ints .u64 16 f) rfl ρ ρ').2.1 _ hx⟩
  · cases h
    exact ⟨dg_digs _, hx⟩
  · cases h

noncomputable def leD (f g : Nat → Int) : Bool := hid (fun (f g : Nat → Int) => decide (vD g ≤ vD f)) f g
theorem leD_iff {f g : Nat → Int} : leD f g = true ↔ vD g ≤ vD f := by unfold leD; rw [hid_eq]; simp
noncomputable def suD (f g : Nat → Int) : Nat → Int := hid (fun (f g : Nat → Int) => dgB 65536 (vD f - vD g)) f g
theorem suD_eq (f g : Nat → Int) : suD f g = dgB 65536 (vD f - vD g) := by unfold suD; rw [hid_eq]

noncomputable def lessM : PModel
  | [a, b] => match asD a, asD b with
    | some (c, f), some (c', g) => some (c && (c' && leD f g), D16 (suD f g))
    | _, _ => none
  | _ => none

theorem lessM0 (f g : Nat → Int) : SoundM Try.prog 77 (pureModel fun args => open Classical in if args = [D16 f, D16 g] then some (true, D16 (lsS f g 16).2) else none) := by
  refine SoundM.of_tr0 (fn := Try.f77) (c := lessC) (by kernel_rfl) (by kernel_rfl) (by kernel_rfl) ?_
  intro args vc v hm hvc
  split at hm
  · rename_i e
    cases hm
    subst e
    exact ⟨rfl, rfl, .ret, _, [D16 (lsS f g 16).2], 4, .inl rfl, ls_tr f g, by kernel_rfl, rfl⟩
  · cases hm

theorem lessM_ok : SoundM Try.prog 77 (pureModel lessM) := by
  refine SoundM.refineX ?_
  intro args vc v hm hvc ρ xs hargs
  unfold lessM at hm
  split at hm
  · rename_i a b
    split at hm
    · rename_i c f c' g h1 h2
      cases hm
      simp only [Bool.and_eq_true] at hvc
      obtain ⟨x, _, rfl, hx, y, _, rfl, hy, rfl⟩ := hargs
      obtain ⟨df, hx'⟩ := asD_v (ρ' := fun _ => none) h1 hvc.1 hx
      obtain ⟨dg', hy'⟩ := asD_v (ρ' := fun _ => none) h2 hvc.2.1 hy
      refine ⟨_, lessM0 f g, [D16 f, D16 g], ⟨_, _, rfl, hx', _, _, rfl, hy', rfl⟩, ⟨true, D16 (lsS f g 16).2, [], 0, 0⟩, ?_, rfl, fun ρ' w hw => ?_⟩
      · simp [pureModel]
      · refine ints_congr (fun i hi => ?_) hw
        rw [suD_eq]
        exact less_val df dg' (leD_iff.1 hvc.2.2) i hi
    · cases hm
  · cases hm

/-! ### Less -/

noncomputable def LsC : Code := bodyC Try.f84
noncomputable def LsL : Code := cB (cB (cR (cL (postC 1 LsC))))
theorem LsC_eq : postC 1 LsC = .seq (.seq (cL (cL (postC 1 LsC))) (.block 0 (.loop LsL))) (cR (postC 1 LsC)) := by kernel_rfl
def LsK : Nat := maskOf [2, 3, 4, 5]
def LsT0 : List T := tmk [(2, .ptr 0 []), (3, .ptr 1 []), (4, .bool false)] 0 24
def LsT (i : Int) : List T := tmk [(2, .ptr 0 []), (3, .ptr 1 []), (4, .bool false), (5, .int .i64 i)] 0 24
def LsT' (b : Bool) : List T := tmk [(4, .bool b)] 0 24
def LsG (f g : Nat → Int) : Heap := [some (D16 f), some (D16 g)]
theorem Ls_pre (f g : Nat → Int) : (evCode Try.prog env0 10 (preC 1 LsC) (stOf ([D16 f, D16 g] ++ undefs 22) [])).map (cutP LsK) = some (.normal, true, LsT0, LsG f g, true) := by kernel_rfl
theorem Ls_ini (f g : Nat → Int) : (evCode Try.prog env0 10 (preC 1 (cL (postC 1 LsC))) (stOf LsT0 (LsG f g))).map (cutP LsK) = some (.normal, true, LsT 15, LsG f g, true) := by kernel_rfl
/-- The round of digit i, where the digits are the same. -/
theorem Ls_eq (f g : Nat → Int) : ∀ i, i < 16 → (f i == g i) = true → Tr Try.prog 0 LsL (stOf (LsT (i : Nat)) (LsG f g)) .normal (stOf (LsT ((i : Nat) - 1 : Int)) (LsG f g))
  | 0, _, h => Tr.ev (n := ⟨1000000, [(16, false)]⟩) (N := 2) (keep := LsK) (vc := (((!(f 0 == g 0)) == false) && true) && true) (env0_ok _) mix (by kernel_rfl) (by rw [h]; rfl) rfl rfl
  | 1, _, h => Tr.ev (n := ⟨1000000, [(16, false)]⟩) (N := 2) (keep := LsK) (vc := (((!(f 1 == g 1)) == false) && true) && true) (env0_ok _) mix (by kernel_rfl) (by rw [h]; rfl) rfl rfl
  | 2, _, h => Tr.ev (n := ⟨1000000, [(16, false)]⟩) (N := 2) (keep := LsK) (vc := (((!(f 2 == g 2)) == false) && true) && true) (env0_ok _) mix (by kernel_rfl) (by rw [h]; rfl) rfl rfl
  | 3, _, h => Tr.ev (n := ⟨1000000, [(16, false)]⟩) (N := 2) (keep := LsK) (vc := (((!(f 3 == g 3)) == false) && true) && true) (env0_ok _) mix (by kernel_rfl) (by rw [h]; rfl) rfl rfl
  | 4, _, h => Tr.ev (n := ⟨1000000, [(16, false)]⟩) (N := 2) (keep := LsK) (vc := (((!(f 4 == g 4)) == false) && true) && true) (env0_ok _) mix (by kernel_rfl) (by rw [h]; rfl) rfl rfl
  | 5, _, h => Tr.ev (n := ⟨1000000, [(16, false)]⟩) (N := 2) (keep := LsK) (vc := (((!(f 5 == g 5)) == false) && true) && true) (env0_ok _) mix (by kernel_rfl) (by rw [h]; rfl) rfl rfl
  | 6, _, h => Tr.ev (n := ⟨1000000, [(16, false)]⟩) (N := 2) (keep := LsK) (vc := (((!(f 6 == g 6)) == false) && true) && true) (env0_ok _) mix (by kernel_rfl) (by rw [h]; rfl) rfl rfl
  | 7, _, h => Tr.ev (n := ⟨1000000, [(16, false)]⟩) (N := 2) (keep := LsK) (vc := (((!(f 7 == g 7)) == false) && true) && true) (env0_ok _) mix (by kernel_rfl) (by rw [h]; rfl) rfl rfl
  | 8, _, h => Tr.ev (n := ⟨1000000, [(16, false)]⟩) (N := 2) (keep := LsK) (vc := (((!(f 8 == g 8)) == false) && true) && true) (env0_ok _) mix (by kernel_rfl) (by rw [h]; rfl) rfl rfl
  | 9, _, h => Tr.ev (n := ⟨1000000, [(16, false)]⟩) (N := 2) (keep := LsK) (vc := (((!(f 9 == g 9)) == false) && true) && true) (env0_ok _) mix (by kernel_rfl) (by rw [h]; rfl) rfl rfl
  | 10, _, h => Tr.ev (n := ⟨1000000, [(16, false)]⟩) (N := 2) (keep := LsK) (vc := (((!(f 10 == g 10)) == false) && true) && true) (env0_ok _) mix (by kernel_rfl) (by rw [h]; rfl) rfl rfl
  | 11, _, h => Tr.ev (n := ⟨1000000, [(16, false)]⟩) (N := 2) (keep := LsK) (vc := (((!(f 11 == g 11)) == false) && true) && true) (env0_ok _) mix (by kernel_rfl) (by rw [h]; rfl) rfl rfl
  | 12, _, h => Tr.ev (n := ⟨1000000, [(16, false)]⟩) (N := 2) (keep := LsK) (vc := (((!(f 12 == g 12)) == false) && true) && true) (env0_ok _) mix (by kernel_rfl) (by rw [h]; rfl) rfl rfl
  | 13, _, h => Tr.ev (n := ⟨1000000, [(16, false)]⟩) (N := 2) (keep := LsK) (vc := (((!(f 13 == g 13)) == false) && true) && true) (env0_ok _) mix (by kernel_rfl) (by rw [h]; rfl) rfl rfl
  | 14, _, h => Tr.ev (n := ⟨1000000, [(16, false)]⟩) (N := 2) (keep := LsK) (vc := (((!(f 14 == g 14)) == false) && true) && true) (env0_ok _) mix (by kernel_rfl) (by rw [h]; rfl) rfl rfl
  | 15, _, h => Tr.ev (n := ⟨1000000, [(16, false)]⟩) (N := 2) (keep := LsK) (vc := (((!(f 15 == g 15)) == false) && true) && true) (env0_ok _) mix (by kernel_rfl) (by rw [h]; rfl) rfl rfl
  | k + 16, h, _ => absurd h (by omega)
/-- The round of digit i, where they are not. -/
theorem Ls_ne (f g : Nat → Int) : ∀ i, i < 16 → (f i == g i) = false → Tr Try.prog 0 LsL (stOf (LsT (i : Nat)) (LsG f g)) .ret (stOf (LsT' (decide (f i < g i))) (LsG f g))
  | 0, _, h => Tr.ev (n := ⟨1000000, [(16, true)]⟩) (N := 2) (keep := maskOf [4]) (vc := (((!(f 0 == g 0)) == true) && true) && true) (env0_ok _) mix (by kernel_rfl) (by rw [h]; rfl) rfl rfl
  | 1, _, h => Tr.ev (n := ⟨1000000, [(16, true)]⟩) (N := 2) (keep := maskOf [4]) (vc := (((!(f 1 == g 1)) == true) && true) && true) (env0_ok _) mix (by kernel_rfl) (by rw [h]; rfl) rfl rfl
  | 2, _, h => Tr.ev (n := ⟨1000000, [(16, true)]⟩) (N := 2) (keep := maskOf [4]) (vc := (((!(f 2 == g 2)) == true) && true) && true) (env0_ok _) mix (by kernel_rfl) (by rw [h]; rfl) rfl rfl
  | 3, _, h => Tr.ev (n := ⟨1000000, [(16, true)]⟩) (N := 2) (keep := maskOf [4]) (vc := (((!(f 3 == g 3)) == true) && true) && true) (env0_ok _) mix (by kernel_rfl) (by rw [h]; rfl) rfl rfl
  | 4, _, h => Tr.ev (n := ⟨1000000, [(16, true)]⟩) (N := 2) (keep := maskOf [4]) (vc := (((!(f 4 == g 4)) == true) && true) && true) (env0_ok _) mix (by kernel_rfl) (by rw [h]; rfl) rfl rfl
  | 5, _, h => Tr.ev (n := ⟨1000000, [(16, true)]⟩) (N := 2) (keep := maskOf [4]) (vc := (((!(f 5 == g 5)) == true) && true) && true) (env0_ok _) mix (by kernel_rfl) (by rw [h]; rfl) rfl rfl
  | 6, _, h => Tr.ev (n := ⟨1000000, [(16, true)]⟩) (N := 2) (keep := maskOf [4]) (vc := (((!(f 6 == g 6)) == true) && true) && true) (env0_ok _) mix (by kernel_rfl) (by rw [h]; rfl) rfl rfl
  | 7, _, h => Tr.ev (n := ⟨1000000, [(16, true)]⟩) (N := 2) (keep := maskOf [4]) (vc := (((!(f 7 == g 7)) == true) && true) && true) (env0_ok _) mix (by kernel_rfl) (by rw [h]; rfl) rfl rfl
  | 8, _, h => Tr.ev (n := ⟨1000000, [(16, true)]⟩) (N := 2) (keep := maskOf [4]) (vc := (((!(f 8 == g 8)) == true) && true) && true) (env0_ok _) mix (by kernel_rfl) (by rw [h]; rfl) rfl rfl
  | 9, _, h => Tr.ev (n := ⟨1000000, [(16, true)]⟩) (N := 2) (keep := maskOf [4]) (vc := (((!(f 9 == g 9)) == true) && true) && true) (env0_ok _) mix (by kernel_rfl) (by rw [h]; rfl) rfl rfl
  | 10, _, h => Tr.ev (n := ⟨1000000, [(16, true)]⟩) (N := 2) (keep := maskOf [4]) (vc := (((!(f 10 == g 10)) == true) && true) && true) (env0_ok _) mix (by kernel_rfl) (by rw [h]; rfl) rfl rfl
  | 11, _, h => Tr.ev (n := ⟨1000000, [(16, true)]⟩) (N := 2) (keep := maskOf [4]) (vc := (((!(f 11 == g 11)) == true) && true) && true) (env0_ok _) mix (by kernel_rfl) (by rw [h]; rfl) rfl rfl
  | 12, _, h => Tr.ev (n := ⟨1000000, [(16, true)]⟩) (N := 2) (keep := maskOf [4]) (vc := (((!(f 12 == g 12)) == true) && true) && true) (env0_ok _) mix (by kernel_rfl) (by rw [h]; rfl) rfl rfl
  | 13, _, h => Tr.ev (n := ⟨1000000, [(16, true)]⟩) (N := 2) (keep := maskOf [4]) (vc := (((!(f 13 == g 13)) == true) && true) && true) (env0_ok _) mix (by kernel_rfl) (by rw [h]; rfl) rfl rfl
  | 14, _, h => Tr.ev (n := ⟨1000000, [(16, true)]⟩) (N := 2) (keep := maskOf [4]) (vc := (((!(f 14 == g 14)) == true) && true) && true) (env0_ok _) mix (by kernel_rfl) (by rw [h]; rfl) rfl rfl
  | 15, _, h => Tr.ev (n := ⟨1000000, [(16, true)]⟩) (N := 2) (keep := maskOf [4]) (vc := (((!(f 15 == g 15)) == true) && true) && true) (env0_ok _) mix (by kernel_rfl) (by rw [h]; rfl) rfl rfl
  | k + 16, h, _ => absurd h (by omega)
theorem Ls_end (f g : Nat → Int) : Tr Try.prog 0 LsL (stOf (LsT (-1)) (LsG f g)) (.exit 0) (stOf (LsT (-1)) (LsG f g)) :=
  Tr.ev (n := 10) (N := 2) (keep := LsK) (vc := true) (env0_ok _) mix (by kernel_rfl) rfl rfl rfl
theorem Ls_post (f g : Nat → Int) : Tr Try.prog 0 (cR (postC 1 LsC)) (stOf (LsT (-1)) (LsG f g)) .ret (stOf (LsT' false) (LsG f g)) :=
  Tr.ev (n := 10) (N := 2) (keep := maskOf [4]) (vc := true) (env0_ok _) mix (by kernel_rfl) rfl rfl rfl

/-- The first of the i digits from the highest that differ tells. -/
def ltN (f g : Nat → Int) : Nat → Bool
  | 0 => false
  | i + 1 => bif f i == g i then ltN f g i else decide (f i < g i)
def allE (f g : Nat → Int) : Nat → Bool
  | 0 => true
  | i + 1 => (f i == g i) && allE f g i

theorem Ls_loop (f g : Nat → Int) : ∀ i, i ≤ 16 → (allE f g i = true ∧ ltN f g i = false ∧ TrN Try.prog 0 LsL (i + 1) (stOf (LsT ((i : Nat) - 1 : Int)) (LsG f g)) (.exit 0) (stOf (LsT (-1)) (LsG f g))) ∨
    TrN Try.prog 0 LsL (i + 1) (stOf (LsT ((i : Nat) - 1 : Int)) (LsG f g)) .ret (stOf (LsT' (ltN f g i)) (LsG f g))
  | 0, _ => .inl ⟨rfl, rfl, TrN.done (Ls_end f g) (by intro h; cases h)⟩
  | i + 1, h => by
    have e : (((i + 1 : Nat) : Int) - 1) = (i : Nat) := by omega
    rw [e]
    cases hb : (f i == g i) with
    | false =>
      right
      have e2 : ltN f g (i + 1) = decide (f i < g i) := by unfold ltN; rw [hb]; rfl
      rw [e2]
      exact TrN.done (Ls_ne f g i (by omega) hb) (by intro h; cases h)
    | true =>
      have e2 : ltN f g (i + 1) = ltN f g i := by show (bif f i == g i then _ else _) = _; rw [hb]; rfl
      have e3 : allE f g (i + 1) = allE f g i := by show ((f i == g i) && _) = _; rw [hb]; rfl
      rw [e2, e3]
      rcases Ls_loop f g i (by omega) with ⟨h1, h2, h3⟩ | h3
      · exact .inl ⟨h1, h2, TrN.next (Ls_eq f g i (by omega) hb) h3⟩
      · exact .inr (TrN.next (Ls_eq f g i (by omega) hb) h3)

theorem Ls_tr (f g : Nat → Int) : Tr Try.prog 0 LsC (stOf ([D16 f, D16 g] ++ undefs 22) []) .ret (stOf (LsT' (ltN f g 16)) (LsG f g)) := by
  refine Tr.pre (env0_ok _) mix 1 LsK (Ls_pre f g) rfl ?_
  rw [LsC_eq]
  rcases Ls_loop f g 16 (Nat.le_refl _) with ⟨_, h2, h3⟩ | h3
  · rw [h2]
    refine Tr.seq (s1 := stOf (LsT (-1)) (LsG f g)) ?_ (Ls_post f g)
    exact Tr.pre (env0_ok _) mix 1 LsK (Ls_ini f g) rfl (Tr.blockX (Tr.loop h3))
  · refine Tr.seqX ?_ (by intro h; cases h)
    exact Tr.pre (env0_ok _) mix 1 LsK (Ls_ini f g) rfl (Tr.block (Tr.loop h3) (by intro i h; cases h))

theorem ltN_val {f g : Nat → Int} : ∀ i, digs 65536 i f → digs 65536 i g → ltN f g i = decide (natB 65536 f i < natB 65536 g i)
  | 0, _, _ => by simp [ltN, natB]
  | i + 1, hf, hg => by
    have ih := ltN_val i (fun j hj => hf j (by omega)) (fun j hj => hg j (by omega))
    have lf := natB_lt (B := 65536) i (fun j hj => hf j (by omega))
    have lg := natB_lt (B := 65536) i (fun j hj => hg j (by omega))
    have hi := hf i (by omega)
    have hi' := hg i (by omega)
    unfold ltN natB
    rw [ih]
    cases hb : (f i == g i) with
    | true =>
      have : f i = g i := by simpa using hb
      rw [this, cond_true, Bool.eq_iff_iff, decide_eq_true_eq, decide_eq_true_eq]
      omega
    | false =>
      have : f i ≠ g i := by simpa using hb
      rw [cond_false, Bool.eq_iff_iff, decide_eq_true_eq, decide_eq_true_eq]
      generalize natB 65536 f i = A at *
      generalize natB 65536 g i = C at *
      generalize (65536 : Nat) ^ i = W at *
      obtain ⟨a, ha⟩ := Int.eq_ofNat_of_zero_le hi.1
      obtain ⟨b, hb⟩ := Int.eq_ofNat_of_zero_le hi'.1
      rw [ha, hb, Int.toNat_natCast, Int.toNat_natCast]
      constructor
      · intro h
        have h1 : W * (a + 1) ≤ W * b := Nat.mul_le_mul_left _ (by omega)
        rw [Nat.mul_add] at h1
        omega
      · intro h
        rcases Nat.lt_or_ge a b with h1 | h1
        · omega
        · exfalso
          have h3 : a ≠ b := fun e => this (by rw [ha, hb, e])
          have h2 : W * (b + 1) ≤ W * a := Nat.mul_le_mul_left _ (by omega)
          rw [Nat.mul_add] at h2
          omega

noncomputable def ltD (f g : Nat → Int) : Bool := hid (fun (f g : Nat → Int) => decide (vD f < vD g)) f g
theorem ltD_eq (f g : Nat → Int) : ltD f g = decide (vD f < vD g) := by unfold ltD; rw [hid_eq]
noncomputable def LessM : PModel
  | [a, b] => match asD a, asD b with
    | some (c, f), some (c', g) => some (c && c', .bool (ltD f g))
    | _, _ => none
  | _ => none

theorem LessM0 (f g : Nat → Int) : SoundM Try.prog 84 (pureModel fun args => open Classical in if args = [D16 f, D16 g] then some (true, .bool (ltN f g 16)) else none) := by
  refine SoundM.of_tr0 (fn := Try.f84) (c := LsC) (by kernel_rfl) (by kernel_rfl) (by kernel_rfl) ?_
  intro args vc v hm hvc
  split at hm
  · rename_i e
    cases hm
    subst e
    exact ⟨rfl, rfl, .ret, _, [.bool (ltN f g 16)], 0, .inl rfl, Ls_tr f g, by kernel_rfl, rfl⟩
  · cases hm

theorem LessM_ok : SoundM Try.prog 84 (pureModel LessM) := by
  refine SoundM.refineX ?_
  intro args vc v hm hvc ρ xs hargs
  unfold LessM at hm
  split at hm
  · rename_i a b
    split at hm
    · rename_i c f c' g h1 h2
      cases hm
      simp only [Bool.and_eq_true] at hvc
      obtain ⟨x, _, rfl, hx, y, _, rfl, hy, rfl⟩ := hargs
      obtain ⟨df, hx'⟩ := asD_v (ρ' := fun _ => none) h1 hvc.1 hx
      obtain ⟨dg', hy'⟩ := asD_v (ρ' := fun _ => none) h2 hvc.2 hy
      refine ⟨_, LessM0 f g, [D16 f, D16 g], ⟨_, _, rfl, hx', _, _, rfl, hy', rfl⟩, ⟨true, .bool (ltN f g 16), [], 0, 0⟩, ?_, rfl, fun ρ' w hw => ?_⟩
      · simp [pureModel]
      · rw [ltN_val 16 df dg'] at hw
        rw [ltD_eq]
        exact hw
    · cases hm
  · cases hm

end Go.Proofs.Ytiolcdjnmnhcgaa
