/- fardelref01.Power by its model. No condition. -/
import Derived.Test.YtiolcdjnmnhcgaaJ7
namespace Go.Proofs.Ytiolcdjnmnhcgaa
open Go.AE Fardel
set_option maxRecDepth 100000

noncomputable def pwC : Code := bodyC Try.f80
noncomputable def pwX : Code := postC 2 pwC
noncomputable def pwB : Code := cB (cB (cR (cL pwX)))
theorem pwX_eq : postC 2 pwC = .seq (.seq (cL (cL pwX)) (.block 0 (.loop pwB))) (cR pwX) := by kernel_rfl
def pwK : Nat := maskOf [2, 3, 4, 5, 6]
def pwT0 : List T := tmk [(2, .ptr 0 []), (3, .ptr 1 []), (4, .ptr 2 []), (5, .ptr 3 [])] 0 29
def pwT (i : Int) : List T := tmk [(2, .ptr 0 []), (3, .ptr 1 []), (4, .ptr 2 []), (5, .ptr 3 []), (6, .int .i64 i)] 0 29
def pwG (a : F) (e : Nat → Int) (o : F) : Heap := [some (nnA a), some (D16 e), some z16, some (nnA o)]
def pwV (e : Nat → Int) (i : Int) : Bool := bits BinOp.and IntKind.u64 (shrI IntKind.u64 (e (IntKind.i64.wrap (i.tdiv 16)).toNat) (IntKind.u64.wrap (i.tmod 16))) 1 == 1
def pwVC (e : Nat → Int) (i : Int) (b : Bool) : Bool :=
  (decide (0 ≤ IntKind.i64.wrap (i.tdiv 16) ∧ IntKind.i64.wrap (i.tdiv 16) < 16) && ((decide ((IntKind.i64.wrap (i.tdiv 16)).toNat < 16) && true) && (decide (0 ≤ IntKind.u64.wrap (i.tmod 16)) && ((pwV e i == b) && true)))) && (((decide (i ≥ 0) == true) && true) && true)

theorem pw_pre (a : F) (e : Nat → Int) : (evCode Try.prog envR2 40 (preC 2 pwC) (stOf ([nnA a, D16 e] ++ undefs 27) [])).map (cutP pwK) = some (.normal, true, pwT0, pwG a e (nof 1), true) := by kernel_rfl
theorem pw_ini (a : F) (e : Nat → Int) (o : F) : (evCode Try.prog envR2 40 (preC 1 (cL pwX)) (stOf pwT0 (pwG a e o))).map (cutP pwK) = some (.normal, true, pwT 255, pwG a e o, true) := by kernel_rfl
theorem pw_one (a : F) (e : Nat → Int) (o : F) (i : Int) (h : pwVC e i true = true) : Tr Try.prog 0 pwB (stOf (pwT i) (pwG a e o)) .normal (stOf (pwT (IntKind.i64.wrap (i - 1))) (pwG a e (fmul (fmul o o) a))) :=
  Tr.ev (n := ⟨1000000, [(9, true), (24, true)]⟩) (N := 4) (keep := pwK) (vc := pwVC e i true) envR2_ok mix (by kernel_rfl) h rfl rfl
theorem pw_nil (a : F) (e : Nat → Int) (o : F) (i : Int) (h : pwVC e i false = true) : Tr Try.prog 0 pwB (stOf (pwT i) (pwG a e o)) .normal (stOf (pwT (IntKind.i64.wrap (i - 1))) (pwG a e (fmul o o))) :=
  Tr.ev (n := ⟨1000000, [(9, true), (24, false)]⟩) (N := 4) (keep := pwK) (vc := pwVC e i false) envR2_ok mix (by kernel_rfl) h rfl rfl
theorem pw_end (a : F) (e : Nat → Int) (o : F) : Tr Try.prog 0 pwB (stOf (pwT (-1)) (pwG a e o)) (.exit 0) (stOf (pwT (-1)) (pwG a e o)) :=
  Tr.ev (n := 40) (N := 4) (keep := pwK) (vc := true) envR2_ok mix (by kernel_rfl) rfl rfl rfl
def pwG9 (a : F) (e : Nat → Int) (o : F) : Heap := [some (nnA a), some (D16 e), some (nnA o), some (nnA o)]
theorem pw_post (a : F) (e : Nat → Int) (o : F) : Tr Try.prog 0 (cR pwX) (stOf (pwT (-1)) (pwG a e o)) .ret (stOf (pwT (-1)) (pwG9 a e o)) :=
  Tr.ev (n := 40) (N := 4) (keep := pwK) (vc := true) envR2_ok mix (by kernel_rfl) rfl rfl rfl

/-! ### Its law -/

theorem and1_u64 (a : Nat) (h : a < 65536) : bits .and .u64 (a : Int) 1 = ((a % 2 : Nat) : Int) := by
  have h := bits_mask .u64 64 (by decide) (fun n h0 h1 => by rw [IntKind.wrap_u64]; omega) 1 (by decide) (a : Int) (by omega) (by omega)
  rw [show ((2 : Int) ^ 1 - 1) = 1 by decide] at h
  rw [h]
  omega

theorem digit_bit (N a b : Nat) (hb : b < 16) : N / 65536 ^ a % 65536 / 2 ^ b % 2 = N / 2 ^ (16 * a + b) % 2 := by
  have e : (65536 : Nat) = 2 ^ b * 2 ^ (16 - b) := by rw [← Nat.pow_add]; rw [show b + (16 - b) = 16 by omega]
  have e2 : (2 : Nat) ∣ 2 ^ (16 - b) := ⟨2 ^ (15 - b), by rw [← Nat.pow_succ', show (15 - b).succ = 16 - b by omega]⟩
  have h1 : N / 65536 ^ a % 65536 / 2 ^ b = N / 65536 ^ a / 2 ^ b % 2 ^ (16 - b) := by
    conv => lhs; rw [show N / 65536 ^ a % 65536 = N / 65536 ^ a % (2 ^ b * 2 ^ (16 - b)) by rw [← e]]
    rw [Nat.mod_mul_right_div_self]
  rw [h1, Nat.mod_mod_of_dvd _ e2, Nat.div_div_eq_div_mul]
  rw [show (65536 : Nat) = 2 ^ 16 from rfl, ← Nat.pow_mul, ← Nat.pow_add]

def pwBit (e : Nat → Int) (k : Nat) : Bool := decide (vD e / 2 ^ k % 2 = 1)

theorem pwVC_eq {e : Nat → Int} (he : digs 65536 16 e) (k : Nat) (hk : k < 256) : pwVC e (k : Nat) (pwBit e k) = true := by
  have e1 : IntKind.i64.wrap ((k : Int).tdiv 16) = ((k / 16 : Nat) : Int) := by
    rw [Int.tdiv_eq_ediv_of_nonneg (by omega), IntKind.wrap_i64]; omega
  have e2 : IntKind.u64.wrap ((k : Int).tmod 16) = ((k % 16 : Nat) : Int) := by
    rw [Int.tmod_eq_emod_of_nonneg (by omega), IntKind.wrap_u64]; omega
  have hv : pwV e (k : Nat) = pwBit e k := by
    unfold pwV pwBit
    rw [e1, e2, Int.toNat_natCast, shrI_u64 _ _ (by omega)]
    rw [dgB_of (by decide) he (i := k / 16) (by omega)]
    unfold dgB
    rw [show (2 : Int) ^ (k % 16) = ((2 ^ (k % 16) : Nat) : Int) by simp, ← Int.natCast_ediv]
    have hlt : natB 65536 e 16 / 65536 ^ (k / 16) % 65536 / 2 ^ (k % 16) < 65536 := Nat.lt_of_le_of_lt (Nat.div_le_self _ _) (Nat.mod_lt _ (by decide))
    rw [and1_u64 _ hlt, digit_bit _ _ _ (Nat.mod_lt _ (by decide)), Nat.div_add_mod]
    rw [Bool.eq_iff_iff, beq_iff_eq, decide_eq_true_eq]
    unfold vD
    omega
  unfold pwVC
  rw [hv, e1, e2]
  have h1 : (0 : Int) ≤ ((k / 16 : Nat) : Int) ∧ ((k / 16 : Nat) : Int) < 16 := by omega
  have h2 : (((k / 16 : Nat) : Int)).toNat < 16 := by omega
  have h3 : (0 : Int) ≤ ((k % 16 : Nat) : Int) := by omega
  have h4 : ((k : Int) ≥ 0) := by omega
  simp only [h1, h2, h3, h4, and_self, decide_true, Bool.and_true, beq_self_eq_true]

noncomputable def pwN (a : F) (e : Nat → Int) : Nat → F
  | 0 => nof 1
  | k + 1 => bif pwBit e (255 - k) then fmul (fmul (pwN a e k) (pwN a e k)) a else fmul (pwN a e k) (pwN a e k)

theorem pw_step (a : F) {e : Nat → Int} (he : digs 65536 16 e) (k : Nat) (hk : k < 256) : Tr Try.prog 0 pwB (stOf (pwT ((255 - k : Nat) : Int)) (pwG a e (pwN a e k))) .normal (stOf (pwT ((255 - k : Nat) - 1 : Int)) (pwG a e (pwN a e (k + 1)))) := by
  have hv := pwVC_eq he (255 - k) (by omega)
  have e1 : IntKind.i64.wrap (((255 - k : Nat) : Int) - 1) = ((255 - k : Nat) : Int) - 1 := by rw [IntKind.wrap_i64]; omega
  cases hb : pwBit e (255 - k) with
  | true =>
    rw [hb] at hv
    have := pw_one a e (pwN a e k) _ hv
    have e2 : pwN a e (k + 1) = fmul (fmul (pwN a e k) (pwN a e k)) a := by show (bif _ then _ else _) = _; rw [hb]; rfl
    rw [e1] at this
    rw [e2]
    exact this
  | false =>
    rw [hb] at hv
    have := pw_nil a e (pwN a e k) _ hv
    have e2 : pwN a e (k + 1) = fmul (pwN a e k) (pwN a e k) := by show (bif _ then _ else _) = _; rw [hb]; rfl
    rw [e1] at this
    rw [e2]
    exact this

theorem pw_loop (a : F) {e : Nat → Int} (he : digs 65536 16 e) : ∀ m, m ≤ 256 →
    TrN Try.prog 0 pwB (m + 1) (stOf (pwT ((m : Nat) - 1 : Int)) (pwG a e (pwN a e (256 - m)))) (.exit 0) (stOf (pwT (-1)) (pwG a e (pwN a e 256)))
  | 0, _ => TrN.done (pw_end a e _) (by intro h; cases h)
  | m + 1, h => by
    have hs := pw_step a he (256 - (m + 1)) (by omega)
    have e1 : (255 - (256 - (m + 1)) : Nat) = m := by omega
    rw [e1, show 256 - (m + 1) + 1 = 256 - m by omega] at hs
    have e2 : ((m + 1 : Nat) : Int) - 1 = (m : Nat) := by omega
    rw [e2]
    exact TrN.next hs (pw_loop a he m (by omega))

theorem pw_tr (a : F) {e : Nat → Int} (he : digs 65536 16 e) : Tr Try.prog 0 pwC (stOf ([nnA a, D16 e] ++ undefs 27) []) .ret (stOf (pwT (-1)) (pwG9 a e (pwN a e 256))) := by
  refine Tr.pre envR2_ok mix 2 pwK (pw_pre a e) rfl ?_
  rw [pwX_eq]
  refine Tr.seq (s1 := stOf (pwT (-1)) (pwG a e (pwN a e 256))) ?_ (pw_post a e _)
  refine Tr.pre envR2_ok mix 1 pwK (pw_ini a e _) rfl ?_
  exact Tr.blockX (Tr.loop (pw_loop a he 256 (Nat.le_refl _)))

theorem pwN_val (a : F) {e : Nat → Int} (he : digs 65536 16 e) : ∀ k, k ≤ 256 → pwN a e k = a ^ (vD e / 2 ^ (256 - k))
  | 0, _ => by
    have h : vD e < 2 ^ 256 := by
      have := natB_lt 16 he
      rw [show (65536 : Nat) ^ 16 = 2 ^ 256 from by rw [show (65536 : Nat) = 2 ^ 16 from rfl, ← Nat.pow_mul]] at this
      exact this
    rw [Nat.sub_zero, Nat.div_eq_of_lt h]
    show nof 1 = _
    rw [nof_eq]
    rfl
  | k + 1, h => by
    have ih := pwN_val a he k (by omega)
    have e1 : 256 - k = 255 - k + 1 := by omega
    have e2 : 256 - (k + 1) = 255 - k := by omega
    rw [e2]
    rw [e1, Nat.pow_succ, ← Nat.div_div_eq_div_mul] at ih
    have hb : pwBit e (255 - k) = decide (vD e / 2 ^ (255 - k) % 2 = 1) := rfl
    show (bif pwBit e (255 - k) then fmul (fmul (pwN a e k) (pwN a e k)) a else fmul (pwN a e k) (pwN a e k)) = _
    rw [hb, ih]
    generalize vD e / 2 ^ (255 - k) = m
    simp only [fmul_eq]
    rcases Nat.mod_two_eq_zero_or_one m with hm | hm
    · rw [hm]
      show a ^ (m / 2) * a ^ (m / 2) = _
      rw [fpow_add (a := m / 2) (b := m / 2) (c := m) (by omega)]
    · rw [hm]
      show a ^ (m / 2) * a ^ (m / 2) * a = _
      have h1 := fpow_add (a := m / 2 + m / 2) (b := 1) (c := m) (by omega) a
      rw [← fpow_one] at h1
      rw [fpow_add (a := m / 2) (b := m / 2) rfl]
      exact h1

noncomputable def pw (a : F) (e : Nat → Int) : F := hid (fun (a : F) (e : Nat → Int) => a ^ vD e) a e
theorem pw_eq (a : F) (e : Nat → Int) : pw a e = a ^ vD e := by unfold pw; rw [hid_eq]

noncomputable def PowerM : PModel
  | [.abs (.nn a), t] => match asD t with
    | some (c, e) => some (c, nnA (pw a e))
    | none => none
  | _ => none

theorem Power_ok : SoundM Try.prog 80 (pureModel PowerM) := by
  refine SoundM.refineX ?_
  intro args vc v hm hvc ρ xs hargs
  unfold PowerM at hm
  split at hm
  · rename_i a t
    split at hm
    · rename_i c e h1
      cases hm
      obtain ⟨x, _, rfl, hx, y, _, rfl, hy, rfl⟩ := hargs
      obtain ⟨he, hy'⟩ := asD_v (ρ' := fun _ => none) h1 hvc hy
      refine ⟨pureModel (fun args => open Classical in if args = [nnA a, D16 e] then some (true, nnA (pwN a e 256)) else none), ?_, [nnA a, D16 e],
        ⟨_, _, rfl, (noPtr_R (t := nnA a) rfl ρ _).2.1 _ hx, _, _, rfl, hy', rfl⟩, ⟨true, nnA (pwN a e 256), [], 0, 0⟩, by simp [pureModel], rfl, fun ρ' w hw => ?_⟩
      · refine SoundM.of_tr0 (fn := Try.f80) (c := pwC) (by kernel_rfl) (by kernel_rfl) (by kernel_rfl) ?_
        intro args vc v hm hvc
        split at hm
        · rename_i e
          cases hm
          subst e
          exact ⟨rfl, rfl, .ret, _, [nnA (pwN a _ 256)], 4, .inl rfl, pw_tr a he, by kernel_rfl, rfl⟩
        · cases hm
      · rw [pwN_val a he 256 (Nat.le_refl _)] at hw
        rw [pw_eq]
        simp only [Nat.sub_self, Nat.pow_zero, Nat.div_one] at hw
        exact (noPtr_R (t := nnA _) rfl ρ' ρ).2.1 _ hw
    · cases hm
  · cases hm

end Go.Proofs.Ytiolcdjnmnhcgaa
