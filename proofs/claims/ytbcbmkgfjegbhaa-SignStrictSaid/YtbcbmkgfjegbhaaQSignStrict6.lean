/- Part 6 of the proof. No condition. -/
import Derived.OpenShut
import Derived.Test.YtbcbmkgfjegbhaaQSignStrict5
set_option linter.unusedVariables false
set_option linter.unusedSimpArgs false
set_option linter.unusedSectionVars false

/-! scalar.modulo's model, for a slice; a number's bytes. No condition. -/
namespace Go.Proofs.Ytbcbmkgfjegbhaa
open Go.AE Fardel
set_option maxRecDepth 100000

def wordsB (n : Nat) (f : Nat → Int) : Bool := (List.range n).all fun i => decide (0 ≤ f i ∧ f i < 18446744073709551616)
theorem wordsB_spec {n : Nat} {f : Nat → Int} (h : wordsB n f = true) : digs 18446744073709551616 n f := by
  intro i hi
  have := List.all_eq_true.1 h i (by simpa using hi)
  simpa using this
def dqW (V : Nat) : T := w4 (dq V 0) (dq V 1) (dq V 2) (dq V 3)
noncomputable def modV0 : VModel
  | [.fsi .u64 n f _] => bif Nat.blt 0 n && Nat.ble n 1048576 then some ⟨wordsB n f, dqW (natB 18446744073709551616 f n % L), mdW (natB 18446744073709551616 f n % L), true⟩ else none
  | _ => none
theorem md_res (n : Nat) (f : Nat → Int) (cp : Option Nat) (a b c d : Int) (i : Int) : evResults Try.prog (stW 0 0 (mdT n f cp i) (mdG a b c d)) Try.f50.results.toList = some (true, [w4 a b c d], 1) := by kernel_rfl
theorem mod0_ok : SoundV Try.prog 50 modV0 := by
  refine SoundV.of_tr (fn := Try.f50) (c := mdC) (by kernel_rfl) (by kernel_rfl) (by kernel_rfl) ?_
  intro args r h hvc
  unfold modV0 at h
  split at h
  · rename_i n f cp
    cases hb : (Nat.blt 0 n && Nat.ble n 1048576) with
    | false => rw [hb] at h; cases h
    | true =>
      rw [hb] at h
      cases h
      have hn := Bool.and_eq_true_iff.1 hb
      have hn0 : 0 < n := by simpa using hn.1
      have hn1 : n ≤ 1048576 := Nat.le_of_ble_eq_true hn.2
      exact ⟨.ret, _, _, _, .inl rfl, md_tr (wordsB_spec hvc) hn0 hn1 cp, md_res _ _ _ _ _ _ _ _, rfl, rfl, fun _ => rfl⟩
  · cases h
noncomputable def modV : VModel := frz 0 modV0
theorem modV_ok : SoundV Try.prog 50 modV := mod0_ok.frz 0
noncomputable def modM : Model := lift 0 modV
theorem mod_ok : SoundM Try.prog 50 modM := modV_ok.lift 0

def nbF (a b c d : Int) : Nat → Int := updN 32 fun i => IntKind.u8.wrap (shrI .u64 (numW a b c d (i / 8)) (8 * ((i % 8 : Nat) : Int)))
def nbP : PModel
  | [.cons (.int .u64 a) (.cons (.int .u64 b) (.cons (.int .u64 c) (.cons (.int .u64 d) .nil)))] => some (true, .ints .u8 32 (nbF a b c d))
  | _ => none
theorem nb_ok : SoundM Try.prog 40 (pureModel nbP) := by
  refine (SoundM.of_ev (env0_ok _) mix (n := 40) (fn := Try.f40) (by kernel_rfl) (by kernel_rfl) (by kernel_rfl)).pure ?_
  intro args vc v h hvc
  unfold nbP at h
  split at h
  · rename_i a b c d
    cases h
    obtain ⟨r, h3, h4, h5⟩ := mv_some (nbytes_mv a b c d)
    exact ⟨rfl, rfl, r, h3, h4, h5⟩
  · cases h

theorem nbF_eq {V : Nat} (h : V < 115792089237316195423570985008687907853269984665640564039457584007913129639936) (i : Nat) (hi : i < 32) : nbF (dq V 0) (dq V 1) (dq V 2) (dq V 3) i = dgB 256 V i := by
  have e : nbF (dq V 0) (dq V 1) (dq V 2) (dq V 3) i = IntKind.u8.wrap (shrI .u64 (numW (dq V 0) (dq V 1) (dq V 2) (dq V 3) (i / 8)) (8 * ((i % 8 : Nat) : Int))) := by
    unfold nbF
    rw [updN_eq hi]
  have e2 : numW (dq V 0) (dq V 1) (dq V 2) (dq V 3) (i / 8) = dq V (i / 8) := by
    have : i / 8 = 0 ∨ i / 8 = 1 ∨ i / 8 = 2 ∨ i / 8 = 3 := by omega
    rcases this with h | h | h | h <;> rw [h] <;> rfl
  rw [e, e2]
  have e3 : (8 * ((i % 8 : Nat) : Int)) = ((8 * (i % 8) : Nat) : Int) := by omega
  rw [e3, shrI_u64 _ _ (by omega), IntKind.wrap_u8]
  unfold dq dgB
  rw [show (2 : Int) ^ (8 * (i % 8)) = ((2 ^ (8 * (i % 8)) : Nat) : Int) by simp, ← Int.natCast_ediv]
  have e4 : V / 18446744073709551616 ^ (i / 8) % 18446744073709551616 / 2 ^ (8 * (i % 8)) % 256 = V / 256 ^ i % 256 := by
    have p1 : (18446744073709551616 : Nat) = 2 ^ (8 * (i % 8)) * (256 * 2 ^ (56 - 8 * (i % 8))) := by
      rw [show (256 : Nat) = 2 ^ 8 from rfl, ← Nat.pow_add, ← Nat.pow_add, show 8 * (i % 8) + (8 + (56 - 8 * (i % 8))) = 64 by omega]
    conv => lhs; rw [show V / 18446744073709551616 ^ (i / 8) % 18446744073709551616 = V / 18446744073709551616 ^ (i / 8) % (2 ^ (8 * (i % 8)) * (256 * 2 ^ (56 - 8 * (i % 8)))) by rw [← p1]]
    rw [Nat.mod_mul_right_div_self, Nat.mod_mul_right_mod, Nat.div_div_eq_div_mul]
    rw [show (18446744073709551616 : Nat) = 2 ^ 64 from rfl, ← Nat.pow_mul, ← Nat.pow_add, show (256 : Nat) = 2 ^ 8 from rfl, ← Nat.pow_mul, show 64 * (i / 8) + 8 * (i % 8) = 8 * i by omega]
  omega

end Go.Proofs.Ytbcbmkgfjegbhaa

/-! scalar.words by its model. No condition. -/
namespace Go.Proofs.Ytbcbmkgfjegbhaa
open Go.AE Fardel
set_option maxRecDepth 100000

noncomputable def wdC : Code := bodyC Try.f38
noncomputable def wdX : Code := postC 2 wdC
noncomputable def wdB : Code := cB (cB (cR (cL wdX)))
theorem wdX_eq : postC 2 wdC = .seq (.seq (cL (cL wdX)) (.block 0 (.loop wdB))) (cR wdX) := by kernel_rfl
section
variable (n m : Nat) (f W : Nat → Int) (cp : Option Nat) (i : Int)
def wdT0 : List T := tmk [(0, .fsi .u8 n f cp), (3, .slice 0 [] 0 1 m (some m))] 0 32
def wdT : List T := tmk [(3, .slice 0 [] 0 1 m (some m)), (10, .fsi .u8 n f cp), (11, .num n), (12, .num i)] 0 32
def wdT9 : List T := tmk [(2, .slice 0 [] 0 1 m (some m))] 0 32
def wdG : Heap := [some (.ints .u64 m W)]
noncomputable def wdVC0 : Bool := decide (-9223372036854775808 ≤ (n : Int) / 8 ∧ (n : Int) / 8 ≤ 9223372036854775807) &&
        (decide (0 ≤ (n : Int) / 8 ∧ (n : Int) / 8 ≤ (n : Int) / 8) && decide ((Try.prog.types[33].bytes : Int) * ((n : Int) / 8) ≤ 281474976710656 ∧ (n : Int) / 8 ≤ 9223372036854775807) && true) && true
def wdVC : Bool := decide (-9223372036854775808 ≤ i + 1 ∧ i + 1 ≤ 9223372036854775807) && true &&
      (decide (0 ≤ i ∧ (0 : Int) < 8) && decide (-9223372036854775808 ≤ i / 8 ∧ i / 8 ≤ 9223372036854775807) &&
          (decide (0 ≤ i / 8 ∧ i / 8 < m) && (decide (0 + (i / 8).toNat < m) && true &&
              (decide (0 ≤ i ∧ (0 : Int) < 8) && (decide (-9223372036854775808 ≤ 8 * (i % 8) ∧ 8 * (i % 8) ≤ 9223372036854775807) &&
                  (decide (0 ≤ 8 * (i % 8)) && (decide (0 ≤ i / 8 ∧ i / 8 < m) && (decide (0 + (i / 8).toNat < m) && true && true))))))) &&
        (decide (0 ≤ i ∧ i < n) && true && (decide (i < n) == true && true && true)))
def wdW : Nat → Int := upd W (0 + (i / 8).toNat) (bits .or .u64 (W (0 + (i / 8).toNat)) (shlI .u64 (IntKind.u64.wrap (f i.toNat)) (8 * (i % 8))))
theorem wd_pre : (evCode Try.prog env0 1000000 (preC 2 wdC) (stW 0 0 ([.fsi .u8 n f cp] ++ undefs 31) [])).map (cutPW 0 0 (maskOf [0, 3]) 0) = some (.normal, wdVC0 n, wdT0 n (n / 8) f cp, wdG (n / 8) fun _ => 0, true) := by kernel_rfl
theorem wd_ini : Tr Try.prog 0 (cL (cL wdX)) (stW 0 0 (wdT0 n m f cp) (wdG m W)) .normal (stW 0 0 (wdT n m f cp 0) (wdG m W)) :=
  Tr.evW (n := 1000000) (N := 1) (keep := maskOf [3, 10, 11, 12]) (nm := maskOf [12]) (vc := true) (env0_ok _) mix (by kernel_rfl) rfl rfl rfl rfl
theorem wd_step (h : wdVC n m i = true) : Tr Try.prog 0 wdB (stW 0 0 (wdT n m f cp i) (wdG m W)) .normal (stW 0 0 (wdT n m f cp (i + 1)) (wdG m (wdW f W i))) :=
  Tr.evW (n := ⟨1000000, [(13, true)]⟩) (N := 1) (keep := maskOf [3, 10, 11, 12]) (nm := maskOf [12]) (vc := wdVC n m i) (env0_ok _) mix (by kernel_rfl) h rfl rfl rfl
theorem wd_stop (h : decide (i < n) = false) : Tr Try.prog 0 wdB (stW 0 0 (wdT n m f cp i) (wdG m W)) (.exit 0) (stW 0 0 (wdT n m f cp i) (wdG m W)) :=
  Tr.evW (n := ⟨1000000, [(13, false)]⟩) (N := 1) (keep := maskOf [3, 10, 11, 12]) (nm := maskOf [12]) (vc := decide (i < n) == false && true && true) (env0_ok _) mix (by kernel_rfl) (by rw [h]; rfl) rfl rfl rfl
theorem wd_post : Tr Try.prog 0 (cR wdX) (stW 0 0 (wdT n m f cp i) (wdG m W)) .ret (stW 0 0 (wdT9 m) (wdG m W)) :=
  Tr.evW (n := 1000000) (N := 1) (keep := maskOf [2]) (nm := 0) (vc := true) (env0_ok _) mix (by kernel_rfl) rfl rfl rfl rfl
theorem wd_res : evResults Try.prog (stW 0 0 (wdT9 m) (wdG m W)) Try.f38.results.toList = some (true, [.slice 0 [] 0 1 m (some m)], 0) := by kernel_rfl
end

theorem wdVC0_ok (n : Nat) (hn : n ≤ 1048576) : wdVC0 n = true := by
  have e : (Try.prog.types[33].bytes : Int) = 8 := by kernel_rfl
  unfold wdVC0
  rw [e]
  simp only [Bool.and_true, Bool.and_eq_true, decide_eq_true_eq]
  omega
theorem wdVC_ok {n m i : Nat} (hn : n ≤ 1048576) (hm : n = 8 * m) (hi : i < n) : wdVC n m (i : Nat) = true := by
  simp only [wdVC, Bool.and_true, Bool.and_eq_true, decide_eq_true_eq, beq_iff_eq]
  omega

/-- Words of bytes. -/
def wdF (f : Nat → Int) (i : Nat) : Nat → Int := dgB 18446744073709551616 (natB 256 f i)
theorem pow64 (k : Nat) : 18446744073709551616 ^ k = 2 ^ (64 * k) := by rw [Nat.pow_mul]
theorem pow8 (k : Nat) : 256 ^ k = 2 ^ (8 * k) := by rw [Nat.pow_mul]

theorem wdF_step {f : Nat → Int} {i : Nat} (hf : digs 256 (i + 1) f) (hi : i < 1048576) : wdW f (wdF f i) (i : Nat) = wdF f (i + 1) := by
  have hfi := hf i (by omega)
  obtain ⟨x, hx⟩ := Int.eq_ofNat_of_zero_le hfi.1
  have hx2 : x < 256 := by omega
  have hM : natB 256 f i < 256 ^ i := natB_lt i (fun j hj => hf j (by omega))
  have hN : natB 256 f (i + 1) = natB 256 f i + 256 ^ i * x := by rw [natB, hx]; rfl
  unfold wdW
  rw [show 0 + (((i : Nat) : Int) / 8).toNat = i / 8 by omega, show 8 * (((i : Nat) : Int) % 8) = ((8 * (i % 8) : Nat) : Int) by omega, Int.toNat_natCast, hx]
  have e0 : IntKind.u64.wrap (x : Int) = (x : Int) := by rw [IntKind.wrap_u64]; omega
  rw [e0]
  have hi8 : 64 * (i / 8) + 8 * (i % 8) = 8 * i := by omega
  have hr : i % 8 < 8 := Nat.mod_lt _ (by decide)
  rw [pow8] at hM hN
  funext j
  unfold upd wdF dgB
  rw [hN]
  generalize natB 256 f i = M at *
  simp only [pow64]
  cases hj : Nat.beq j (i / 8) with
  | true =>
    have hj2 : j = i / 8 := Nat.eq_of_beq_eq_true hj
    subst hj2
    rw [cond_true]
    generalize hs : i / 8 = s at *
    generalize ht : 8 * (i % 8) = t at *
    have ht2 : t ≤ 56 := by omega
    have hu : M / 2 ^ (64 * s) < 2 ^ t := by
      rw [Nat.div_lt_iff_lt_mul (Nat.two_pow_pos _), ← Nat.pow_add, Nat.add_comm t, hi8]
      exact hM
    have p64 : (2 : Nat) ^ t * 256 ≤ 18446744073709551616 := by
      have : (2 : Nat) ^ t ≤ 2 ^ 56 := Nat.pow_le_pow_right (by decide) ht2
      omega
    have hxt : x * 2 ^ t + 2 ^ t ≤ 18446744073709551616 := by
      have : (x + 1) * 2 ^ t ≤ 256 * 2 ^ t := Nat.mul_le_mul_right _ (by omega)
      rw [Nat.add_mul, Nat.one_mul] at this
      omega
    have e1 : (M + 2 ^ (8 * i) * x) / 2 ^ (64 * s) = M / 2 ^ (64 * s) + 2 ^ t * x := by
      rw [← hi8, Nat.pow_add, Nat.mul_assoc, Nat.add_mul_div_left _ _ (Nat.two_pow_pos _)]
    rw [e1]
    generalize M / 2 ^ (64 * s) = u at *
    rw [Nat.mod_eq_of_lt (a := u) (by omega), Nat.mod_eq_of_lt (a := u + 2 ^ t * x) (by rw [Nat.mul_comm (2 ^ t)]; omega)]
    have e2 : shlI .u64 (x : Int) (t : Nat) = ((x * 2 ^ t : Nat) : Int) := by
      rw [shlI_small _ t (by omega), IntKind.wrap_u64, show ((2 : Int) ^ t) = ((2 ^ t : Nat) : Int) by simp, ← Int.natCast_mul]
      omega
    have p2 : (2 : Int) ^ 64 = 18446744073709551616 := by decide
    have pt : (2 : Int) ^ t = ((2 ^ t : Nat) : Int) := by simp
    have q1 : ((x * 2 ^ t : Nat) : Int) < 2 ^ 64 := by rw [p2]; omega
    have q2 : ((x * 2 ^ t : Nat) : Int) % 2 ^ t = 0 := by rw [pt, ← Int.natCast_emod, Nat.mul_mod_left]; rfl
    have q3 : (u : Int) < 2 ^ t := by rw [pt]; omega
    have q4 : (u : Int) < 2 ^ 64 := by rw [p2]; omega
    rw [e2, or_join t ((x * 2 ^ t : Nat) : Int) (u : Int) (by omega) q1 q2 (by omega) q3 q4]
    rw [Nat.mul_comm (2 ^ t)]
    omega
  | false =>
    have hj2 : j ≠ i / 8 := by
      intro h
      rw [h, Nat.beq_refl] at hj
      cases hj
    rw [cond_false]
    have e : M / 2 ^ (64 * j) % 18446744073709551616 = (M + 2 ^ (8 * i) * x) / 2 ^ (64 * j) % 18446744073709551616 := by
      rcases Nat.lt_or_ge j (i / 8) with h | h
      · have e1 : (2 : Nat) ^ (8 * i) = 2 ^ (64 * j) * (18446744073709551616 * 2 ^ (8 * i - 64 * j - 64)) := by
          rw [show (18446744073709551616 : Nat) = 2 ^ 64 from rfl, ← Nat.pow_add, ← Nat.pow_add]
          congr 1
          omega
        rw [e1, Nat.mul_assoc, Nat.add_mul_div_left _ _ (Nat.two_pow_pos _), Nat.mul_assoc, Nat.add_mul_mod_self_left]
      · have hlt : (2 : Nat) ^ (8 * i + 8) ≤ 2 ^ (64 * j) := Nat.pow_le_pow_right (by decide) (by omega)
        rw [Nat.pow_add] at hlt
        have h3 : 2 ^ (8 * i) * (x + 1) ≤ 2 ^ (8 * i) * 2 ^ 8 := Nat.mul_le_mul_left _ (by omega)
        rw [Nat.mul_add, Nat.mul_one] at h3
        rw [Nat.div_eq_of_lt (by omega), Nat.div_eq_of_lt (by omega)]
    rw [e]

theorem wd_tr {n : Nat} {f : Nat → Int} (hf : digs 256 n f) (hn : n ≤ 1048576) (h8 : n % 8 = 0) (cp : Option Nat) : Tr Try.prog 0 wdC (stW 0 0 ([.fsi .u8 n f cp] ++ undefs 31) []) .ret (stW 0 0 (wdT9 (n / 8)) (wdG (n / 8) (wdF f n))) := by
  refine Tr.preW (env0_ok _) mix 0 2 (maskOf [0, 3]) 0 (wd_pre n f cp) (wdVC0_ok n hn) rfl ?_
  have e0 : (fun _ => 0 : Nat → Int) = wdF f 0 := by
    funext k
    unfold wdF dgB natB
    simp
  rw [wdX_eq, e0]
  refine Tr.seq (s1 := stW 0 0 (wdT n (n / 8) f cp (n : Nat)) (wdG (n / 8) (wdF f n))) (Tr.seq (wd_ini n _ f _ cp) ?_) (wd_post n _ f _ cp _)
  refine Tr.iter (S := fun i => stW 0 0 (wdT n (n / 8) f cp (i : Nat)) (wdG (n / 8) (wdF f i))) (n := n) (fun i hi => ?_) (wd_stop n _ f _ cp _ (decide_eq_false (by omega)))
  have := wd_step n (n / 8) f (wdF f i) cp (i : Nat) (wdVC_ok hn (by omega) hi)
  rw [wdF_step (fun j hj => hf j (by omega)) (by omega)] at this
  exact this

/-- The same, that the kernel does not open. -/
noncomputable def wdH (f : Nat → Int) (n : Nat) : Nat → Int := hid wdF f n
theorem wdH_eq (f : Nat → Int) (n : Nat) : wdH f n = wdF f n := by unfold wdH; rw [hid_eq]
noncomputable def wdV : VModel
  | [.fsi .u8 n f _] => bif Nat.ble n 1048576 && Nat.beq (n % 8) 0 then some ⟨bytesB n f, .slice 0 [] 0 1 (n / 8) (some (n / 8)), wdG (n / 8) (wdH f n), true⟩ else none
  | _ => none
theorem wdV_ok : SoundV Try.prog 38 wdV := by
  refine SoundV.of_tr (fn := Try.f38) (c := wdC) (by kernel_rfl) (by kernel_rfl) (by kernel_rfl) ?_
  intro args r h hvc
  unfold wdV at h
  split at h
  · rename_i n f cp
    cases hb : (Nat.ble n 1048576 && Nat.beq (n % 8) 0) with
    | false => rw [hb] at h; cases h
    | true =>
      rw [hb] at h
      cases h
      have hn := Bool.and_eq_true_iff.1 hb
      exact ⟨.ret, _, _, _, .inl rfl, wd_tr (bytesB_spec hvc) (Nat.le_of_ble_eq_true hn.1) (Nat.eq_of_beq_eq_true hn.2) cp, wd_res _ _, rfl, by rw [wdH_eq]; rfl, fun _ => rfl⟩
  · cases h
noncomputable def wdM : Model := lift 0 wdV
theorem wd_ok : SoundM Try.prog 38 wdM := wdV_ok.lift 0

end Go.Proofs.Ytbcbmkgfjegbhaa

/-! scalar.MulAdd: the walk. No condition. -/
namespace Go.Proofs.Ytbcbmkgfjegbhaa
open Go.AE Fardel
set_option maxRecDepth 100000

noncomputable def envN2 : Env := ((envN1.set 38 wdM).set 50 modM).set 40 (pureModel nbP)
theorem envN2_ok : EnvOK Try.prog envN2 := ((envN1_ok.set wd_ok).set mod_ok).set nb_ok

noncomputable def maC : Code := bodyC Try.f19
noncomputable def maX : Code := postC 3 maC
noncomputable def maB : Code := cB (cB (cR (cL maX)))
noncomputable def maJ : Code := cB (cL (postC 2 maB))
noncomputable def maIL : Code := cL (postC 2 maJ)
noncomputable def maI : Code := cB (cB (cR maIL))
noncomputable def maOL : Code := cR (postC 2 maJ)
noncomputable def maO : Code := cB (cB (cR maOL))
theorem maX_eq : postC 3 maC = .seq (.seq (cL (cL maX)) (.block 0 (.loop maB))) (cR maX) := by kernel_rfl
theorem maB_eq : postC 2 maB = .seq (.block 1 maJ) (cR (postC 2 maB)) := by kernel_rfl
theorem maJ_eq : postC 2 maJ = .seq maIL maOL := by kernel_rfl
theorem maIL_eq : postC 1 maIL = .block 2 (.loop maI) := by kernel_rfl
theorem maOL_eq : postC 1 maOL = .block 4 (.loop maO) := by kernel_rfl
theorem maL_eq : postC 1 (.seq (cL (cL maX)) (.block 0 (.loop maB))) = .block 0 (.loop maB) := by kernel_rfl

def maG (a b c X Y Z S : Nat → Int) : Heap := [some (.ints .u8 32 a), some (.ints .u8 32 b), some (.ints .u8 32 c), some (.ints .u8 32 fun _ => 0), some (.ints .u64 4 X), some (.ints .u64 4 Y), some (.ints .u64 4 Z), some (.ints .u64 5 (updN 5 fun _ => 0)), some (.ints .u64 9 S)]
def sl4 : T := .slice 4 [] 0 1 4 (some 4)
def sl5 : T := .slice 5 [] 0 1 4 (some 4)
def sl9 : T := .slice 8 [] 0 1 9 none
def maT0 : List T := tmk [(6, .ptr 3 []), (7, sl4), (8, sl5), (9, sl9)] 0 98
def maA (i : Int) : List T := tmk [(6, .ptr 3 []), (7, sl4), (8, sl5), (9, sl9), (28, sl4), (29, .int .i64 4), (30, .int .i64 i)] 0 98
def maT (i k : Nat) (x o : Int) : List T := tmk [(6, .ptr 3 []), (7, sl4), (8, sl5), (9, sl9), (10, .int .i64 i), (11, .int .u64 x), (12, .int .u64 o), (28, sl4), (29, .int .i64 4), (30, .int .i64 i), (35, sl5), (36, .int .i64 4), (37, .int .i64 k)] 0 98
def maU (i j : Nat) (o : Int) : List T := tmk [(6, .ptr 3 []), (7, sl4), (8, sl5), (9, sl9), (12, .int .u64 o), (19, .int .i64 j), (28, sl4), (29, .int .i64 4), (30, .int .i64 i)] 0 98
def maT1 (i : Nat) (x o : Int) : List T := tmk [(6, .ptr 3 []), (7, sl4), (8, sl5), (9, sl9), (10, .int .i64 i), (11, .int .u64 x), (12, .int .u64 o), (28, sl4), (29, .int .i64 4), (30, .int .i64 i)] 0 98
def maK0 : Nat := maskOf [6, 7, 8, 9]
def maKA : Nat := maskOf [6, 7, 8, 9, 28, 29, 30]
def maKB : Nat := maskOf [6, 7, 8, 9, 10, 11, 12, 28, 29, 30]
def maKT : Nat := maskOf [6, 7, 8, 9, 10, 11, 12, 28, 29, 30, 35, 36, 37]
def maKU : Nat := maskOf [6, 7, 8, 9, 12, 19, 28, 29, 30]

def sh0 (f : Nat → Int) : Nat → Int := fun j => f (0 + j)
def maZ (c : Nat → Int) : Nat → Int := catF 4 (sh0 (wdF (sh0 c) 32)) (sh0 (updN 5 fun _ => 0))
def maVC0 (a b c : Nat → Int) : Bool := (bytesB 32 (sh0 c) && true && true) && (((bytesB 32 (sh0 a) && true) && ((bytesB 32 (sh0 b) && true) && true)) && true)
theorem ma_pre0 (a b c : Nat → Int) : (evCode Try.prog envN2 1000000 (preC 3 maC) (stOf ([.ints .u8 32 a, .ints .u8 32 b, .ints .u8 32 c] ++ undefs 95) [])).map (cutP maK0) =
    some (.normal, maVC0 a b c, maT0, maG a b c (wdH (sh0 a) 32) (wdH (sh0 b) 32) (wdH (sh0 c) 32) (catF 4 (sh0 (wdH (sh0 c) 32)) (sh0 (updN 5 fun _ => 0))), true) := by kernel_rfl
theorem ma_pre (a b c : Nat → Int) : (evCode Try.prog envN2 1000000 (preC 3 maC) (stOf ([.ints .u8 32 a, .ints .u8 32 b, .ints .u8 32 c] ++ undefs 95) [])).map (cutP maK0) =
    some (.normal, maVC0 a b c, maT0, maG a b c (wdF (sh0 a) 32) (wdF (sh0 b) 32) (wdF (sh0 c) 32) (maZ c), true) := by
  have h := ma_pre0 a b c
  rw [wdH_eq, wdH_eq, wdH_eq] at h
  exact h

def maLw (X Y : Nat → Int) (i k : Nat) : Nat := (IntKind.u64.wrap (X i * Y k)).toNat % 18446744073709551616
def maLo (X Y : Nat → Int) (i k : Nat) (o : Int) : Int := addLo (maLw X Y i k) o.toNat
def maN (X Y S : Nat → Int) (i k : Nat) (o : Int) : Int :=
  IntKind.u64.wrap (IntKind.u64.wrap (((mulHi (X i) (Y k)).toNat % 18446744073709551616 : Nat) + addHi (maLw X Y i k) o.toNat) + addHi (S (i + k)).toNat (maLo X Y i k o).toNat)
def maS (X Y S : Nat → Int) (i k : Nat) (o : Int) : Nat → Int := upd S (i + k) (addLo (S (i + k)).toNat (maLo X Y i k o).toNat)
section
variable (a b c X Y Z S : Nat → Int) (o : Int)
theorem ma_ini : (evCode Try.prog envN2 40 (preC 1 (.seq (cL (cL maX)) (.block 0 (.loop maB)))) (stOf maT0 (maG a b c X Y Z S))).map (cutP maKA) = some (.normal, true, maA 0, maG a b c X Y Z S, true) := by kernel_rfl
theorem ma_test : ∀ i, i < 4 → (evCode Try.prog envN2 40 (preC 2 maB) (stOf (maA (i : Nat)) (maG a b c X Y Z S))).map (cutP maKA) = some (.normal, true, maA (i : Nat), maG a b c X Y Z S, true)
  | 0, _ => by kernel_rfl
  | 1, _ => by kernel_rfl
  | 2, _ => by kernel_rfl
  | 3, _ => by kernel_rfl
  | k + 4, h => absurd h (by omega)
theorem ma_begin : ∀ i, i < 4 → (evCode Try.prog envN2 40 (preC 2 maJ) (stOf (maA (i : Nat)) (maG a b c X Y Z S))).map (cutP maKB) = some (.normal, true, maT1 i (X i) 0, maG a b c X Y Z S, true)
  | 0, _ => by kernel_rfl
  | 1, _ => by kernel_rfl
  | 2, _ => by kernel_rfl
  | 3, _ => by kernel_rfl
  | k + 4, h => absurd h (by omega)
theorem ma_zero : ∀ i, i < 4 → (evCode Try.prog envN2 40 (preC 1 maIL) (stOf (maT1 i (X i) o) (maG a b c X Y Z S))).map (cutP maKT) = some (.normal, true, maT i 0 (X i) o, maG a b c X Y Z S, true)
  | 0, _ => by kernel_rfl
  | 1, _ => by kernel_rfl
  | 2, _ => by kernel_rfl
  | 3, _ => by kernel_rfl
  | k + 4, h => absurd h (by omega)
theorem ma_step0 : ∀ k, k < 4 → Tr Try.prog 0 maI (stOf (maT 0 k (X 0) o) (maG a b c X Y Z S)) .normal (stOf (maT 0 (k + 1) (X 0) (maN X Y S 0 k o)) (maG a b c X Y Z (maS X Y S 0 k o)))
  | 0, _ => Tr.ev (n := 40) (N := 9) (keep := maKT) (vc := true) envN2_ok mix (by kernel_rfl) rfl rfl rfl
  | 1, _ => Tr.ev (n := 40) (N := 9) (keep := maKT) (vc := true) envN2_ok mix (by kernel_rfl) rfl rfl rfl
  | 2, _ => Tr.ev (n := 40) (N := 9) (keep := maKT) (vc := true) envN2_ok mix (by kernel_rfl) rfl rfl rfl
  | 3, _ => Tr.ev (n := 40) (N := 9) (keep := maKT) (vc := true) envN2_ok mix (by kernel_rfl) rfl rfl rfl
  | k + 4, h => absurd h (by omega)
theorem ma_step1 : ∀ k, k < 4 → Tr Try.prog 0 maI (stOf (maT 1 k (X 1) o) (maG a b c X Y Z S)) .normal (stOf (maT 1 (k + 1) (X 1) (maN X Y S 1 k o)) (maG a b c X Y Z (maS X Y S 1 k o)))
  | 0, _ => Tr.ev (n := 40) (N := 9) (keep := maKT) (vc := true) envN2_ok mix (by kernel_rfl) rfl rfl rfl
  | 1, _ => Tr.ev (n := 40) (N := 9) (keep := maKT) (vc := true) envN2_ok mix (by kernel_rfl) rfl rfl rfl
  | 2, _ => Tr.ev (n := 40) (N := 9) (keep := maKT) (vc := true) envN2_ok mix (by kernel_rfl) rfl rfl rfl
  | 3, _ => Tr.ev (n := 40) (N := 9) (keep := maKT) (vc := true) envN2_ok mix (by kernel_rfl) rfl rfl rfl
  | k + 4, h => absurd h (by omega)
theorem ma_step2 : ∀ k, k < 4 → Tr Try.prog 0 maI (stOf (maT 2 k (X 2) o) (maG a b c X Y Z S)) .normal (stOf (maT 2 (k + 1) (X 2) (maN X Y S 2 k o)) (maG a b c X Y Z (maS X Y S 2 k o)))
  | 0, _ => Tr.ev (n := 40) (N := 9) (keep := maKT) (vc := true) envN2_ok mix (by kernel_rfl) rfl rfl rfl
  | 1, _ => Tr.ev (n := 40) (N := 9) (keep := maKT) (vc := true) envN2_ok mix (by kernel_rfl) rfl rfl rfl
  | 2, _ => Tr.ev (n := 40) (N := 9) (keep := maKT) (vc := true) envN2_ok mix (by kernel_rfl) rfl rfl rfl
  | 3, _ => Tr.ev (n := 40) (N := 9) (keep := maKT) (vc := true) envN2_ok mix (by kernel_rfl) rfl rfl rfl
  | k + 4, h => absurd h (by omega)
theorem ma_step3 : ∀ k, k < 4 → Tr Try.prog 0 maI (stOf (maT 3 k (X 3) o) (maG a b c X Y Z S)) .normal (stOf (maT 3 (k + 1) (X 3) (maN X Y S 3 k o)) (maG a b c X Y Z (maS X Y S 3 k o)))
  | 0, _ => Tr.ev (n := 40) (N := 9) (keep := maKT) (vc := true) envN2_ok mix (by kernel_rfl) rfl rfl rfl
  | 1, _ => Tr.ev (n := 40) (N := 9) (keep := maKT) (vc := true) envN2_ok mix (by kernel_rfl) rfl rfl rfl
  | 2, _ => Tr.ev (n := 40) (N := 9) (keep := maKT) (vc := true) envN2_ok mix (by kernel_rfl) rfl rfl rfl
  | 3, _ => Tr.ev (n := 40) (N := 9) (keep := maKT) (vc := true) envN2_ok mix (by kernel_rfl) rfl rfl rfl
  | k + 4, h => absurd h (by omega)
theorem ma_step : ∀ i, i < 4 → ∀ k, k < 4 → Tr Try.prog 0 maI (stOf (maT i k (X i) o) (maG a b c X Y Z S)) .normal (stOf (maT i (k + 1) (X i) (maN X Y S i k o)) (maG a b c X Y Z (maS X Y S i k o)))
  | 0, _ => ma_step0 a b c X Y Z S o
  | 1, _ => ma_step1 a b c X Y Z S o
  | 2, _ => ma_step2 a b c X Y Z S o
  | 3, _ => ma_step3 a b c X Y Z S o
  | k + 4, h => absurd h (by omega)
theorem ma_end : ∀ i, i < 4 → Tr Try.prog 0 maI (stOf (maT i 4 (X i) o) (maG a b c X Y Z S)) (.exit 2) (stOf (maT i 4 (X i) o) (maG a b c X Y Z S))
  | 0, _ => Tr.ev (n := 40) (N := 9) (keep := maKT) (vc := true) envN2_ok mix (by kernel_rfl) rfl rfl rfl
  | 1, _ => Tr.ev (n := 40) (N := 9) (keep := maKT) (vc := true) envN2_ok mix (by kernel_rfl) rfl rfl rfl
  | 2, _ => Tr.ev (n := 40) (N := 9) (keep := maKT) (vc := true) envN2_ok mix (by kernel_rfl) rfl rfl rfl
  | 3, _ => Tr.ev (n := 40) (N := 9) (keep := maKT) (vc := true) envN2_ok mix (by kernel_rfl) rfl rfl rfl
  | k + 4, h => absurd h (by omega)
theorem ma_mid : ∀ i, i < 4 → (evCode Try.prog envN2 40 (preC 1 maOL) (stOf (maT i 4 (X i) o) (maG a b c X Y Z S))).map (cutP maKU) = some (.normal, true, maU i (i + 4) o, maG a b c X Y Z S, true)
  | 0, _ => by kernel_rfl
  | 1, _ => by kernel_rfl
  | 2, _ => by kernel_rfl
  | 3, _ => by kernel_rfl
  | k + 4, h => absurd h (by omega)
theorem ma_over (h : o > 0) : ∀ i, i < 4 → Tr Try.prog 0 maO (stOf (maU i (i + 4) o) (maG a b c X Y Z S)) .normal (stOf (maU i (i + 5) (addHi (S (i + 4)).toNat o.toNat)) (maG a b c X Y Z (upd S (i + 4) (addLo (S (i + 4)).toNat o.toNat))))
  | 0, _ => Tr.ev (n := ⟨1000000, [(79, true)]⟩) (N := 9) (keep := maKU) (vc := (decide (o > 0) == true && true) && true) envN2_ok mix (by kernel_rfl) (by rw [decide_eq_true h]; rfl) rfl rfl
  | 1, _ => Tr.ev (n := ⟨1000000, [(79, true)]⟩) (N := 9) (keep := maKU) (vc := (decide (o > 0) == true && true) && true) envN2_ok mix (by kernel_rfl) (by rw [decide_eq_true h]; rfl) rfl rfl
  | 2, _ => Tr.ev (n := ⟨1000000, [(79, true)]⟩) (N := 9) (keep := maKU) (vc := (decide (o > 0) == true && true) && true) envN2_ok mix (by kernel_rfl) (by rw [decide_eq_true h]; rfl) rfl rfl
  | 3, _ => Tr.ev (n := ⟨1000000, [(79, true)]⟩) (N := 9) (keep := maKU) (vc := (decide (o > 0) == true && true) && true) envN2_ok mix (by kernel_rfl) (by rw [decide_eq_true h]; rfl) rfl rfl
  | k + 4, h => absurd h (by omega)
theorem ma_out (h : ¬ o > 0) (d : Nat) (hd : d < 2) : ∀ i, i < 4 → Tr Try.prog 0 maO (stOf (maU i (i + 4 + d) o) (maG a b c X Y Z S)) (.exit 4) (stOf (maA (i : Nat)) (maG a b c X Y Z S))
  | 0, _ => by
    match d, hd with
    | 0, _ => exact Tr.ev (n := ⟨1000000, [(79, false)]⟩) (N := 9) (keep := maKA) (vc := (decide (o > 0) == false && true) && true) envN2_ok mix (by kernel_rfl) (by rw [decide_eq_false h]; rfl) rfl rfl
    | 1, _ => exact Tr.ev (n := ⟨1000000, [(79, false)]⟩) (N := 9) (keep := maKA) (vc := (decide (o > 0) == false && true) && true) envN2_ok mix (by kernel_rfl) (by rw [decide_eq_false h]; rfl) rfl rfl
    | d + 2, h => exact absurd h (by omega)
  | 1, _ => by
    match d, hd with
    | 0, _ => exact Tr.ev (n := ⟨1000000, [(79, false)]⟩) (N := 9) (keep := maKA) (vc := (decide (o > 0) == false && true) && true) envN2_ok mix (by kernel_rfl) (by rw [decide_eq_false h]; rfl) rfl rfl
    | 1, _ => exact Tr.ev (n := ⟨1000000, [(79, false)]⟩) (N := 9) (keep := maKA) (vc := (decide (o > 0) == false && true) && true) envN2_ok mix (by kernel_rfl) (by rw [decide_eq_false h]; rfl) rfl rfl
    | d + 2, h => exact absurd h (by omega)
  | 2, _ => by
    match d, hd with
    | 0, _ => exact Tr.ev (n := ⟨1000000, [(79, false)]⟩) (N := 9) (keep := maKA) (vc := (decide (o > 0) == false && true) && true) envN2_ok mix (by kernel_rfl) (by rw [decide_eq_false h]; rfl) rfl rfl
    | 1, _ => exact Tr.ev (n := ⟨1000000, [(79, false)]⟩) (N := 9) (keep := maKA) (vc := (decide (o > 0) == false && true) && true) envN2_ok mix (by kernel_rfl) (by rw [decide_eq_false h]; rfl) rfl rfl
    | d + 2, h => exact absurd h (by omega)
  | 3, _ => by
    match d, hd with
    | 0, _ => exact Tr.ev (n := ⟨1000000, [(79, false)]⟩) (N := 9) (keep := maKA) (vc := (decide (o > 0) == false && true) && true) envN2_ok mix (by kernel_rfl) (by rw [decide_eq_false h]; rfl) rfl rfl
    | 1, _ => exact Tr.ev (n := ⟨1000000, [(79, false)]⟩) (N := 9) (keep := maKA) (vc := (decide (o > 0) == false && true) && true) envN2_ok mix (by kernel_rfl) (by rw [decide_eq_false h]; rfl) rfl rfl
    | d + 2, h => exact absurd h (by omega)
  | k + 4, h => absurd h (by omega)
theorem ma_next : ∀ i, i < 4 → Tr Try.prog 0 (cR (postC 2 maB)) (stOf (maA (i : Nat)) (maG a b c X Y Z S)) .normal (stOf (maA ((i + 1 : Nat) : Int)) (maG a b c X Y Z S))
  | 0, _ => Tr.ev (n := 40) (N := 9) (keep := maKA) (vc := true) envN2_ok mix (by kernel_rfl) rfl rfl rfl
  | 1, _ => Tr.ev (n := 40) (N := 9) (keep := maKA) (vc := true) envN2_ok mix (by kernel_rfl) rfl rfl rfl
  | 2, _ => Tr.ev (n := 40) (N := 9) (keep := maKA) (vc := true) envN2_ok mix (by kernel_rfl) rfl rfl rfl
  | 3, _ => Tr.ev (n := 40) (N := 9) (keep := maKA) (vc := true) envN2_ok mix (by kernel_rfl) rfl rfl rfl
  | k + 4, h => absurd h (by omega)
theorem ma_last : Tr Try.prog 0 maB (stOf (maA (4 : Nat)) (maG a b c X Y Z S)) (.exit 0) (stOf (maA (4 : Nat)) (maG a b c X Y Z S)) :=
  Tr.ev (n := 40) (N := 9) (keep := maKA) (vc := true) envN2_ok mix (by kernel_rfl) rfl rfl rfl
def maV (S : Nat → Int) : Nat := natB 18446744073709551616 (fun j => S (0 + j)) 9 % L
noncomputable def maG9 : Heap := [some (.ints .u8 32 a), some (.ints .u8 32 b), some (.ints .u8 32 c), some (.ints .u8 32 (nbF (dq (maV S) 0) (dq (maV S) 1) (dq (maV S) 2) (dq (maV S) 3)))]
theorem ma_post (h : wordsB 9 (fun j => S (0 + j)) = true) : Tr Try.prog 0 (cR maX) (stOf (maA 4) (maG a b c X Y Z S)) .ret (stOf (tmk [(6, .ptr 3 [])] 0 98) (maG9 a b c S ++ (maG a b c X Y Z S).drop 4)) :=
  Tr.ev (n := 1000000) (N := 9) (keep := maskOf [6]) (vc := wordsB 9 (fun j => S (0 + j)) && true && true && true && true) envN2_ok mix (by kernel_rfl) (by rw [h]; rfl) rfl rfl
end
end Go.Proofs.Ytbcbmkgfjegbhaa

/-! scalar.MulAdd: a product and a number modulo the order. No condition. -/
namespace Go.Proofs.Ytbcbmkgfjegbhaa
open Go.AE Fardel
set_option maxRecDepth 100000

theorem natB_set {B : Nat} (f : Nat → Int) (j : Nat) (v : Int) : ∀ n, j < n → natB B (upd f j v) n + B ^ j * (f j).toNat = natB B f n + B ^ j * v.toNat
  | n + 1, h => by
    rw [natB, natB]
    rcases Nat.lt_or_ge j n with h2 | h2
    · have ih := natB_set (B := B) f j v n h2
      rw [upd_ne (by omega)]
      omega
    · have e : n = j := by omega
      subst e
      rw [natB_upd n (Nat.le_refl _)]
      have e2 : upd f n v n = v := by unfold upd; rw [Nat.beq_refl]; rfl
      rw [e2]
      omega

theorem step_num {x y o s p : Nat} (hx : x < 18446744073709551616) (hy : y < 18446744073709551616) (ho : o < 18446744073709551616) (hs : s < 18446744073709551616) (hp : p = x * y) :
    p / 18446744073709551616 + (p % 18446744073709551616 + o) / 18446744073709551616 + (s + (p % 18446744073709551616 + o) % 18446744073709551616) / 18446744073709551616 < 18446744073709551616 ∧
    (s + (p % 18446744073709551616 + o) % 18446744073709551616) % 18446744073709551616 + 18446744073709551616 * (p / 18446744073709551616 + (p % 18446744073709551616 + o) / 18446744073709551616 + (s + (p % 18446744073709551616 + o) % 18446744073709551616) / 18446744073709551616) = s + p + o := by
  have h : p ≤ 18446744073709551615 * 18446744073709551615 := by rw [hp]; exact Nat.mul_le_mul (by omega) (by omega)
  clear hp
  omega

theorem ma_digit {X Y S : Nat → Int} {i k x y s o : Nat} (hX : X i = (x : Int)) (hY : Y k = (y : Int)) (hS : S (i + k) = (s : Int)) (hx : x < 18446744073709551616) (hy : y < 18446744073709551616) (ho : o < 18446744073709551616) (hs : s < 18446744073709551616) :
    ∃ s' o' : Nat, s' < 18446744073709551616 ∧ o' < 18446744073709551616 ∧ maN X Y S i k o = (o' : Int) ∧ maS X Y S i k o = upd S (i + k) (s' : Int) ∧ s' + 18446744073709551616 * o' = s + x * y + o := by
  obtain ⟨p, hp⟩ : ∃ p, p = x * y := ⟨_, rfl⟩
  have hn := step_num hx hy ho hs hp
  have e1 : maLw X Y i k = p % 18446744073709551616 := by
    unfold maLw
    rw [hX, hY, ← Int.natCast_mul, ← hp, IntKind.wrap_u64]
    omega
  have e2 : (mulHi (X i) (Y k)).toNat % 18446744073709551616 = p / 18446744073709551616 := by
    rw [hX, hY, mulHi_nat x y hx hy, ← hp, Int.toNat_natCast]
    have h : p / 18446744073709551616 < 18446744073709551616 := by have := hn.1; clear e1 hn hp; omega
    exact Nat.mod_eq_of_lt h
  have e3 : maLo X Y i k o = (((p % 18446744073709551616 + o) % 18446744073709551616 : Nat) : Int) := by
    unfold maLo
    rw [e1]
    rfl
  refine ⟨(s + (p % 18446744073709551616 + o) % 18446744073709551616) % 18446744073709551616, p / 18446744073709551616 + (p % 18446744073709551616 + o) / 18446744073709551616 + (s + (p % 18446744073709551616 + o) % 18446744073709551616) / 18446744073709551616, Nat.mod_lt _ (by decide), hn.1, ?_, ?_, by rw [← hp]; exact hn.2⟩
  · unfold maN
    rw [e1, e2, e3, hS]
    unfold addHi
    simp only [Int.toNat_natCast]
    rw [IntKind.wrap_u64, IntKind.wrap_u64]
    have h := hn.1
    generalize (p % 18446744073709551616 + o) / 18446744073709551616 = u at *
    generalize (s + (p % 18446744073709551616 + o) % 18446744073709551616) / 18446744073709551616 = v at *
    generalize p / 18446744073709551616 = w at *
    clear e1 e2 e3 hn hp
    omega
  · unfold maS
    rw [e3, hS]
    rfl

def maR (X Y S : Nat → Int) (i : Nat) : Nat → Int × (Nat → Int)
  | 0 => (0, S)
  | k + 1 => (maN X Y (maR X Y S i k).2 i k (maR X Y S i k).1, maS X Y (maR X Y S i k).2 i k (maR X Y S i k).1)

def numOf (f : Nat → Int) (i : Nat) : Nat := (f i).toNat
theorem dig_nat {n : Nat} {f : Nat → Int} (h : digs 18446744073709551616 n f) {i : Nat} (hi : i < n) : f i = (numOf f i : Int) ∧ numOf f i < 18446744073709551616 := by
  have := h i hi
  unfold numOf
  omega

theorem maR_spec {X Y S : Nat → Int} (hX : digs 18446744073709551616 4 X) (hY : digs 18446744073709551616 4 Y) (hS : digs 18446744073709551616 9 S) {i : Nat} (hi : i < 4) : ∀ k, k ≤ 4 →
    ∃ (o : Nat), o < 18446744073709551616 ∧ (maR X Y S i k).1 = (o : Int) ∧ digs 18446744073709551616 9 (maR X Y S i k).2 ∧ (∀ j, i + 4 ≤ j → (maR X Y S i k).2 j = S j) ∧
      natB 18446744073709551616 (maR X Y S i k).2 9 + 18446744073709551616 ^ (i + k) * o = natB 18446744073709551616 S 9 + 18446744073709551616 ^ i * (numOf X i * natB 18446744073709551616 Y k)
  | 0, _ => ⟨0, by decide, rfl, hS, fun _ _ => rfl, by simp [maR, natB]⟩
  | k + 1, hk => by
    obtain ⟨o, ho, h1, h2, h3, h4⟩ := maR_spec hX hY hS hi k (by omega)
    obtain ⟨x1, x2⟩ := dig_nat hX hi
    obtain ⟨y1, y2⟩ := dig_nat hY (i := k) (by omega)
    obtain ⟨s1, s2⟩ := dig_nat h2 (i := i + k) (by omega)
    obtain ⟨s', o', g1, g2, g3, g4, g5⟩ := ma_digit x1 y1 s1 x2 y2 ho s2
    have e1 : (maR X Y S i (k + 1)).1 = (o' : Int) := by
      show maN X Y (maR X Y S i k).2 i k (maR X Y S i k).1 = _
      rw [h1]; exact g3
    have e2 : (maR X Y S i (k + 1)).2 = upd (maR X Y S i k).2 (i + k) (s' : Int) := by
      show maS X Y (maR X Y S i k).2 i k (maR X Y S i k).1 = _
      rw [h1]; exact g4
    rw [e1, e2]
    refine ⟨o', g2, rfl, ?_, ?_, ?_⟩
    · intro j hj
      unfold upd
      cases Nat.beq j (i + k) with
      | true => exact ⟨by rw [cond_true]; omega, by rw [cond_true]; omega⟩
      | false => exact h2 j hj
    · intro j hj
      rw [upd_ne (by omega)]
      exact h3 j hj
    · have hset := natB_set (B := 18446744073709551616) (maR X Y S i k).2 (i + k) (s' : Int) 9 (by omega)
      have hy : natB 18446744073709551616 Y (k + 1) = natB 18446744073709551616 Y k + 18446744073709551616 ^ k * numOf Y k := rfl
      rw [hy]
      have hss : ((maR X Y S i k).2 (i + k)).toNat = numOf (maR X Y S i k).2 (i + k) := rfl
      rw [hss, Int.toNat_natCast] at hset
      rw [Nat.mul_add, Nat.mul_add, show i + (k + 1) = i + k + 1 from rfl, Nat.pow_succ]
      rw [show (18446744073709551616 : Nat) ^ i * (numOf X i * (18446744073709551616 ^ k * numOf Y k)) = 18446744073709551616 ^ (i + k) * (numOf X i * numOf Y k) by rw [Nat.pow_add]; ac_rfl]
      have g6 := congrArg (fun z => 18446744073709551616 ^ (i + k) * z) g5
      simp only [Nat.mul_add] at g6
      rw [Nat.mul_assoc]
      generalize 18446744073709551616 ^ (i + k) * (18446744073709551616 * o') = t1 at *
      generalize 18446744073709551616 ^ (i + k) * s' = t2 at *
      generalize 18446744073709551616 ^ (i + k) * o = t3 at *
      generalize 18446744073709551616 ^ (i + k) * (numOf X i * numOf Y k) = t4 at *
      generalize 18446744073709551616 ^ (i + k) * numOf (maR X Y S i k).2 (i + k) = t5 at *
      generalize 18446744073709551616 ^ i * (numOf X i * natB 18446744073709551616 Y k) = t6 at *
      clear e1 e2 hss hy
      omega

def maQ (X Y S : Nat → Int) (i : Nat) : Nat → Int := upd (maR X Y S i 4).2 (i + 4) (addLo ((maR X Y S i 4).2 (i + 4)).toNat (maR X Y S i 4).1.toNat)
theorem maQ_spec {X Y S : Nat → Int} (hX : digs 18446744073709551616 4 X) (hY : digs 18446744073709551616 4 Y) (hS : digs 18446744073709551616 9 S) {i : Nat} (hi : i < 4) (h0 : ∀ j, i + 4 ≤ j → S j = 0) :
    digs 18446744073709551616 9 (maQ X Y S i) ∧ (∀ j, i + 1 + 4 ≤ j → maQ X Y S i j = 0) ∧
      natB 18446744073709551616 (maQ X Y S i) 9 = natB 18446744073709551616 S 9 + 18446744073709551616 ^ i * (numOf X i * natB 18446744073709551616 Y 4) := by
  obtain ⟨o, ho, h1, h2, h3, h4⟩ := maR_spec hX hY hS hi 4 (Nat.le_refl _)
  have hz : (maR X Y S i 4).2 (i + 4) = 0 := by rw [h3 _ (Nat.le_refl _), h0 _ (Nat.le_refl _)]
  have e : maQ X Y S i = upd (maR X Y S i 4).2 (i + 4) (o : Int) := by
    unfold maQ
    rw [hz, h1]
    unfold addLo
    rw [show (0 : Int).toNat = 0 from rfl, Int.toNat_natCast, Nat.zero_add, Nat.mod_eq_of_lt ho]
  rw [e]
  refine ⟨?_, ?_, ?_⟩
  · intro j hj
    unfold upd
    cases Nat.beq j (i + 4) with
    | true => exact ⟨by rw [cond_true]; omega, by rw [cond_true]; omega⟩
    | false => exact h2 j hj
  · intro j hj
    rw [upd_ne (by omega), h3 _ (by omega)]
    exact h0 j (by omega)
  · have hset := natB_set (B := 18446744073709551616) (maR X Y S i 4).2 (i + 4) (o : Int) 9 (by omega)
    rw [hz, show (0 : Int).toNat = 0 from rfl, Nat.mul_zero, Nat.add_zero, Int.toNat_natCast, h4] at hset
    exact hset

def maP (X Y S : Nat → Int) : Nat → Nat → Int
  | 0 => S
  | i + 1 => maQ X Y (maP X Y S i) i
theorem maP_spec {X Y S : Nat → Int} (hX : digs 18446744073709551616 4 X) (hY : digs 18446744073709551616 4 Y) (hS : digs 18446744073709551616 9 S) (h0 : ∀ j, 4 ≤ j → S j = 0) : ∀ i, i ≤ 4 →
    digs 18446744073709551616 9 (maP X Y S i) ∧ (∀ j, i + 4 ≤ j → maP X Y S i j = 0) ∧ natB 18446744073709551616 (maP X Y S i) 9 = natB 18446744073709551616 S 9 + natB 18446744073709551616 X i * natB 18446744073709551616 Y 4
  | 0, _ => ⟨hS, fun j hj => h0 j (by omega), by simp [maP, natB]⟩
  | i + 1, hi => by
    obtain ⟨g1, g2, g3⟩ := maP_spec hX hY hS h0 i (by omega)
    obtain ⟨k1, k2, k3⟩ := maQ_spec hX hY g1 (i := i) (by omega) g2
    refine ⟨k1, k2, ?_⟩
    show natB 18446744073709551616 (maQ X Y (maP X Y S i) i) 9 = _
    rw [k3, g3, show natB 18446744073709551616 X (i + 1) = natB 18446744073709551616 X i + 18446744073709551616 ^ i * numOf X i from rfl, Nat.add_mul, Nat.add_assoc, Nat.mul_assoc]

/-! ### The run -/
section
variable (a b c X Y Z S : Nat → Int)
theorem ma_loop4 (i : Nat) (hi : i < 4) (o : Int) (ho : 0 ≤ o) (ho2 : o < 18446744073709551616) (hz : S (i + 4) = 0) :
    Tr Try.prog 0 (.block 4 (.loop maO)) (stOf (maU i (i + 4) o) (maG a b c X Y Z S)) .normal (stOf (maA (i : Nat)) (maG a b c X Y Z (upd S (i + 4) (addLo (S (i + 4)).toNat o.toNat)))) := by
  by_cases h : o > 0
  · have e : addHi (S (i + 4)).toNat o.toNat = 0 := by
      rw [hz]
      unfold addHi
      have : ((0 : Int).toNat + o.toNat) / 18446744073709551616 = 0 := by omega
      rw [this]
      rfl
    have h1 := ma_over a b c X Y Z S o h i hi
    have h2 := ma_out a b c X Y Z (upd S (i + 4) (addLo (S (i + 4)).toNat o.toNat)) 0 (by omega) 1 (by decide) i hi
    rw [e] at h1
    exact Tr.iter (S := fun d => match d with
      | 0 => stOf (maU i (i + 4) o) (maG a b c X Y Z S)
      | _ + 1 => stOf (maU i (i + 5) 0) (maG a b c X Y Z (upd S (i + 4) (addLo (S (i + 4)).toNat o.toNat)))) (n := 1) (fun d hd => by
        obtain rfl : d = 0 := by omega
        exact h1) h2
  · have e : upd S (i + 4) (addLo (S (i + 4)).toNat o.toNat) = S := by
      have e0 : o = 0 := by omega
      funext j
      unfold upd
      cases hj : Nat.beq j (i + 4) with
      | true =>
        rw [cond_true, Nat.eq_of_beq_eq_true hj, hz, e0]
        rfl
      | false => rfl
    rw [e]
    exact Tr.iter (S := fun _ => stOf (maU i (i + 4) o) (maG a b c X Y Z S)) (n := 0) (fun d hd => absurd hd (by omega)) (ma_out a b c X Y Z S o h 0 (by decide) i hi)

theorem ma_round (i : Nat) (hi : i < 4) (ho : 0 ≤ (maR X Y S i 4).1) (ho2 : (maR X Y S i 4).1 < 18446744073709551616) (hz : (maR X Y S i 4).2 (i + 4) = 0) :
    Tr Try.prog 0 maB (stOf (maA (i : Nat)) (maG a b c X Y Z S)) .normal (stOf (maA ((i + 1 : Nat) : Int)) (maG a b c X Y Z (maQ X Y S i))) := by
  refine Tr.pre envN2_ok mix 2 maKA (ma_test a b c X Y Z S i hi) rfl ?_
  rw [maB_eq]
  refine Tr.seq (Tr.block (s1 := stOf (maA (i : Nat)) (maG a b c X Y Z (maQ X Y S i))) ?_ (by intro i h; cases h)) (ma_next a b c X Y Z _ i hi)
  refine Tr.pre envN2_ok mix 2 maKB (ma_begin a b c X Y Z S i hi) rfl ?_
  rw [maJ_eq]
  refine Tr.seq (s1 := stOf (maT i 4 (X i) (maR X Y S i 4).1) (maG a b c X Y Z (maR X Y S i 4).2)) ?_ ?_
  · refine Tr.pre envN2_ok mix 1 maKT (ma_zero a b c X Y Z S 0 i hi) rfl ?_
    rw [maIL_eq]
    exact Tr.iter (S := fun k => stOf (maT i k (X i) (maR X Y S i k).1) (maG a b c X Y Z (maR X Y S i k).2)) (n := 4) (fun k hk => ma_step a b c X Y Z _ _ i hi k hk) (ma_end a b c X Y Z _ _ i hi)
  · refine Tr.pre envN2_ok mix 1 maKU (ma_mid a b c X Y Z _ _ i hi) rfl ?_
    rw [maOL_eq]
    exact ma_loop4 a b c X Y Z _ i hi _ ho ho2 hz

theorem ma_rounds (hX : digs 18446744073709551616 4 X) (hY : digs 18446744073709551616 4 Y) (hS : digs 18446744073709551616 9 S) (h0 : ∀ j, 4 ≤ j → S j = 0) :
    Tr Try.prog 0 (.block 0 (.loop maB)) (stOf (maA (0 : Nat)) (maG a b c X Y Z S)) .normal (stOf (maA (4 : Nat)) (maG a b c X Y Z (maP X Y S 4))) := by
  refine Tr.iter (S := fun i => stOf (maA (i : Nat)) (maG a b c X Y Z (maP X Y S i))) (n := 4) (fun i hi => ?_) (ma_last a b c X Y Z _)
  obtain ⟨g1, g2, g3⟩ := maP_spec hX hY hS h0 i (by omega)
  obtain ⟨o, ho, k1, k2, k3, k4⟩ := maR_spec hX hY g1 hi 4 (Nat.le_refl _)
  exact ma_round a b c X Y Z _ i hi (by rw [k1]; omega) (by rw [k1]; omega) (by rw [k3 _ (Nat.le_refl _)]; exact g2 _ (Nat.le_refl _))
end

theorem sh0_eq (f : Nat → Int) : sh0 f = f := by
  funext j
  unfold sh0
  rw [Nat.zero_add]
theorem wdF_digs (f : Nat → Int) (n m : Nat) : digs 18446744073709551616 m (wdF f n) := dgB_digs (by decide) _ _
theorem natB_wdF {f : Nat → Int} (h : digs 256 32 f) : natB 18446744073709551616 (wdF f 32) 4 = natB 256 f 32 := by
  unfold wdF
  rw [natB_dgB]
  exact Nat.mod_eq_of_lt (Nat.lt_of_lt_of_le (natB_lt 32 h) (by decide))
theorem maZ_ge (c : Nat → Int) (j : Nat) (h : 4 ≤ j) : maZ c j = 0 := by
  unfold maZ catF
  have e : Nat.blt j 4 = false := by
    cases hb : Nat.blt j 4
    · rfl
    · simp at hb; omega
  rw [e, cond_false, sh0_eq]
  rcases Nat.lt_or_ge (j - 4) 5 with h2 | h2
  · rw [updN_eq h2]
  · exact updN_ge h2
theorem maZ_lt (c : Nat → Int) (j : Nat) (h : j < 4) : maZ c j = wdF c 32 j := by
  unfold maZ catF
  have e : Nat.blt j 4 = true := by simpa using h
  rw [e, cond_true, sh0_eq, sh0_eq]
theorem maZ_digs (c : Nat → Int) : digs 18446744073709551616 9 (maZ c) := by
  intro j hj
  rcases Nat.lt_or_ge j 4 with h | h
  · rw [maZ_lt c j h]
    exact wdF_digs c 32 4 j h
  · rw [maZ_ge c j h]
    exact ⟨by decide, by decide⟩
theorem natB_maZ {c : Nat → Int} (h : digs 256 32 c) : natB 18446744073709551616 (maZ c) 9 = natB 256 c 32 := by
  have e : natB 18446744073709551616 (maZ c) 9 = natB 18446744073709551616 (maZ c) 4 := by
    simp only [natB, maZ_ge c 4 (by omega), maZ_ge c 5 (by omega), maZ_ge c 6 (by omega), maZ_ge c 7 (by omega), maZ_ge c 8 (by omega), show (0 : Int).toNat = 0 from rfl, Nat.mul_zero, Nat.add_zero]
  rw [e, natB_congr 4 (fun j hj => maZ_lt c j hj)]
  exact natB_wdF h

/-- The number of a·b + c modulo the order. -/
def maNum (a b c : Nat → Int) : Nat := (natB 256 a 32 * natB 256 b 32 + natB 256 c 32) % L
theorem ma_tr {a b c : Nat → Int} (ha : bytesB 32 a = true) (hb : bytesB 32 b = true) (hc : bytesB 32 c = true) : ∃ S, maV S = maNum a b c ∧
    Tr Try.prog 0 maC (stOf ([.ints .u8 32 a, .ints .u8 32 b, .ints .u8 32 c] ++ undefs 95) []) .ret (stOf (tmk [(6, .ptr 3 [])] 0 98) (maG9 a b c S ++ (maG a b c (wdF a 32) (wdF b 32) (wdF c 32) S).drop 4)) := by
  have hP := maP_spec (wdF_digs a 32 4) (wdF_digs b 32 4) (maZ_digs c) (maZ_ge c) 4 (Nat.le_refl _)
  refine ⟨maP (wdF a 32) (wdF b 32) (maZ c) 4, ?_, ?_⟩
  · unfold maV maNum
    have e : natB 18446744073709551616 (fun j => maP (wdF a 32) (wdF b 32) (maZ c) 4 (0 + j)) 9 = natB 18446744073709551616 (maP (wdF a 32) (wdF b 32) (maZ c) 4) 9 := natB_congr 9 fun j _ => by rw [Nat.zero_add]
    rw [e, hP.2.2, natB_maZ (bytesB_spec hc), natB_wdF (bytesB_spec ha), natB_wdF (bytesB_spec hb), Nat.add_comm]
  · refine Tr.pre envN2_ok mix 3 maK0 (ma_pre a b c) (by unfold maVC0; rw [sh0_eq, sh0_eq, sh0_eq, ha, hb, hc]; rfl) ?_
    rw [sh0_eq, sh0_eq, sh0_eq, maX_eq]
    refine Tr.seq (s1 := stOf (maA 4) (maG a b c (wdF a 32) (wdF b 32) (wdF c 32) (maP (wdF a 32) (wdF b 32) (maZ c) 4))) ?_ (ma_post a b c _ _ _ _ ?_)
    · refine Tr.pre envN2_ok mix 1 maKA (ma_ini a b c _ _ _ _) rfl ?_
      rw [maL_eq]
      exact ma_rounds a b c _ _ _ _ (wdF_digs a 32 4) (wdF_digs b 32 4) (maZ_digs c) (maZ_ge c)
    · unfold wordsB
      rw [List.all_eq_true]
      intro j hj
      have := hP.1 j (by simpa using hj)
      refine decide_eq_true ?_
      show 0 ≤ maP (wdF a 32) (wdF b 32) (maZ c) 4 (0 + j) ∧ maP (wdF a 32) (wdF b 32) (maZ c) 4 (0 + j) < 18446744073709551616
      rw [Nat.zero_add]
      exact this

end Go.Proofs.Ytbcbmkgfjegbhaa

/-! scalar.MulAdd and Order by their models. No condition. -/
namespace Go.Proofs.Ytbcbmkgfjegbhaa
open Go.AE Fardel
set_option maxRecDepth 100000

noncomputable def maF (a b c : Nat → Int) : Nat → Int := hid (fun (a b c : Nat → Int) => nbF (dq (maNum a b c) 0) (dq (maNum a b c) 1) (dq (maNum a b c) 2) (dq (maNum a b c) 3)) a b c
theorem maF_eq (a b c : Nat → Int) : maF a b c = nbF (dq (maNum a b c) 0) (dq (maNum a b c) 1) (dq (maNum a b c) 2) (dq (maNum a b c) 3) := by unfold maF; rw [hid_eq]
noncomputable def MulAddP : PModel
  | [.ints .u8 32 a, .ints .u8 32 b, .ints .u8 32 c] => some (bytesB 32 a && (bytesB 32 b && bytesB 32 c), .ints .u8 32 (maF a b c))
  | _ => none
theorem ma_res (a b c X Y Z S : Nat → Int) : evResults Try.prog (stOf (tmk [(6, .ptr 3 [])] 0 98) (maG9 a b c S ++ (maG a b c X Y Z S).drop 4)) Try.f19.results.toList =
    some (true, [.ints .u8 32 (nbF (dq (maV S) 0) (dq (maV S) 1) (dq (maV S) 2) (dq (maV S) 3))], 8) := by kernel_rfl

theorem MulAdd_ok : SoundM Try.prog 19 (pureModel MulAddP) := by
  refine SoundM.refineX ?_
  intro args vc v hm hvc ρ xs hargs
  unfold MulAddP at hm
  split at hm
  · rename_i a b c
    cases hm
    have hx : VLs rho0 [.ints .u8 32 a, .ints .u8 32 b, .ints .u8 32 c] xs := argsP_VLs rfl hargs
    have hv := Bool.and_eq_true_iff.1 hvc
    have hv2 := Bool.and_eq_true_iff.1 hv.2
    obtain ⟨S, hS, htr⟩ := ma_tr hv.1 hv2.1 hv2.2
    refine ⟨pureModel (fun args => open Classical in if args = [.ints .u8 32 a, .ints .u8 32 b, .ints .u8 32 c] then some (true, .ints .u8 32 (nbF (dq (maV S) 0) (dq (maV S) 1) (dq (maV S) 2) (dq (maV S) 3))) else none), ?_, _, hx,
      ⟨true, .ints .u8 32 (nbF (dq (maV S) 0) (dq (maV S) 1) (dq (maV S) 2) (dq (maV S) 3)), [], 0, 0⟩, by simp [pureModel], rfl, ?_⟩
    · refine SoundM.of_tr0 (fn := Try.f19) (c := maC) (by kernel_rfl) (by kernel_rfl) (by kernel_rfl) ?_
      intro args vc v hm hvc
      split at hm
      · rename_i e
        cases hm
        subst e
        exact ⟨rfl, rfl, .ret, _, _, 8, .inl rfl, htr, ma_res _ _ _ _ _ _ _, rfl⟩
      · cases hm
    · intro ρ' w hw
      rw [hS, ← maF_eq] at hw
      exact hw
  · cases hm

theorem L_val : L = 7237005577332262213973186563042994240857116359379907606001950938285454250989 := rfl
theorem maNum_lt (a b c : Nat → Int) : maNum a b c < L := Nat.mod_lt _ (by decide)
theorem maF_dg (a b c : Nat → Int) (i : Nat) (hi : i < 32) : maF a b c i = dgB 256 (maNum a b c) i := by
  rw [maF_eq]
  refine nbF_eq ?_ i hi
  have := maNum_lt a b c
  rw [L_val] at this
  omega
theorem bytes_dg {f : Nat → Int} {V : Nat} (h : ∀ i, i < 32 → f i = dgB 256 V i) : bytesB 32 f = true := bytesB_of fun i hi => by
  rw [h i hi]
  exact dgB_digs (by decide) V 32 i hi
theorem maF_bytes (a b c : Nat → Int) : bytesB 32 (maF a b c) = true := bytes_dg (maF_dg a b c)
theorem hi_dg {f : Nat → Int} {V : Nat} (h : ∀ i, i < 32 → f i = dgB 256 V i) (hV : V < 115792089237316195423570985008687907853269984665640564039457584007913129639936) : hi f 256 = V := by
  rw [hi_all (bytesB_spec (bytes_dg h)), natN_natB, natB_congr 32 h, natB_dgB]
  exact Nat.mod_eq_of_lt hV
theorem maF_hi (a b c : Nat → Int) : hi (maF a b c) 256 = maNum a b c := hi_dg (maF_dg a b c) (by have := maNum_lt a b c; rw [L_val] at this; omega)
theorem natB_hi {a : Nat → Int} (h : bytesB 32 a = true) : natB 256 a 32 = hi a 256 := by rw [hi_all (bytesB_spec h), natN_natB]

end Go.Proofs.Ytbcbmkgfjegbhaa

/-! scalar.Reduce, Fine by their models. No condition. -/
namespace Go.Proofs.Ytbcbmkgfjegbhaa
open Go.AE Fardel
set_option maxRecDepth 100000

/-- A number of 64 bytes modulo the order. -/
noncomputable def rdN (f : Nat → Int) : Nat := natB 18446744073709551616 (fun j => wdH (sh0 f) 64 (0 + j)) 8 % L
noncomputable def rdF (f : Nat → Int) : Nat → Int := hid (fun f => nbF (dq (rdN f) 0) (dq (rdN f) 1) (dq (rdN f) 2) (dq (rdN f) 3)) f
theorem rdF_eq (f : Nat → Int) : rdF f = nbF (dq (rdN f) 0) (dq (rdN f) 1) (dq (rdN f) 2) (dq (rdN f) 3) := by unfold rdF; rw [hid_eq]
noncomputable def rdV (f : Nat → Int) : Bool := (bytesB 64 (sh0 f) && true) && (((wordsB 8 (fun j => wdH (sh0 f) 64 (0 + j)) && true) && true) && true) && true
theorem rd_mv (f : Nat → Int) : mv (evFn Try.prog envN2 1000000 Try.f44) [.ints .u8 64 f] = some (rdV f, .ints .u8 32 (nbF (dq (rdN f) 0) (dq (rdN f) 1) (dq (rdN f) 2) (dq (rdN f) 3))) := by kernel_rfl

theorem rdN_eq {f : Nat → Int} (h : digs 256 64 f) : rdN f = natB 256 f 64 % L := by
  unfold rdN
  have e1 : (fun j => wdH (sh0 f) 64 (0 + j)) = dgB 18446744073709551616 (natB 256 f 64) := by
    funext j
    rw [wdH_eq, Nat.zero_add]
    have : sh0 f = f := by funext i; unfold sh0; rw [Nat.zero_add]
    rw [this]
    rfl
  have hlt := natB_lt 64 h
  have e2 : (18446744073709551616 : Nat) ^ 8 = 256 ^ 64 := by decide +kernel
  rw [e1, natB_dgB, e2, Nat.mod_eq_of_lt hlt]
theorem rdV_ok {f : Nat → Int} (h : bytesB 64 f = true) : rdV f = true := by
  have : sh0 f = f := by funext i; unfold sh0; rw [Nat.zero_add]
  unfold rdV
  rw [this, h]
  have hw : wordsB 8 (fun j => wdH f 64 (0 + j)) = true := by
    unfold wordsB
    rw [List.all_eq_true]
    intro j hj
    rw [decide_eq_true_eq, wdH_eq]
    exact wdF_digs f 64 8 (0 + j) (by simp at hj; omega)
  rw [hw]
  rfl
noncomputable def ReduceP : PModel
  | [.ints .u8 64 f] => some (bytesB 64 f, .ints .u8 32 (rdF f))
  | _ => none
theorem Reduce_ok : SoundM Try.prog 44 (pureModel ReduceP) := by
  refine (SoundM.of_ev envN2_ok mix (n := 1000000) (fn := Try.f44) (by kernel_rfl) (by kernel_rfl) (by kernel_rfl)).pure ?_
  intro args vc v h hvc
  unfold ReduceP at h
  split at h
  · rename_i f
    cases h
    obtain ⟨r, h3, h4, h5⟩ := mv_some (rd_mv f)
    exact ⟨rfl, rfl, r, h3, by rw [h4]; exact rdV_ok hvc, by rw [h5, rdF_eq]⟩
  · cases h
theorem rdN_lt (f : Nat → Int) : rdN f < L := Nat.mod_lt _ (by decide)
theorem rdF_dg (f : Nat → Int) (i : Nat) (hi : i < 32) : rdF f i = dgB 256 (rdN f) i := by
  rw [rdF_eq]
  refine nbF_eq ?_ i hi
  have := rdN_lt f
  rw [L_val] at this
  omega
theorem rdF_bytes (f : Nat → Int) : bytesB 32 (rdF f) = true := bytes_dg (rdF_dg f)
theorem rdF_hi (f : Nat → Int) : hi (rdF f) 256 = rdN f := hi_dg (rdF_dg f) (by have := rdN_lt f; rw [L_val] at this; omega)

/-! ### Fine -/

noncomputable def fiW (f : Nat → Int) (k : Nat) : Nat := (wdH (sh0 f) 32 (0 + k)).toNat
theorem fi_mv (f : Nat → Int) : mv (evFn Try.prog envN2 1000000 Try.f11) [.ints .u8 32 f] =
  some (bytesB 32 (sh0 f) && true && true && true, .bool ((bif sb3 (fiW f 0) (fiW f 1) (fiW f 2) (fiW f 3) L0 L1 0 L3 then (1 : Int) else 0) == 1)) := by kernel_rfl
noncomputable def fineB (f : Nat → Int) : Bool := hid (fun f => decide (natB 256 f 32 < L)) f
theorem fineB_eq (f : Nat → Int) : fineB f = decide (natB 256 f 32 < L) := by unfold fineB; rw [hid_eq]
theorem fi_val {f : Nat → Int} (h : bytesB 32 f = true) : ((bif sb3 (fiW f 0) (fiW f 1) (fiW f 2) (fiW f 3) L0 L1 0 L3 then (1 : Int) else 0) == 1) = fineB f := by
  have hd := bytesB_spec h
  have e0 : sh0 f = f := by funext i; unfold sh0; rw [Nat.zero_add]
  have hlt := natB_lt 32 hd
  have ew : ∀ k, fiW f k = dq (natB 256 f 32) k := fun k => by
    unfold fiW
    rw [e0, wdH_eq, Nat.zero_add]
    unfold wdF dq dgB
    rfl
  obtain ⟨a, b, c, d, ha, hb, hc, hdd, q0, q1, q2, q3, hv⟩ := dq_back (V := natB 256 f 32) (by
    have : (256 : Nat) ^ 32 = 115792089237316195423570985008687907853269984665640564039457584007913129639936 := by decide +kernel
    omega)
  have w0 : fiW f 0 = a := by have := ew 0; omega
  have w1 : fiW f 1 = b := by have := ew 1; omega
  have w2 : fiW f 2 = c := by have := ew 2; omega
  have w3 : fiW f 3 = d := by have := ew 3; omega
  rw [w0, w1, w2, w3]
  obtain ⟨s0, s1, s2, s3, h0, h1, h2, h3, -, -, -, -, hs⟩ := sub4 ha hb hc hdd
  rw [← hv] at hs
  rw [fineB_eq]
  clear ew w0 w1 w2 w3 q0 q1 q2 q3 hlt e0 hd
  generalize natB 256 f 32 = V at *
  have hb2 : s0 + 18446744073709551616 * s1 + 340282366920938463463374607431768211456 * s2 + 6277101735386680763835789423207666416102355444464034512896 * s3 < 115792089237316195423570985008687907853269984665640564039457584007913129639936 := by omega
  generalize s0 + 18446744073709551616 * s1 + 340282366920938463463374607431768211456 * s2 + 6277101735386680763835789423207666416102355444464034512896 * s3 = S at *
  have hL : L < 115792089237316195423570985008687907853269984665640564039457584007913129639936 := by rw [L_val]; decide
  have hV : V < 115792089237316195423570985008687907853269984665640564039457584007913129639936 := by omega
  cases hbl : sb3 a b c d L0 L1 0 L3 with
  | true =>
    rw [hbl] at hs
    have g : bitI true = 1 := rfl
    rw [g] at hs
    rw [decide_eq_true (show V < L by generalize L = l at *; omega)]
    rfl
  | false =>
    rw [hbl] at hs
    have g : bitI false = 0 := rfl
    rw [g] at hs
    rw [decide_eq_false (show ¬ V < L by generalize L = l at *; omega)]
    rfl
noncomputable def FineP : PModel
  | [.ints .u8 32 f] => some (bytesB 32 f, .bool (fineB f))
  | _ => none
theorem Fine_ok : SoundM Try.prog 11 (pureModel FineP) := by
  refine (SoundM.of_ev envN2_ok mix (n := 1000000) (fn := Try.f11) (by kernel_rfl) (by kernel_rfl) (by kernel_rfl)).pure ?_
  intro args vc v h hvc
  unfold FineP at h
  split at h
  · rename_i f
    cases h
    obtain ⟨r, h3, h4, h5⟩ := mv_some (fi_mv f)
    have e0 : sh0 f = f := by funext i; unfold sh0; rw [Nat.zero_add]
    refine ⟨rfl, rfl, r, h3, ?_, by rw [h5, fi_val hvc]⟩
    rw [h4, e0, hvc]
    rfl
  · cases h

end Go.Proofs.Ytbcbmkgfjegbhaa

/-! sign: secret, digest, base, Public by their models. No condition. -/
namespace Go.Proofs.Ytbcbmkgfjegbhaa
open Go.AE Fardel
set_option maxRecDepth 100000

/-! ### secret -/
noncomputable def envSe : Env := env0.set 43 (lift 2 shaV)
theorem envSe_ok : EnvOK Try.prog envSe := (env0_ok _).set (Sha_ok.lift 2)
def secS0 (d : Nat → Int) : Nat → Int := fun j => bif Nat.beq j 31 then bits .or .u8 (bits .and .u8 (d (0 + 31)) 127) 64 else bif Nat.beq j 0 then bits .andNot .u8 (d (0 + 0)) 7 else d (0 + j)
noncomputable def secD (f : Nat → Int) : Nat → Int := shaH 32 (catF 0 (fun _ => 0) (sh0 f))
theorem sec_mv (f : Nat → Int) : mv (evFn Try.prog envSe 1000000 Try.f14) [.ints .u8 32 f] = some (true, .tup (.cons (.ints .u8 32 (secS0 (secD f))) (.cons (.ints .u8 32 (fun j => secD f (32 + j))) .nil))) := by kernel_rfl

/-! ### digest -/
noncomputable def envDg : Env := (env0.set 43 (lift 0 shaV)).set 44 (pureModel ReduceP)
theorem envDg_ok : EnvOK Try.prog envDg := ((env0_ok _).set (Sha_ok.lift 0)).set Reduce_ok
noncomputable def dgC : Code := bodyC Try.f16
section
variable (n k : Nat) (f : Nat → Int) (c cp : Option Nat) (ns : Nat → Nat) (fs : Nat → Nat → Int) (cs : Nat → Option Nat)
def fsF : Nat → T := fun i => .fsi .u8 (ns i) (fs i) (cs i)
def dgX (F : Nat → T) : Nat → T := fun j => catT 1 (fun j => bif Nat.beq j 0 then .fsi .u8 n f c else .nilslice) F (0 + j)
noncomputable def dgD (F : Nat → T) : Nat → Int := shaH (totN (dgX n f c F) (1 + k)) (totF (dgX n f c F) (1 + k))
noncomputable def dgW (F : Nat → T) : Bool := (((1 + k) * Try.prog.types[23].bytes).ble 140737488355328 && (1 + k).ble 9223372036854775807) &&
  (((((decide (0 + (1 + k) ≤ 1 + k) && true) && allN (fun j => noPtr (dgX n f c F j) && noPtr (dgX n f c F j)) (1 + k)) && true) && true) &&
    (((allN (fun i => fzOK (dgX n f c F i)) (1 + k) && (lenB (totN (dgX n f c F) (1 + k) : Nat) && lenB (1 + k : Nat))) && true) && true) && (bytesB 64 (dgD n k f c F) && true)) && true
theorem dg_tr (h : dgW n k f c (fsF ns fs cs) = true) : Tr Try.prog 0 dgC (stW 0 0 ([.fsi .u8 n f c, .fsr 1 k (fsF ns fs cs) cp] ++ undefs 9) []) .ret (stW 0 0 (tmk [(4, .ptr 0 [])] 0 11) [some (.ints .u8 32 (rdF (dgD n k f c (fsF ns fs cs))))]) :=
  Tr.evW (n := 1000000) (N := 1) (keep := maskOf [4]) (nm := 0) (vc := dgW n k f c (fsF ns fs cs)) envDg_ok mix (by kernel_rfl) h rfl rfl rfl
end

theorem dgX_zero (n : Nat) (f : Nat → Int) (c : Option Nat) (F : Nat → T) : dgX n f c F 0 = .fsi .u8 n f c := rfl
theorem dgX_succ (n : Nat) (f : Nat → Int) (c : Option Nat) (F : Nat → T) (i : Nat) : dgX n f c F (i + 1) = F i := by
  unfold dgX catT
  cases hb : Nat.blt (0 + (i + 1)) 1 with
  | true => exact absurd (Nat.le_of_ble_eq_true hb) (by omega)
  | false =>
    show F (0 + (i + 1) - 1) = F i
    congr 1
    omega
theorem dgX_N (n : Nat) (f : Nat → Int) (c : Option Nat) (F : Nat → T) : ∀ k, totN (dgX n f c F) (k + 1) = n + totN F k
  | 0 => by
    show 0 + fzN (dgX n f c F 0) = n + 0
    rw [dgX_zero, Nat.zero_add]; rfl
  | k + 1 => by
    show totN (dgX n f c F) (k + 1) + fzN (dgX n f c F (k + 1)) = n + (totN F k + fzN (F k))
    rw [dgX_N n f c F k, dgX_succ, Nat.add_assoc]
theorem dgX_F (n : Nat) (f : Nat → Int) (c : Option Nat) (F : Nat → T) : ∀ k j, j < n + totN F k → totF (dgX n f c F) (k + 1) j = catF n f (totF F k) j
  | 0, j, hj => by
    have hj : j < n := hj
    show catF 0 (fun _ => 0) (fzF (dgX n f c F 0)) j = _
    rw [catF_zero, dgX_zero, catF_lt hj]; rfl
  | k + 1, j, hj => by
    have hj : j < n + (totN F k + fzN (F k)) := hj
    show catF (totN (dgX n f c F) (k + 1)) (totF (dgX n f c F) (k + 1)) (fzF (dgX n f c F (k + 1))) j = catF n f (catF (totN F k) (totF F k) (fzF (F k))) j
    rw [dgX_N, dgX_succ]
    by_cases h1 : j < n + totN F k
    · rw [catF_lt h1, dgX_F n f c F k j h1]
      by_cases h2 : j < n
      · rw [catF_lt h2, catF_lt h2]
      · rw [catF_ge (by omega), catF_ge (by omega), catF_lt (by omega)]
    · rw [catF_ge (by omega), catF_ge (by omega), catF_ge (by omega)]
      congr 1
      omega
theorem dgD_eq (n k : Nat) (f : Nat → Int) (c : Option Nat) (F : Nat → T) : dgD n k f c F = shaH (n + totN F k) (catF n f (totF F k)) := by
  unfold dgD
  rw [Nat.add_comm 1 k, dgX_N]
  exact shaH_congr (dgX_F n f c F k)

theorem litF_in {P : Int → Prop} : ∀ (l : List Int) (i : Nat) (f : Nat → Int), (∀ x, x ∈ l → P x) → (∀ j, P (f j)) → ∀ j, P (litF l i f j)
  | [], _, _, _, hf, j => hf j
  | x :: r, i, f, hl, hf, j => litF_in r (i + 1) (upd f i x) (fun y hy => hl y (List.mem_cons_of_mem _ hy)) (fun j => by
      unfold upd
      cases Nat.beq j i with
      | true => exact hl x List.mem_cons_self
      | false => exact hf j) j
theorem shOut_bd (h : V8) (j : Nat) : 0 ≤ shOut h j ∧ shOut h j < 256 := by
  unfold shOut
  refine litF_in (P := fun x => 0 ≤ x ∧ x < 256) _ _ _ (fun x hx => ?_) (fun _ => by decide) j
  simp only [shOutL, List.mem_flatMap, List.mem_map] at hx
  obtain ⟨w, -, s, -, rfl⟩ := hx
  rw [IntKind.wrap_u8]
  omega
theorem shaH_bd (t : Nat) (A : Nat → Int) (j : Nat) : 0 ≤ shaH t A j ∧ shaH t A j < 256 := by
  rw [shaH_eq]
  exact shOut_bd _ j
theorem shaH_bytes (t : Nat) (A : Nat → Int) (n : Nat) : bytesB n (shaH t A) = true := bytesB_of fun i _ => shaH_bd t A i

theorem allN_of {p : Nat → Bool} : ∀ {n : Nat}, (∀ i, i < n → p i = true) → allN p n = true
  | 0, _ => rfl
  | n + 1, h => by
    unfold allN
    rw [allN_of (fun i hi => h i (by omega)), h n (by omega)]
    rfl
theorem b23 : Try.prog.types[23].bytes = 24 := by kernel_rfl
theorem dgW_ok {n k : Nat} {f : Nat → Int} {c : Option Nat} {F : Nat → T} (h1 : ∀ i, i < k → fzOK (F i) = true) (h2 : lenB (n + totN F k : Nat) = true) (h3 : lenB (1 + k : Nat) = true) : dgW n k f c F = true := by
  have ok : ∀ i, i < 1 + k → fzOK (dgX n f c F i) = true := fun i hi => by
    cases i with
    | zero => rw [dgX_zero]; rfl
    | succ i => rw [dgX_succ]; exact h1 i (by omega)
  have np : ∀ i, i < 1 + k → noPtr (dgX n f c F i) = true := fun i hi => by rw [fzOK_eq (ok i hi)]; rfl
  have hk := lenB_spec h3
  unfold dgW
  rw [b23, allN_of (fun i hi => by rw [np i hi]; rfl), allN_of ok, h3, show totN (dgX n f c F) (1 + k) = n + totN F k by rw [Nat.add_comm 1 k, dgX_N], h2, show bytesB 64 (dgD n k f c F) = true by unfold dgD; exact shaH_bytes _ _ _,
    decide_eq_true (show 0 + (1 + k) ≤ 1 + k by omega), show (((1 + k) * 24).ble 140737488355328) = true by rw [Nat.ble_eq]; omega, show ((1 + k).ble 9223372036854775807) = true by rw [Nat.ble_eq]; omega]
  rfl

noncomputable def digV0 : VModel
  | [.fsi .u8 n f _, .fsr 1 k F _] => some ⟨allN (fun i => fzOK (F i)) k && (lenB (n + totN F k : Nat) && lenB (1 + k : Nat)), .ints .u8 32 (rdF (shaH (n + totN F k) (catF n f (totF F k)))), [some (.ints .u8 32 (rdF (shaH (n + totN F k) (catF n f (totF F k)))))], true⟩
  | _ => none
theorem dg_res (o : Nat → Int) : evResults Try.prog (stW 0 0 (tmk [(4, .ptr 0 [])] 0 11) [some (.ints .u8 32 o)]) Try.f16.results.toList = some (true, [.ints .u8 32 o], 1) := by kernel_rfl
theorem Dig0_ok : SoundV Try.prog 16 digV0 := by
  refine SoundV.of_tr (fn := Try.f16) (c := dgC) (by kernel_rfl) (by kernel_rfl) (by kernel_rfl) ?_
  intro args r hm hvc
  unfold digV0 at hm
  split at hm
  · rename_i n f c k F cp
    cases hm
    simp only [Bool.and_eq_true] at hvc
    obtain ⟨h1, h2, h3⟩ := hvc
    have h1 := allN_spec h1
    have hr := dg_tr n k f c cp (fun i => fzN (F i)) (fun i => fzF (F i)) (fun i => fzC (F i)) (dgW_ok (fun _ _ => rfl) (by
      have e : totN (fsF (fun i => fzN (F i)) (fun i => fzF (F i)) (fun i => fzC (F i))) k = totN F k := totN_st F k
      rw [e]; exact h2) h3)
    have e1 : totN (fsF (fun i => fzN (F i)) (fun i => fzF (F i)) (fun i => fzC (F i))) k = totN F k := totN_st F k
    have e2 : totF (fsF (fun i => fzN (F i)) (fun i => fzF (F i)) (fun i => fzC (F i))) k = totF F k := totF_st F k
    rw [dgD_eq, e1, e2] at hr
    have hr2 : Tr Try.prog 0 dgC (stW 0 0 ([.fsi .u8 n f c, .fsr 1 k F cp] ++ undefs 9) []) .ret _ := hr.weak0 ⟨(fun t ρ x hx => ?_), rfl, rfl, (fun k t h => by cases h), (fun _ h => h), (fun _ h => by omega), rfl, rfl⟩
    · exact ⟨.ret, _, _, _, .inl rfl, hr2, dg_res _, rfl, rfl, fun _ => rfl⟩
    · rcases t with _ | _ | t
      · exact hx
      · exact fsr_congrV (fun i hi => fzOK_eq (h1 i hi)) ρ x hx
      · exact hx
  · cases hm
theorem nil_fsrV {ρ ρ' : Rho} {m : Nat} {F : Nat → T} : ∀ x, (R ρ .nilslice).v x → (R ρ' (.fsr m 0 F none)).v x := by
  intro x hx
  obtain rfl : x = _ := hx
  exact ⟨none, 0, rfl, Nat.le_refl _, (fun _ h => by cases h), (fun h => absurd h (by omega))⟩
/-- Parts of a text, as they are told. -/
def partsN : T → Nat
  | .fsr _ k _ _ => k
  | _ => 0
def partsF : T → Nat → T
  | .fsr _ _ F _ => F
  | _ => fun _ => .any
def partsOK : T → Bool
  | .fsr 1 k F _ => allN (fun i => fzOK (F i)) k && lenB (1 + k : Nat)
  | .nilslice => true
  | _ => false
/-- How many bytes they have, and which. -/
def txtN (t : T) : Nat := totN (partsF t) (partsN t)
def txtF (t : T) : Nat → Int := totF (partsF t) (partsN t)
noncomputable def digV : VModel
  | [.fsi .u8 n f _, t] => some ⟨partsOK t && lenB (n + txtN t : Nat), .ints .u8 32 (rdF (shaH (n + txtN t) (catF n f (txtF t)))), [], true⟩
  | _ => none
noncomputable def digV1 : VModel := frz 0 digV0
theorem Dig_ok : SoundV Try.prog 16 digV := by
  refine SoundV.refine fun args r hr hvc ρ xs hρ hargs => ?_
  unfold digV at hr
  split at hr
  · rename_i n f c t
    cases hr
    simp only [Bool.and_eq_true] at hvc
    obtain ⟨h1, h2⟩ := hvc
    unfold partsOK at h1
    split at h1
    · rename_i k F cp
      simp only [Bool.and_eq_true] at h1
      have h2' : lenB (n + totN F k : Nat) = true := h2
      refine ⟨digV1, Dig0_ok.frz 0, _, hargs, ⟨(allN (fun i => fzOK (F i)) k && (lenB (n + totN F k : Nat) && lenB (1 + k : Nat))) && (true && true), _, _, _⟩, rfl, ?_, rfl, fun _ => rfl, fun ρ' x hx => hx⟩
      rw [h1.1, h1.2, h2']
      rfl
    · obtain ⟨y, ys, e, hy, z, zs, e2, hz, hn⟩ := hargs
      refine ⟨digV1, Dig0_ok.frz 0, [.fsi .u8 n f c, .fsr 1 0 (fun _ => .any) none], ⟨y, ys, e, hy, z, zs, e2, nil_fsrV z hz, hn⟩, ⟨(true && (lenB (n + 0 : Nat) && true)) && (true && true), _, _, _⟩, rfl, ?_, rfl, fun _ => rfl, fun ρ' x hx => hx⟩
      have h2' : lenB (n + 0 : Nat) = true := h2
      rw [h2']
      rfl
    · cases h1
  · cases hr

end Go.Proofs.Ytbcbmkgfjegbhaa

/-! sign: base, Public by their models. No condition. -/
namespace Go.Proofs.Ytbcbmkgfjegbhaa
open Go.AE Fardel
set_option maxRecDepth 100000

noncomputable def secS (f : Nat → Int) : Nat → Int := hid (fun f => secS0 (secD f)) f
theorem secS_eq (f : Nat → Int) : secS f = secS0 (secD f) := by unfold secS; rw [hid_eq]
noncomputable def secX (f : Nat → Int) : Nat → Int := hid (fun f j => secD f (32 + j)) f
theorem secX_eq (f : Nat → Int) : secX f = fun j => secD f (32 + j) := by unfold secX; rw [hid_eq]
theorem secD_eq (f : Nat → Int) : secD f = shaH 32 f := by
  unfold secD
  rw [catF_zero]
  congr 1
  funext j
  unfold sh0
  rw [Nat.zero_add]
theorem secS_bd (f : Nat → Int) (j : Nat) : 0 ≤ secS f j ∧ secS f j < 256 := by
  rw [secS_eq, secD_eq]
  unfold secS0
  cases Nat.beq j 31 with
  | true =>
    have h := shaH_bd 32 f (0 + 31)
    rw [cond_true, and127 h.1 h.2, u8_or _ _ (by omega) (by omega) (by decide) (by decide)]
    have : ((shaH 32 f (0 + 31) % 128).toNat ||| (64 : Int).toNat) < 2 ^ 8 := Nat.or_lt_two_pow (by omega) (by decide)
    omega
  | false =>
    rw [cond_false]
    cases Nat.beq j 0 with
    | true =>
      have h := shaH_bd 32 f (0 + 0)
      rw [cond_true, u8_andNot _ _ h.1 h.2 (by decide) (by decide)]
      have : ((shaH 32 f (0 + 0)).toNat &&& (255 - (7 : Int).toNat)) < 2 ^ 8 := Nat.and_lt_two_pow _ (by decide)
      omega
    | false => exact shaH_bd _ _ _
theorem secS_bytes (f : Nat → Int) : bytesB 32 (secS f) = true := bytesB_of fun i _ => secS_bd f i
noncomputable def secretP : PModel
  | [.ints .u8 32 f] => some (true, .tup (.cons (.ints .u8 32 (secS f)) (.cons (.ints .u8 32 (secX f)) .nil)))
  | _ => none
theorem Secret_ok : SoundM Try.prog 14 (pureModel secretP) := by
  refine (SoundM.of_ev envSe_ok mix (n := 1000000) (fn := Try.f14) (by kernel_rfl) (by kernel_rfl) (by kernel_rfl)).pure ?_
  intro args vc v h hvc
  unfold secretP at h
  split at h
  · rename_i f
    cases h
    obtain ⟨r, h3, h4, h5⟩ := mv_some (sec_mv f)
    exact ⟨rfl, rfl, r, h3, h4, by rw [h5, secS_eq, secX_eq]⟩
  · cases h

/-! ### base, Public -/
noncomputable def envBa : Env := (env0.set 22 (pureModel BaseP)).set 45 (pureModel MulP)
theorem envBa_ok : EnvOK Try.prog envBa := ((env0_ok _).set Base_pt).set MulP_ok
theorem sbase_mv (f : Nat → Int) : mv (evFn Try.prog envBa 1000000 Try.f17) [.ints .u8 32 f] = some (bytesB 32 f && true && true, ptA (pMul f pB)) := by kernel_rfl
noncomputable def sbaseP : PModel
  | [.ints .u8 32 f] => some (bytesB 32 f, ptA (pMul f pB))
  | _ => none
theorem sbase_ok : SoundM Try.prog 17 (pureModel sbaseP) := by
  refine (SoundM.of_ev envBa_ok mix (n := 1000000) (fn := Try.f17) (by kernel_rfl) (by kernel_rfl) (by kernel_rfl)).pure ?_
  intro args vc v h hvc
  unfold sbaseP at h
  split at h
  · rename_i f
    cases h
    obtain ⟨r, h3, h4, h5⟩ := mv_some (sbase_mv f)
    exact ⟨rfl, rfl, r, h3, by rw [h4, hvc]; rfl, h5⟩
  · cases h
noncomputable def envPu : Env := ((env0.set 14 (pureModel secretP)).set 17 (pureModel sbaseP)).set 18 (pureModel BytesP)
theorem envPu_ok : EnvOK Try.prog envPu := (((env0_ok _).set Secret_ok).set sbase_ok).set PtBytes_ok
/-- A seed's public key: its point, its bytes. -/
noncomputable def pubQ (f : Nat → Int) : Pt := hid (fun f => pMul (secS f) pB) f
theorem pubQ_eq (f : Nat → Int) : pubQ f = pMul (secS f) pB := by unfold pubQ; rw [hid_eq]
noncomputable def pubF (f : Nat → Int) : Nat → Int := hid (fun f => encP (pubQ f)) f
theorem pubF_eq (f : Nat → Int) : pubF f = encP (pubQ f) := by unfold pubF; rw [hid_eq]
theorem pub_mv (f : Nat → Int) : mv (evFn Try.prog envPu 1000000 Try.f8) [.ints .u8 32 f] = some (bytesB 32 (secS f) && true && true, .ints .u8 32 (encP (pMul (secS f) pB))) := by kernel_rfl
noncomputable def PublicP : PModel
  | [.ints .u8 32 f] => some (true, .ints .u8 32 (pubF f))
  | _ => none
theorem Public_ok : SoundM Try.prog 8 (pureModel PublicP) := by
  refine (SoundM.of_ev envPu_ok mix (n := 1000000) (fn := Try.f8) (by kernel_rfl) (by kernel_rfl) (by kernel_rfl)).pure ?_
  intro args vc v h hvc
  unfold PublicP at h
  split at h
  · rename_i f
    cases h
    obtain ⟨r, h3, h4, h5⟩ := mv_some (pub_mv f)
    exact ⟨rfl, rfl, r, h3, by rw [h4, secS_bytes]; rfl, by rw [h5, pubF_eq, pubQ_eq]⟩
  · cases h

end Go.Proofs.Ytbcbmkgfjegbhaa

/-! sign.Sign by its model. No condition. -/
namespace Go.Proofs.Ytbcbmkgfjegbhaa
open Go.AE Fardel
set_option maxRecDepth 100000

noncomputable def envSt : Env := ((env0.set 16 (lift 0 digV)).set 17 (pureModel sbaseP)).set 18 (pureModel BytesP)
theorem envSt_ok : EnvOK Try.prog envSt := (((env0_ok _).set (Dig_ok.lift 0)).set sbase_ok).set PtBytes_ok
noncomputable def topM : Model := evFn Try.prog envSt 1000000 Try.f15
theorem topM_ok : SoundM Try.prog 15 topM := SoundM.of_ev envSt_ok mix (by kernel_rfl) (by kernel_rfl) (by kernel_rfl)
noncomputable def envSg : Env := ((envSt.set 14 (pureModel secretP)).set 19 (pureModel MulAddP)).set 15 topM
theorem envSg_ok : EnvOK Try.prog envSg := ((envSt_ok.set Secret_ok).set MulAdd_ok).set topM_ok

section
variable (f : Nat → Int) (n : Nat) (A : Nat → Int)
noncomputable def sgR1 : Nat → Int := rdF (shaH (32 + n) (catF 32 (sh0 (secX f)) A))
noncomputable def sgK0 (p q : Nat → Int) : Nat → Int := rdF (shaH (64 + n) (catF 64 (sh0 (catF 32 (sh0 p) (sh0 q))) A))
noncomputable def sgO0 (p e : Nat → Int) : Nat → Int := putF 32 32 (putF 0 32 (fun _ => 0) (sh0 p)) (sh0 e)
noncomputable def sgPt1 : Nat → Int := encP (pMul (sgR1 f n A) pB)
noncomputable def sgPu : Nat → Int := encP (pMul (secS f) pB)
noncomputable def sgK1 : Nat → Int := sgK0 n A (sgPt1 f n A) (sgPu f)
noncomputable def sgO1 : Nat → Int := sgO0 (sgPt1 f n A) (maF (sgK1 f n A) (secS f) (sgR1 f n A))
end
section
variable (f : Nat → Int) (t : T)
noncomputable def sgP : Bool := partsOK t && lenB (32 + txtN t : Nat)
noncomputable def sgP2 : Bool := partsOK t && lenB (64 + txtN t : Nat)
noncomputable def sgR0 : Nat → Int := sgR1 f (txtN t) (txtF t)
noncomputable def sgPt : Nat → Int := sgPt1 f (txtN t) (txtF t)
noncomputable def sgK : Nat → Int := sgK1 f (txtN t) (txtF t)
noncomputable def sgO : Nat → Int := sgO1 f (txtN t) (txtF t)
noncomputable def sgW1 : Bool := (bytesB 32 (sgR0 f t) && true) && (((sgP t && true) && true) && true)
noncomputable def sgW (K : Nat → Int) : Bool := ((bytesB 32 K && (bytesB 32 (secS f) && bytesB 32 (sgR0 f t))) && true) && (((sgP2 t && true) && true) && ((bytesB 32 (secS f) && true) && ((sgW1 f t && true) && true)))
end
theorem top_v (p : Nat → Int) (k : Nat) (F : Nat → T) (cp : Option Nat) : (topM [.ptr 0 [], .ptr 1 []] [some (.ints .u8 32 (secX p)), some (.fsr 1 k F cp)]).map (fun r => (r.vc, r.v)) =
  some (sgW1 p (.fsr 1 k F cp), .tup (.cons (.ints .u8 32 (sgR0 p (.fsr 1 k F cp))) (.cons (.ints .u8 32 (sgPt p (.fsr 1 k F cp))) .nil))) := by kernel_rfl

noncomputable def sgC : Code := bodyC Try.f7
noncomputable def sgG (f : Nat → Int) (t : T) (x : T) : Heap := [some (.ints .u8 32 f), some x, some (.ints .u8 64 (sgO f t))]
theorem sg_tr (f : Nat → Int) (k : Nat) (F : Nat → T) (cp : Option Nat) (h : sgW f (.fsr 1 k F cp) (sgK f (.fsr 1 k F cp)) = true) :
    Tr Try.prog 0 sgC (stW 0 0 ([.ints .u8 32 f, .fsr 1 k F cp] ++ undefs 41) []) .ret (stW 0 0 (tmk [(4, .ptr 2 [])] 0 43) (sgG f (.fsr 1 k F cp) (.fsr 1 k F cp))) :=
  Tr.evW (n := 1000000) (N := 3) (keep := maskOf [4]) (nm := 0) (vc := sgW f (.fsr 1 k F cp) (sgK f (.fsr 1 k F cp))) envSg_ok mix (by kernel_rfl) h rfl rfl rfl
theorem sg_tr0 (f : Nat → Int) (h : sgW f .nilslice (sgK f .nilslice) = true) :
    Tr Try.prog 0 sgC (stW 0 0 ([.ints .u8 32 f, .nilslice] ++ undefs 41) []) .ret (stW 0 0 (tmk [(4, .ptr 2 [])] 0 43) (sgG f .nilslice .nilslice)) :=
  Tr.evW (n := 1000000) (N := 3) (keep := maskOf [4]) (nm := 0) (vc := sgW f .nilslice (sgK f .nilslice)) envSg_ok mix (by kernel_rfl) h rfl rfl rfl

theorem sgW_ok {f : Nat → Int} {t : T} (h1 : partsOK t = true) (h2 : lenB (64 + txtN t : Nat) = true) : sgW f t (sgK f t) = true := by
  have h3 : lenB (32 + txtN t : Nat) = true := by
    have := lenB_spec h2
    exact decide_eq_true (by omega)
  have b1 : bytesB 32 (sgK f t) = true := rdF_bytes _
  have b2 : bytesB 32 (sgR0 f t) = true := rdF_bytes _
  unfold sgW sgW1 sgP sgP2
  rw [b1, b2, secS_bytes, h1, h2, h3]
  rfl
theorem sg_any (f : Nat → Int) (t : T) (x : T) (hx : ∀ ρ cs, (R ρ x).c cs → ∃ y, cs = [y]) (hs : x.size = 1) : St.le 0 (stW 0 0 (tmk [(4, .ptr 2 [])] 0 43) (sgG f t x)) (stW 0 0 (tmk [(4, .ptr 2 [])] 0 43) (sgG f t .any)) := by
  refine ⟨(fun _ _ _ h => h), rfl, rfl, (fun k t' hg => ?_), (fun k hg => ?_), (fun _ h => by omega), rfl, rfl⟩
  · rcases k with _ | _ | _ | k
    · exact ⟨t', hg, rfl, fun _ _ h => h⟩
    · cases hg
      refine ⟨x, rfl, hs, fun ρ cs hc => ?_⟩
      obtain ⟨y, rfl⟩ := hx ρ cs hc
      exact ⟨y, rfl, R_cells hc y List.mem_cons_self⟩
    · exact ⟨t', hg, rfl, fun _ _ h => h⟩
    · cases k <;> cases hg
  · rcases k with _ | _ | _ | k
    · cases hg
    · cases hg
    · cases hg
    · cases k <;> rfl
theorem sg_res (f : Nat → Int) (t x : T) : evResults Try.prog (stW 0 0 (tmk [(4, .ptr 2 [])] 0 43) (sgG f t x)) Try.f7.results.toList = some (true, [.ints .u8 64 (sgO f t)], 4) := by kernel_rfl

/-- The signature of so many bytes. -/
noncomputable def sigF (f : Nat → Int) (n : Nat) (A : Nat → Int) : Nat → Int := hid sgO1 f n A
theorem sigF_eq (f : Nat → Int) (n : Nat) (A : Nat → Int) : sigF f n A = sgO1 f n A := by unfold sigF; rw [hid_eq]
def isParts : T → Bool
  | .fsr .. => true
  | .nilslice => true
  | _ => false
noncomputable def signV0 : VModel
  | [.ints .u8 32 f, t] => some ⟨partsOK t && lenB (64 + txtN t : Nat), .ints .u8 64 (sigF f (txtN t) (txtF t)), sgG f t .any, true⟩
  | _ => none
theorem Sign0_ok : SoundV Try.prog 7 signV0 := by
  refine SoundV.of_tr (fn := Try.f7) (c := sgC) (by kernel_rfl) (by kernel_rfl) (by kernel_rfl) ?_
  intro args r hm hvc
  unfold signV0 at hm
  split at hm
  · rename_i f t
    cases hm
    simp only [Bool.and_eq_true] at hvc
    obtain ⟨h1, h2⟩ := hvc
    have hw := sgW_ok (f := f) h1 h2
    have h1' := h1
    unfold partsOK at h1'
    split at h1'
    · rename_i k F cp
      refine ⟨.ret, _, _, _, .inl rfl, (sg_tr f k F cp hw).weak (sg_any f _ _ (fun ρ cs hc => ?_) rfl), sg_res f _ _, ?_, rfl, fun _ => rfl⟩
      · obtain ⟨y, e, -⟩ := hc
        exact ⟨y, e⟩
      · rw [sigF_eq]; rfl
    · refine ⟨.ret, _, _, _, .inl rfl, (sg_tr0 f hw).weak (sg_any f _ _ (fun ρ cs hc => ?_) rfl), sg_res f _ _, ?_, rfl, fun _ => rfl⟩
      · obtain ⟨y, e, -⟩ := hc
        exact ⟨y, e⟩
      · rw [sigF_eq]; rfl
    · cases h1'
  · cases hm
noncomputable def signV : VModel := frz 0 signV0
theorem Sign_ok : SoundV Try.prog 7 signV := Sign0_ok.frz 0

end Go.Proofs.Ytbcbmkgfjegbhaa

/-! sign.Verify by its model. No condition. -/
namespace Go.Proofs.Ytbcbmkgfjegbhaa
open Go.AE Fardel
set_option maxRecDepth 100000

noncomputable def envVe : Env := ((((((env0.set 16 (lift 0 digV)).set 10 (pureModel DecodeP)).set 11 (pureModel FineP)).set 22 (pureModel BaseP)).set 23 (pureModel NegP)).set 21 (pureModel BothP)).set 20 (pureModel SameP)
theorem envVe_ok : EnvOK Try.prog envVe := (((((((env0_ok _).set (Dig_ok.lift 0)).set Decode_ok).set Fine_ok).set Base_pt).set Neg_pt).set Both_pt).set Same_pt

section
variable (p g : Nat → Int) (n : Nat) (A : Nat → Int) (t : T) (b : Bool)
def veT : Nat → Int := fun j => g (0 + j)
def veE : Nat → Int := fun j => g (32 + j)
noncomputable def veK : Nat → Int := sgK0 n A (veT g) p
noncomputable def veS : Bool := pSame (pBoth (veE g) pB (veK p g n A) (pNeg (decP p))) (decP (veT g))
noncomputable def veW0 : Bool := bytesB 32 p && true && (bytesB 32 (veT g) && true && true)
noncomputable def veWA : Bool := ((!decB (veT g)) == true) && true && veW0 p g
noncomputable def veWB : Bool := ((!decB (veT g)) == false) && (((!decB p) == true || false) && true) && veW0 p g
noncomputable def veWC : Bool := ((!decB (veT g)) == false) && (((!decB p) == false || false) && ((false || bytesB 32 (veE g)) && (((!fineB (veE g)) == b || false) && true))) && veW0 p g
noncomputable def veWD : Bool := ((bytesB 32 (veE g) && bytesB 32 (veK p g (txtN t) (txtF t))) && true) && (((sgP2 t && true) && true) && veWC p g false)
noncomputable def veA : VModel := vEv (evFn Try.prog envVe ⟨1000000, [(31, true)]⟩ Try.f9)
noncomputable def veB : VModel := vEv (evFn Try.prog envVe ⟨1000000, [(31, false), (34, true)]⟩ Try.f9)
noncomputable def veC : VModel := vEv (evFn Try.prog envVe ⟨1000000, [(31, false), (34, false), (39, true)]⟩ Try.f9)
noncomputable def veD : VModel := vEv (evFn Try.prog envVe ⟨1000000, [(31, false), (34, false), (39, false)]⟩ Try.f9)
theorem veA_s : SoundV Try.prog 9 veA := SoundV.of_model (SoundM.of_ev envVe_ok mix (by kernel_rfl) (by kernel_rfl) (by kernel_rfl))
theorem veB_s : SoundV Try.prog 9 veB := SoundV.of_model (SoundM.of_ev envVe_ok mix (by kernel_rfl) (by kernel_rfl) (by kernel_rfl))
theorem veC_s : SoundV Try.prog 9 veC := SoundV.of_model (SoundM.of_ev envVe_ok mix (by kernel_rfl) (by kernel_rfl) (by kernel_rfl))
theorem veD_s : SoundV Try.prog 9 veD := SoundV.of_model (SoundM.of_ev envVe_ok mix (by kernel_rfl) (by kernel_rfl) (by kernel_rfl))
theorem veA_v : frz 0 veA [.ints .u8 32 p, .ints .u8 64 g, .any] = some ⟨veWA p g && (true && true), .bool false, [], true⟩ := by kernel_rfl
theorem veB_v : frz 0 veB [.ints .u8 32 p, .ints .u8 64 g, .any] = some ⟨veWB p g && (true && true), .bool false, [], true⟩ := by kernel_rfl
theorem veC_v : frz 0 veC [.ints .u8 32 p, .ints .u8 64 g, .any] = some ⟨veWC p g true && (true && true), .bool false, [], true⟩ := by kernel_rfl
theorem veD_v (k : Nat) (F : Nat → T) (cp : Option Nat) : frz 0 veD [.ints .u8 32 p, .ints .u8 64 g, .fsr 1 k F cp] = some ⟨veWD p g (.fsr 1 k F cp) && (true && true), .bool (veS p g (txtN (.fsr 1 k F cp)) (txtF (.fsr 1 k F cp))), [], true⟩ := by kernel_rfl
theorem veD_0 : frz 0 veD [.ints .u8 32 p, .ints .u8 64 g, .nilslice] = some ⟨veWD p g .nilslice && (true && true), .bool (veS p g (txtN .nilslice) (txtF .nilslice)), [], true⟩ := by kernel_rfl
end

/-- Is a signature one of so many bytes? -/
noncomputable def verB (p g : Nat → Int) (n : Nat) (A : Nat → Int) : Bool := hid (fun p g n A => ((decB (veT g) && decB p) && fineB (veE g)) && veS p g n A) p g n A
theorem verB_eq (p g : Nat → Int) (n : Nat) (A : Nat → Int) : verB p g n A = (((decB (veT g) && decB p) && fineB (veE g)) && veS p g n A) := by unfold verB; rw [hid_eq]
noncomputable def verV : VModel
  | [.ints .u8 32 p, .ints .u8 64 g, t] => some ⟨(bytesB 32 p && bytesB 64 g) && (partsOK t && lenB (64 + txtN t : Nat)), .bool (verB p g (txtN t) (txtF t)), [], true⟩
  | _ => none
theorem Verify_ok : SoundV Try.prog 9 verV := by
  refine SoundV.refine fun args r hr hvc ρ xs hρ hargs => ?_
  unfold verV at hr
  split at hr
  · rename_i p g t
    cases hr
    simp only [Bool.and_eq_true] at hvc
    obtain ⟨⟨hp, hg⟩, h1, h2⟩ := hvc
    have hgb := bytesB_spec hg
    have hT : bytesB 32 (veT g) = true := bytesB_of fun i hi => by unfold veT; rw [Nat.zero_add]; exact hgb i (by omega)
    have hE : bytesB 32 (veE g) = true := bytesB_of fun i hi => hgb (32 + i) (by omega)
    have hw : veW0 p g = true := by unfold veW0; rw [hp, hT]; rfl
    have hany : VLs ρ [.ints .u8 32 p, .ints .u8 64 g, .any] xs := by
      obtain ⟨y, ys, e, hy, z, zs, e2, hz, x, xs', e3, hx, hn⟩ := hargs
      exact ⟨y, ys, e, hy, z, zs, e2, hz, x, xs', e3, trivial, hn⟩
    cases c1 : decB (veT g) with
    | false =>
      refine ⟨frz 0 veA, veA_s.frz 0, _, hany, _, veA_v p g, ?_, rfl, fun _ => rfl, fun ρ' x hx => ?_⟩
      · unfold veWA; rw [c1, hw]; rfl
      · show (R ρ' (.bool (verB p g (txtN t) (txtF t)))).v x
        rw [verB_eq, c1]; exact hx
    | true =>
      cases c2 : decB p with
      | false =>
        refine ⟨frz 0 veB, veB_s.frz 0, _, hany, _, veB_v p g, ?_, rfl, fun _ => rfl, fun ρ' x hx => ?_⟩
        · unfold veWB; rw [c1, c2, hw]; rfl
        · show (R ρ' (.bool (verB p g (txtN t) (txtF t)))).v x
          rw [verB_eq, c1, c2]; exact hx
      | true =>
        cases c3 : fineB (veE g) with
        | false =>
          refine ⟨frz 0 veC, veC_s.frz 0, _, hany, _, veC_v p g, ?_, rfl, fun _ => rfl, fun ρ' x hx => ?_⟩
          · unfold veWC; rw [c1, c2, c3, hw, hE]; rfl
          · show (R ρ' (.bool (verB p g (txtN t) (txtF t)))).v x
            rw [verB_eq, c1, c2, c3]; exact hx
        | true =>
          have hW : veWD p g t = true := by
            unfold veWD veWC sgP2
            rw [c1, c2, c3, hw, hE, h1, h2, show bytesB 32 (veK p g (txtN t) (txtF t)) = true from rdF_bytes _]
            rfl
          have hv : verB p g (txtN t) (txtF t) = veS p g (txtN t) (txtF t) := by rw [verB_eq, c1, c2, c3]; rfl
          have h1' := h1
          unfold partsOK at h1'
          split at h1'
          · rename_i k F cp
            refine ⟨frz 0 veD, veD_s.frz 0, _, hargs, _, veD_v p g k F cp, by rw [hW]; rfl, rfl, fun _ => rfl, fun ρ' x hx => ?_⟩
            rw [hv]; exact hx
          · refine ⟨frz 0 veD, veD_s.frz 0, _, hargs, _, veD_0 p g, by rw [hW]; rfl, rfl, fun _ => rfl, fun ρ' x hx => ?_⟩
            rw [hv]; exact hx
          · cases h1'
  · cases hr

end Go.Proofs.Ytbcbmkgfjegbhaa

/-! What a signature is: it is verified, its parts are bytes of a point and a number below the order. No condition. -/
namespace Go.Proofs.Ytbcbmkgfjegbhaa
open Go.AE Fardel
set_option maxRecDepth 100000

theorem putF_in {lo c : Nat} {f g : Nat → Int} {j : Nat} (h1 : lo ≤ j) (h2 : j < lo + c) : putF lo c f g j = g (j - lo) := by
  unfold putF
  rw [Nat.ble_eq_true_of_le h1, show Nat.blt j (lo + c) = true from Nat.ble_eq_true_of_le h2]
  rfl
theorem putF_out {lo c : Nat} {f g : Nat → Int} {j : Nat} (h : j < lo ∨ lo + c ≤ j) : putF lo c f g j = f j := by
  unfold putF
  have : (Nat.ble lo j && Nat.blt j (lo + c)) = false := by
    cases h1 : Nat.ble lo j with
    | false => rfl
    | true =>
      cases h2 : Nat.blt j (lo + c) with
      | false => rfl
      | true =>
        have a := Nat.le_of_ble_eq_true h1
        have b : j < lo + c := Nat.le_of_ble_eq_true h2
        omega
  rw [this]
  rfl
theorem sig_lo (f : Nat → Int) (n : Nat) (A : Nat → Int) {j : Nat} (hj : j < 32) : sigF f n A j = sgPt1 f n A j := by
  rw [sigF_eq]
  unfold sgO1 sgO0
  rw [putF_out (.inl hj), putF_in (Nat.zero_le _) (by omega), sh0_eq, Nat.sub_zero]
theorem sig_hi (f : Nat → Int) (n : Nat) (A : Nat → Int) {j : Nat} (hj : j < 32) : sigF f n A (32 + j) = maF (sgK1 f n A) (secS f) (sgR1 f n A) j := by
  rw [sigF_eq]
  unfold sgO1 sgO0
  rw [putF_in (by omega) (by omega), sh0_eq]
  congr 1
  omega
theorem sig_bd (f : Nat → Int) (n : Nat) (A : Nat → Int) {j : Nat} (hj : j < 64) : 0 ≤ sigF f n A j ∧ sigF f n A j < 256 := by
  by_cases h : j < 32
  · rw [sig_lo f n A h]
    exact encP_bd _ _
  · rw [show j = 32 + (j - 32) by omega, sig_hi f n A (by omega)]
    exact bytesB_spec (maF_bytes _ _ _) _ (by omega)
theorem sig_bytes (f : Nat → Int) (n : Nat) (A : Nat → Int) : bytesB 64 (sigF f n A) = true := bytesB_of fun i hi => sig_bd f n A hi
theorem sgO1_congr {f : Nat → Int} {n : Nat} {A B : Nat → Int} (h : ∀ j, j < n → A j = B j) : sgO1 f n A = sgO1 f n B := by
  have e1 : sgR1 f n A = sgR1 f n B := by
    unfold sgR1
    rw [shaH_congr fun j hj => ?_]
    by_cases h1 : j < 32
    · rw [catF_lt h1, catF_lt h1]
    · rw [catF_ge (by omega), catF_ge (by omega), h _ (by omega)]
  have e2 : sgPt1 f n A = sgPt1 f n B := by unfold sgPt1; rw [e1]
  have e3 : sgK1 f n A = sgK1 f n B := by
    unfold sgK1 sgK0
    rw [e2, shaH_congr fun j hj => ?_]
    by_cases h1 : j < 64
    · rw [catF_lt h1, catF_lt h1]
    · rw [catF_ge (by omega), catF_ge (by omega), h _ (by omega)]
  unfold sgO1
  rw [e1, e2, e3]
theorem sigF_congr {f : Nat → Int} {n : Nat} {A B : Nat → Int} (h : ∀ j, j < n → A j = B j) : sigF f n A = sigF f n B := by rw [sigF_eq, sigF_eq, sgO1_congr h]
theorem veK_congr {p q g g' : Nat → Int} {n : Nat} {A B : Nat → Int} (hp : ∀ j, j < 32 → p j = q j) (hg : ∀ j, j < 32 → veT g j = veT g' j) (h : ∀ j, j < n → A j = B j) : veK p g n A = veK q g' n B := by
  unfold veK sgK0
  rw [shaH_congr fun j hj => ?_]
  rw [sh0_eq, sh0_eq, sh0_eq, sh0_eq, sh0_eq, sh0_eq]
  by_cases h1 : j < 64
  · rw [catF_lt h1, catF_lt h1]
    by_cases h2 : j < 32
    · rw [catF_lt h2, catF_lt h2, hg j h2]
    · rw [catF_ge (by omega), catF_ge (by omega), hp _ (by omega)]
  · rw [catF_ge (by omega), catF_ge (by omega), h _ (by omega)]

theorem hi_congr {a b : Nat → Int} (ha : bytesB 32 a = true) (h : ∀ j, j < 32 → a j = b j) : hi a 256 = hi b 256 := by
  have hb : bytesB 32 b = true := bytesB_of fun i hi => by rw [← h i hi]; exact bytesB_spec ha i hi
  rw [← natB_hi ha, ← natB_hi hb, natB_congr 32 h]
theorem neg_smul (p : Pt) (k : Nat) : (p.smul k).add (p.neg.smul k) = .zero := by
  rw [← smul_dist, Pt.add_neg, zero_smul]

/-- A signature by a seed is one of the same bytes, by the seed's public key. -/
theorem ver_sig (f : Nat → Int) (n : Nat) (A : Nat → Int) : verB (pubF f) (sigF f n A) n A = true := by
  have hT : ∀ j, j < 32 → veT (sigF f n A) j = sgPt1 f n A j := fun j hj => by unfold veT; rw [Nat.zero_add, sig_lo f n A hj]
  have hE : ∀ j, j < 32 → maF (sgK1 f n A) (secS f) (sgR1 f n A) j = veE (sigF f n A) j := fun j hj => by unfold veE; rw [sig_hi f n A hj]
  have d1 := dec_enc (pMul (sgR1 f n A) pB)
  have d2 := dec_enc (pubQ f)
  have c1 : decB (veT (sigF f n A)) = true := by rw [decB_eq, dOk_congr hT]; exact d1.1
  have p1 : decP (veT (sigF f n A)) = pMul (sgR1 f n A) pB := by rw [decP_congr hT]; exact d1.2
  have c2 : decB (pubF f) = true := by rw [decB_eq, pubF_eq]; exact d2.1
  have p2 : decP (pubF f) = pubQ f := by rw [pubF_eq]; exact d2.2
  have c3 : fineB (veE (sigF f n A)) = true := by
    rw [fineB_eq, decide_eq_true_eq, ← natB_congr 32 hE, natB_hi (maF_bytes _ _ _), maF_hi]
    exact maNum_lt _ _ _
  have hK : veK (pubF f) (sigF f n A) n A = sgK1 f n A := by
    have h1 : ∀ j, j < 32 → veT (sigF f n A) j = veT (sgPt1 f n A) j := fun j hj => by rw [hT j hj]; unfold veT; rw [Nat.zero_add]
    rw [veK_congr (fun _ _ => rfl) h1 (fun _ _ => rfl)]
    unfold veK sgK1 veT sgPu
    rw [pubF_eq, pubQ_eq]
    congr 1
    funext j
    rw [Nat.zero_add]
  rw [verB_eq, c1, c2, c3]
  unfold veS
  rw [hK, p1, p2]
  show pSame _ _ = true
  rw [pSame_iff, pBoth_eq, pNeg_eq, pubQ_eq, pMul_eq, pMul_eq, ← hi_congr (maF_bytes _ _ _) hE, maF_hi, pB_eq]
  unfold maNum
  have b1 : bytesB 32 (sgK1 f n A) = true := rdF_bytes _
  have b2 : bytesB 32 (sgR1 f n A) = true := rdF_bytes _
  rw [natB_hi b1, natB_hi (secS_bytes f), natB_hi b2, smul_mod base_order, smul_add, Nat.mul_comm, smul_mul]
  generalize Pt.base.smul (hi (secS f) 256) = Q
  generalize Pt.base.smul (hi (sgR1 f n A) 256) = S
  rw [Pt.add_comm (Q.smul _) S, Pt.add_assoc, neg_smul, Pt.add_zero]

end Go.Proofs.Ytbcbmkgfjegbhaa

/-! What the seed of awake comes to: points. No condition. -/
namespace Go.Proofs.Ytbcbmkgfjegbhaa
open Go.AE Fardel
set_option maxRecDepth 100000

def goB (k : Nat) : Q4 := Q4.go 256 k ⟨bx, by', 1, bx * by'⟩ ⟨0, 1, 1, 0⟩
theorem goB_is {k : Nat} (hk : k < 2 ^ 256) : (goB k).is (Pt.base.smul k) := by
  have h := Q4.is_go 256 k ⟨bx, by', 1, bx * by'⟩ ⟨0, 1, 1, 0⟩ .base .zero hk (ext_of .base) ext_zero
  rw [Pt.zero_add] at h
  exact h
theorem pt_cert {k : Nat} {x y : F} (hk : k < 2 ^ 256) (h : (goB k).x = x * (goB k).z ∧ (goB k).y = y * (goB k).z) : (Pt.base.smul k).x = x ∧ (Pt.base.smul k).y = y := by
  have hi := goB_is hk
  generalize goB k = q at *
  obtain ⟨z0, hx, hy, -⟩ := hi
  exact ⟨mul_cancel z0 (hx.symm.trans h.1), mul_cancel z0 (hy.symm.trans h.2)⟩
/-- The bytes of a point that is told by its places. -/
def encL (x y : F) (j : Nat) : Int := bytesF y j + (if j = 31 ∧ x.val % 2 = 1 then 128 else 0)
theorem enc_of {p : Pt} {x y : F} (h : p.x = x ∧ p.y = y) {j : Nat} (hj : j < 32) : encP p j = encL x y j := by
  unfold encL
  by_cases e : j = 31
  · subst e
    rw [encP_31, h.1, h.2, oddF_eq]
    simp only [decide_eq_true_eq, true_and]
  · rw [encP_ne p e, h.2, if_neg (fun h => e h.1), Int.add_zero]
theorem awA_pt : (Pt.base.smul awS).x = toF awAx ∧ (Pt.base.smul awS).y = toF awAy := pt_cert (by decide +kernel) (by decide +kernel)
theorem awR_pt : (Pt.base.smul awR).x = toF awRx ∧ (Pt.base.smul awR).y = toF awRy := pt_cert (by decide +kernel) (by decide +kernel)
theorem awA_enc : ∀ j, j < 32 → encL (toF awAx) (toF awAy) j = awAl.getD j 0 := by decide +kernel
theorem awR_enc : ∀ j, j < 32 → encL (toF awRx) (toF awRy) j = awRl.getD j 0 := by decide +kernel
theorem awM_x : (goB awM).x ≠ 0 := by decide +kernel
theorem awM_ne : Pt.base.smul awM ≠ .zero := fun h => by
  have hi := goB_is (k := awM) (by decide +kernel)
  rw [h] at hi
  refine awM_x ?_
  rw [hi.hx]
  show (0 : F) * _ = 0
  grobner

end Go.Proofs.Ytbcbmkgfjegbhaa

/-! What awake asks. No condition. -/
namespace Go.Proofs.Ytbcbmkgfjegbhaa
open Go.AE Fardel
set_option maxRecDepth 100000

theorem aw_secS0 : ∀ j, j < 32 → secS0 (fun i => (gN aw1O i : Nat)) j = awSl.getD j 0 := by decide +kernel
theorem aw_12 : ∀ j, j < 32 → ((gN aw1O (32 + j) : Nat) : Int) = aw2B.getD j 0 := by decide +kernel
theorem aw_3R : ∀ j, j < 32 → awRl.getD j 0 = aw3B.getD j 0 := by decide +kernel
theorem aw_3A : ∀ j, j < 32 → awAl.getD j 0 = aw3B.getD (32 + j) 0 := by decide +kernel
theorem aw_4R : ∀ j, j < 32 → awRl.getD j 0 = aw4B.getD j 0 := by decide +kernel
theorem aw_4A : ∀ j, j < 32 → awAl.getD j 0 = aw4B.getD (32 + j) 0 := by decide +kernel
theorem aw_S : natB 256 (fun j => awSl.getD j 0) 32 = awS := by decide +kernel
theorem aw_R : natB 256 (fun i => (gN aw2O i : Nat)) 64 % L = awR := by decide +kernel
theorem aw_K : natB 256 (fun i => (gN aw3O i : Nat)) 64 % L = awK := by decide +kernel
theorem aw_K2 : natB 256 (fun i => (gN aw4O i : Nat)) 64 % L = awK2 := by decide +kernel
theorem aw_M : (awK + (L - awK2)) * awS % L = awM := by decide +kernel

theorem rd_of {t : Nat} {f : Nat → Int} {o : List Nat} {r : Nat} (h : ∀ i, i < 64 → shaH t f i = (gN o i : Nat)) (hr : natB 256 (fun i => (gN o i : Nat)) 64 % L = r) : hi (rdF (shaH t f)) 256 = r := by
  rw [rdF_hi, rdN_eq (bytesB_spec (shaH_bytes t f 64)), natB_congr 64 h, hr]

section
variable {f : Nat → Int} (hf : ∀ i, i < 32 → f i = aw1B.getD i 0)
include hf
theorem aw_D : ∀ i, i < 64 → shaH 32 f i = (gN aw1O i : Nat) := aw1_sha hf
theorem aw_sec : ∀ j, j < 32 → secS f j = awSl.getD j 0 := by
  intro j hj
  have hd := aw_D hf
  rw [secS_eq, secD_eq, ← aw_secS0 j hj]
  unfold secS0
  rw [hd (0 + 31) (by omega), hd (0 + 0) (by omega), hd (0 + j) (by omega)]
theorem aw_x : ∀ j, j < 32 → secX f j = aw2B.getD j 0 := by
  intro j hj
  rw [secX_eq, secD_eq]
  show shaH 32 f (32 + j) = _
  rw [aw_D hf _ (by omega), aw_12 j hj]
theorem aw_s : hi (secS f) 256 = awS := by
  rw [← natB_hi (secS_bytes f), natB_congr 32 (aw_sec hf), aw_S]
theorem aw_pub : pubQ f = Pt.base.smul awS := by rw [pubQ_eq, pMul_eq, pB_eq, aw_s hf]
theorem aw_pubF : ∀ j, j < 32 → pubF f j = awAl.getD j 0 := by
  intro j hj
  rw [pubF_eq, aw_pub hf, enc_of awA_pt hj, awA_enc j hj]
theorem aw_r (A : Nat → Int) : hi (sgR1 f 0 A) 256 = awR := by
  unfold sgR1
  refine rd_of (o := aw2O) (aw2_sha fun i hi => ?_) aw_R
  rw [catF_lt hi, sh0_eq, aw_x hf i hi]
theorem aw_top (A : Nat → Int) : ∀ j, j < 32 → sgPt1 f 0 A j = awRl.getD j 0 := by
  intro j hj
  unfold sgPt1
  rw [pMul_eq, pB_eq, aw_r hf A, enc_of awR_pt hj, awR_enc j hj]
theorem aw_k (A : Nat → Int) : hi (sgK1 f 0 A) 256 = awK := by
  unfold sgK1 sgK0
  refine rd_of (o := aw3O) (aw3_sha fun i hi => ?_) aw_K
  rw [catF_lt (by omega), sh0_eq, sh0_eq, sh0_eq]
  by_cases h : i < 32
  · rw [catF_lt h, aw_top hf A i h, aw_3R i h]
  · rw [catF_ge (by omega)]
    have e : sgPu f = pubF f := by rw [pubF_eq, pubQ_eq]; rfl
    rw [e, aw_pubF hf _ (by omega), aw_3A _ (by omega), show 32 + (i - 32) = i by omega]
theorem aw_k2 (A B : Nat → Int) (hB : B 0 = 1) : hi (veK (pubF f) (sigF f 0 A) 1 B) 256 = awK2 := by
  unfold veK sgK0
  refine rd_of (o := aw4O) (aw4_sha fun i hi => ?_) aw_K2
  by_cases h0 : i < 64
  · rw [catF_lt h0, sh0_eq, sh0_eq, sh0_eq]
    by_cases h : i < 32
    · rw [catF_lt h]
      unfold veT
      rw [Nat.zero_add, sig_lo f 0 A h, aw_top hf A i h, aw_4R i h]
    · rw [catF_ge (by omega), aw_pubF hf _ (by omega), aw_4A _ (by omega), show 32 + (i - 32) = i by omega]
  · have : i = 64 := by omega
    subst this
    rw [catF_ge (by omega), Nat.sub_self, hB]
    rfl
theorem aw_p (A : Nat → Int) : pubF f 0 = 215 ∧ pubF f 1 = 90 ∧ pubF f 2 = 152 ∧ pubF f 3 = 1 := by
  rw [aw_pubF hf 0 (by decide), aw_pubF hf 1 (by decide), aw_pubF hf 2 (by decide), aw_pubF hf 3 (by decide)]
  decide +kernel
theorem aw_g (A : Nat → Int) : sigF f 0 A 0 = 229 ∧ sigF f 0 A 1 = 86 ∧ sigF f 0 A 2 = 67 ∧ sigF f 0 A 3 = 0 := by
  rw [sig_lo f 0 A (by decide), sig_lo f 0 A (by decide), sig_lo f 0 A (by decide), sig_lo f 0 A (by decide), aw_top hf A 0 (by decide), aw_top hf A 1 (by decide), aw_top hf A 2 (by decide), aw_top hf A 3 (by decide)]
  decide +kernel
end

/-- A signature's number, so many times the base. -/
theorem sig_eq (f : Nat → Int) (n : Nat) (A : Nat → Int) : Pt.base.smul (hi (veE (sigF f n A)) 256) = ((pubQ f).smul (hi (sgK1 f n A) 256)).add (Pt.base.smul (hi (sgR1 f n A) 256)) := by
  have hE : ∀ j, j < 32 → maF (sgK1 f n A) (secS f) (sgR1 f n A) j = veE (sigF f n A) j := fun j hj => by unfold veE; rw [sig_hi f n A hj]
  have b1 : bytesB 32 (sgK1 f n A) = true := rdF_bytes _
  have b2 : bytesB 32 (sgR1 f n A) = true := rdF_bytes _
  rw [← hi_congr (maF_bytes _ _ _) hE, maF_hi]
  unfold maNum
  rw [natB_hi b1, natB_hi (secS_bytes f), natB_hi b2, smul_mod base_order, smul_add, Nat.mul_comm, smul_mul, pubQ_eq, pMul_eq, pB_eq]
theorem aw_not {f : Nat → Int} (hf : ∀ i, i < 32 → f i = aw1B.getD i 0) (A B : Nat → Int) (hB : B 0 = 1) : verB (pubF f) (sigF f 0 A) 1 B = false := by
  cases hc : verB (pubF f) (sigF f 0 A) 1 B with
  | false => rfl
  | true =>
    exfalso
    rw [verB_eq] at hc
    simp only [Bool.and_eq_true] at hc
    have hv : pSame _ _ = true := hc.2
    have hT : ∀ j, j < 32 → veT (sigF f 0 A) j = sgPt1 f 0 A j := fun j hj => by unfold veT; rw [Nat.zero_add, sig_lo f 0 A hj]
    have p1 : decP (veT (sigF f 0 A)) = pMul (sgR1 f 0 A) pB := by rw [decP_congr hT]; exact (dec_enc (pMul (sgR1 f 0 A) pB)).2
    have p2 : decP (pubF f) = pubQ f := by rw [pubF_eq]; exact (dec_enc (pubQ f)).2
    rw [pSame_iff, p1, p2, pBoth_eq, pNeg_eq, pMul_eq, pB_eq, sig_eq, aw_k hf, aw_k2 hf A B hB, Pt.add_comm ((pubQ f).smul awK), Pt.add_assoc] at hv
    have h0 : ((pubQ f).smul awK).add ((pubQ f).neg.smul awK2) = .zero := add_left_cancel (hv.trans (Pt.add_zero _).symm)
    have hl : awK2 + (L - awK2) = L := by decide +kernel
    have hL : (pubQ f).smul L = .zero := by rw [aw_pub hf, ← smul_mul, Nat.mul_comm, smul_mul, base_order, zero_smul]
    -- the opposite, so many times, is itself L - k2 times
    have hn : (pubQ f).neg.smul awK2 = (pubQ f).smul (L - awK2) := by
      refine add_left_cancel (p := (pubQ f).smul awK2) ?_
      rw [neg_smul, ← smul_add, hl, hL]
    rw [hn, ← smul_add, aw_pub hf, ← smul_mul, ← smul_mod base_order, Nat.mul_comm, aw_M] at h0
    exact awM_ne h0

end Go.Proofs.Ytbcbmkgfjegbhaa

/-! fardellaw08.awake is true. No condition. -/
namespace Go.Proofs.Ytbcbmkgfjegbhaa
open Go.AE Fardel
set_option maxRecDepth 100000
noncomputable def envAw : Env := ((env0.set 8 (pureModel PublicP)).set 7 (lift 0 signV)).set 9 (lift 1 verV)
theorem envAw_ok : EnvOK Try.prog envAw := (((env0_ok _).set Public_ok).set (Sign_ok.lift 0)).set (Verify_ok.lift 1)
noncomputable def awM6 : Model := evFn Try.prog envAw ⟨1000000, [(11, true), (15, true), (20, true), (25, true), (30, true), (35, true), (40, true), (45, true), (50, true), (58, true)]⟩ Try.f6
theorem awM6_ok : SoundM Try.prog 6 awM6 := SoundM.of_ev envAw_ok mix (by kernel_rfl) (by kernel_rfl) (by kernel_rfl)
def awSeed : Nat → Int := litF (aw1B.take 32) 0 fun _ => 0
theorem awSeed_ok : ∀ i, i < 32 → awSeed i = aw1B.getD i 0 := by decide +kernel
noncomputable def awPk : Nat → Int := pubF awSeed
noncomputable def awSg : Nat → Int := sigF awSeed 0 fun _ => 0
def awTx : Nat → Int := catF 0 (fun _ => 0) fun j => (fun j => bif Nat.beq j 0 then 1 else 0) (0 + j)
noncomputable def awVb : Bool := ((bytesB 32 awPk && bytesB 64 awSg) && true) && true
noncomputable def awVc : Bool := (((awPk 0 == 215) == true) && (((awPk 1 == 90) == true || false) && (((awPk 2 == 152) == true || false) && (((awPk 3 == 1) == true || false) && (((awSg 0 == 229) == true || false) && (((awSg 1 == 86) == true || false) &&
  (((awSg 2 == 67) == true || false) && (((awSg 3 == 0) == true || false) && ((awVb && ((verB awPk awSg 0 (fun _ => 0) == true) || false)) && (awVb && ((((!verB awPk awSg 1 awTx) == true) || false) && true))))))))))) && true
theorem awake8_mv : mv awM6 [] = some (awVc, .bool true) := by kernel_rfl
theorem awVc_ok : awVc = true := by
  obtain ⟨p0, p1, p2, p3⟩ := aw_p awSeed_ok (fun _ => 0)
  obtain ⟨g0, g1, g2, g3⟩ := aw_g awSeed_ok (fun _ => 0)
  have hv : awVb = true := by
    unfold awVb
    rw [show bytesB 32 awPk = true from by unfold awPk; rw [pubF_eq]; exact encP_bytes _, show bytesB 64 awSg = true from sig_bytes _ _ _]
    rfl
  have h1 : verB awPk awSg 0 (fun _ => 0) = true := ver_sig _ _ _
  have h2 : verB awPk awSg 1 awTx = false := aw_not awSeed_ok _ _ rfl
  unfold awVc
  rw [hv, h1, h2]
  unfold awPk awSg
  rw [p0, p1, p2, p3, g0, g1, g2, g3]
  rfl
noncomputable def awakeP : PModel
  | [] => some (true, .bool true)
  | _ => none
theorem awake8_ok : SoundM Try.prog 6 (pureModel awakeP) := by
  refine awM6_ok.pure ?_
  intro args vc v h hvc
  unfold awakeP at h
  split at h
  · cases h
    obtain ⟨r, h3, h4, h5⟩ := mv_some awake8_mv
    exact ⟨rfl, rfl, r, h3, by rw [h4, awVc_ok], h5⟩
  · cases h

end Go.Proofs.Ytbcbmkgfjegbhaa

/-! fardelref02.Fine by its model; laws for SignStrict. No condition. -/
namespace Go.Proofs.Ytbcbmkgfjegbhaa
open Go.AE Fardel
set_option maxRecDepth 100000

/-- Is the first number the less one, of so many digits from the lowest on? -/
def bwB (a b : Nat → Int) : Nat → Bool
  | 0 => false
  | k + 1 => bif a k == b k then bwB a b k else decide (a k < b k)
theorem bwB_nat {a b : Nat → Int} (ha : ∀ i, i < 32 → 0 ≤ a i ∧ a i < 256) (hb : ∀ i, i < 32 → 0 ≤ b i ∧ b i < 256) : ∀ k, k ≤ 32 → bwB a b k = decide (natB 256 a k < natB 256 b k)
  | 0, _ => rfl
  | k + 1, hk => by
    have h1 := natB_lt (B := 256) (f := a) k (fun i hi => ha i (by omega))
    have h2 := natB_lt (B := 256) (f := b) k (fun i hi => hb i (by omega))
    have h3 := ha k (by omega)
    have h4 := hb k (by omega)
    unfold bwB natB
    rw [bwB_nat ha hb k (by omega)]
    generalize natB 256 a k = x at *
    generalize natB 256 b k = y at *
    generalize 256 ^ k = p at *
    obtain ⟨u, hu⟩ := Int.eq_ofNat_of_zero_le h3.1
    obtain ⟨v, hv⟩ := Int.eq_ofNat_of_zero_le h4.1
    rw [hu, hv] at *
    simp only [Int.toNat_natCast]
    by_cases e : u = v
    · subst e
      simp
    · rw [show (((u : Int) == (v : Int)) = false) from by simp; omega, cond_false]
      rcases Nat.lt_or_gt_of_ne e with h | h
      · have : p * (u + 1) ≤ p * v := Nat.mul_le_mul_left _ h
        rw [Nat.mul_add, Nat.mul_one] at this
        rw [decide_eq_true (by omega), decide_eq_true (by omega)]
      · have : p * (v + 1) ≤ p * u := Nat.mul_le_mul_left _ h
        rw [Nat.mul_add, Nat.mul_one] at this
        rw [decide_eq_false (by omega), decide_eq_false (by omega)]

/-! ### y = 2 is no point's -/
theorem nonsq {w s : F} (hw : w ^ ((P - 1) / 2) = -1) (h0 : w ≠ 0) : s * s ≠ w := fun h => by
  have h1 : w ^ ((P - 1) / 2) = s ^ (P - 1) := by
    have hk : P - 1 = 2 * ((P - 1) / 2) := by decide +kernel
    rw [← h]
    generalize (P - 1) / 2 = k at hk
    rw [hk]
    apply Fin.ext
    rw [pow_val, pow_val, Nat.pow_mul, Fin.val_mul, ← Nat.pow_mod, Nat.pow_two]
  by_cases hs : s = 0
  · subst hs
    exact h0 (by rw [← h]; grind)
  · rw [pow_p1 hs, hw] at h1
    exact absurd h1 (by decide +kernel)
def w2 : F := 3 * (d * 4 + 1)
theorem w2_pow : w2 ^ ((P - 1) / 2) = -1 := by
  apply Fin.ext
  rw [pm_pow _ _ (by decide +kernel)]
  decide +kernel
theorem w2_ne : w2 ≠ 0 := by decide +kernel
theorem dI_two : dI 2 = false := by
  cases h : dI 2 with
  | false => rfl
  | true =>
    have hr := rat_root (u := dU 2) (v := dV 2) h
    have hu : dU 2 = 3 := by
      unfold dU
      simp only [fsub_eq, fmul_eq, fone_eq]
      decide +kernel
    have hv : dV 2 = d * 4 + 1 := by
      unfold dV
      simp only [fadd_eq, fmul_eq, fone_eq, fd_eq]
      decide +kernel
    rw [hu, hv] at hr
    refine absurd ?_ (nonsq (s := (d * 4 + 1) * ratR 3 (d * 4 + 1)) w2_pow w2_ne)
    unfold w2
    generalize ratR 3 (d * 4 + 1) = r at *
    generalize d = d at *
    grobner
def two32 : Nat → Int := fun j => bif Nat.beq j 0 then 2 else 0
theorem dOk_two : dOk two32 = false := by
  have h : dY two32 = 2 := by decide +kernel
  unfold dOk
  rw [h, dI_two]
  simp
theorem decB_two {f : Nat → Int} (h0 : f 0 = 2) (h : ∀ j, 0 < j → j < 32 → f j = 0) : decB f = false := by
  rw [decB_eq, dOk_congr (g := two32) fun j hj => ?_]
  · exact dOk_two
  · cases j with
    | zero => exact h0
    | succ j => rw [h _ (by omega) hj]; rfl

/-! ### A number and another one, digit by digit -/
def cry (s o : Nat → Int) : Nat → Int
  | 0 => 0
  | i + 1 => (s i + o i + cry s o i) / 256
theorem cry_nat {s o : Nat → Int} (hs : ∀ i, i < 32 → 0 ≤ s i ∧ s i < 256) (ho : ∀ i, i < 32 → 0 ≤ o i ∧ o i < 256) : ∀ k, k ≤ 32 →
    (0 ≤ cry s o k ∧ cry s o k ≤ 1) ∧ natB 256 s k + natB 256 o k = natB 256 (fun i => (s i + o i + cry s o i) % 256) k + 256 ^ k * (cry s o k).toNat
  | 0, _ => ⟨⟨Int.le_refl _, by unfold cry; decide⟩, rfl⟩
  | k + 1, hk => by
    obtain ⟨h1, h2⟩ := cry_nat hs ho k (by omega)
    have h3 := hs k (by omega)
    have h4 := ho k (by omega)
    have h5 : cry s o (k + 1) = (s k + o k + cry s o k) / 256 := rfl
    have h6 : ((s k).toNat + (o k).toNat + (cry s o k).toNat) = (((s k + o k + cry s o k) % 256).toNat) + 256 * ((s k + o k + cry s o k) / 256).toNat := by omega
    refine ⟨by rw [h5]; omega, ?_⟩
    rw [h5]
    unfold natB
    rw [Nat.pow_succ]
    have h7 : 256 ^ k * ((s k).toNat + (o k).toNat + (cry s o k).toNat) = 256 ^ k * ((((s k + o k + cry s o k) % 256).toNat) + 256 * ((s k + o k + cry s o k) / 256).toNat) := by rw [h6]
    rw [Nat.mul_add, Nat.mul_add, Nat.mul_add, ← Nat.mul_assoc] at h7
    omega

/-! ### fardelref02.Below, Fine -/
noncomputable def bwC : Code := bodyC Try.f41
noncomputable def bwX : Code := postC 1 bwC
noncomputable def bwL : Code := cB (cB (cR (cL bwX)))
theorem bwX_eq : bwX = .seq (.seq (cL (cL bwX)) (.block 0 (.loop bwL))) (cR bwX) := by kernel_rfl
section
variable (a b : Nat → Int) (i : Int) (r : Bool)
def bwG : Heap := [some (.ints .u8 32 a), some (.ints .u8 32 b)]
def bwT (i : Int) : List T := tmk [(2, .ptr 0 []), (3, .ptr 1 []), (4, .bool false), (5, .num i)] 0 24
def bwE (r : Bool) : List T := tmk [(4, .bool r)] 0 24
theorem bw_0 : (evCode Try.prog env0 1000000 (preC 1 bwC) (stW 0 0 ([.ints .u8 32 a, .ints .u8 32 b] ++ undefs 22) [])).map (cutPW 0 0 (maskOf [2, 3, 4]) 0) = some (.normal, true, tmk [(2, .ptr 0 []), (3, .ptr 1 []), (4, .bool false)] 0 24, bwG a b, true) := by kernel_rfl
def bwV (c : Bool) : Bool := decide (0 ≤ i ∧ i < 32) && (decide (i.toNat < 32) && true && (decide (0 ≤ i ∧ i < 32) && (decide (i.toNat < 32) && true && ((!a i.toNat == b i.toNat) == c && true)))) && (decide (i ≥ 0) == true && true && true)
theorem bw_i : Tr Try.prog 0 (cL (cL bwX)) (stW 0 0 (tmk [(2, .ptr 0 []), (3, .ptr 1 []), (4, .bool false)] 0 24) (bwG a b)) .normal (stW 0 0 (bwT 31) (bwG a b)) :=
  Tr.evW (n := 1000000) (N := 2) (keep := maskOf [2, 3, 4, 5]) (nm := maskOf [5]) (vc := true) (env0_ok _) mix (by kernel_rfl) rfl rfl rfl rfl
theorem bw_s (hv : (decide (-9223372036854775808 ≤ i - 1 ∧ i - 1 ≤ 9223372036854775807) && true && bwV a b i false) = true) : Tr Try.prog 0 bwL (stW 0 0 (bwT i) (bwG a b)) .normal (stW 0 0 (bwT (i - 1)) (bwG a b)) :=
  Tr.evW (n := ⟨1000000, [(7, true), (16, false)]⟩) (N := 2) (keep := maskOf [2, 3, 4, 5]) (nm := maskOf [5]) (vc := decide (-9223372036854775808 ≤ i - 1 ∧ i - 1 ≤ 9223372036854775807) && true && bwV a b i false) (env0_ok _) mix (by kernel_rfl) hv rfl rfl rfl
theorem bw_r (hv : (decide (0 ≤ i ∧ i < 32) && (decide (i.toNat < 32) && true && (decide (0 ≤ i ∧ i < 32) && (decide (i.toNat < 32) && true && true))) && bwV a b i true) = true) : Tr Try.prog 0 bwL (stW 0 0 (bwT i) (bwG a b)) .ret (stW 0 0 (bwE (decide (a i.toNat < b i.toNat))) (bwG a b)) :=
  Tr.evW (n := ⟨1000000, [(7, true), (16, true)]⟩) (N := 2) (keep := maskOf [4]) (nm := 0) (vc := decide (0 ≤ i ∧ i < 32) && (decide (i.toNat < 32) && true && (decide (0 ≤ i ∧ i < 32) && (decide (i.toNat < 32) && true && true))) && bwV a b i true) (env0_ok _) mix (by kernel_rfl) hv rfl rfl rfl
theorem bw_x : Tr Try.prog 0 bwL (stW 0 0 (bwT (-1)) (bwG a b)) (.exit 0) (stW 0 0 (bwT (-1)) (bwG a b)) :=
  Tr.evW (n := 1000000) (N := 2) (keep := maskOf [2, 3, 4, 5]) (nm := maskOf [5]) (vc := true) (env0_ok _) mix (by kernel_rfl) rfl rfl rfl rfl
theorem bw_f : Tr Try.prog 0 (cR bwX) (stW 0 0 (bwT i) (bwG a b)) .ret (stW 0 0 (bwE false) (bwG a b)) :=
  Tr.evW (n := 1000000) (N := 2) (keep := maskOf [4]) (nm := 0) (vc := true) (env0_ok _) mix (by kernel_rfl) rfl rfl rfl rfl
theorem bw_res : evResults Try.prog (stW 0 0 (bwE r) (bwG a b)) Try.f41.results.toList = some (true, [.bool r], 0) := by kernel_rfl
/-- From the number of digits that are left on. -/
theorem bw_loop : ∀ k : Nat, k ≤ 32 → ∃ n e s, TrN Try.prog 0 bwL n (stW 0 0 (bwT ((k : Int) - 1)) (bwG a b)) e s ∧ ((e = .ret ∧ s = stW 0 0 (bwE (bwB a b k)) (bwG a b)) ∨ (e = .exit 0 ∧ s = stW 0 0 (bwT (-1)) (bwG a b) ∧ bwB a b k = false))
  | 0, _ => ⟨1, _, _, TrN.done (bw_x a b) (by intro h; cases h), .inr ⟨rfl, rfl, rfl⟩⟩
  | k + 1, hk => by
    have e : ((k + 1 : Nat) : Int) - 1 = (k : Int) := by omega
    rw [e]
    cases h : a k == b k with
    | true =>
      obtain ⟨n, ex, s, h1, h2⟩ := bw_loop k (by omega)
      refine ⟨n + 1, ex, s, TrN.next (bw_s a b k ?_) h1, ?_⟩
      · unfold bwV
        rw [Int.toNat_natCast, h]
        simp only [Bool.and_true, Bool.and_eq_true, decide_eq_true_eq, beq_iff_eq, Bool.not_true, and_true]
        omega
      · unfold bwB
        rw [h]
        exact h2
    | false =>
      refine ⟨1, _, _, TrN.done (bw_r a b k ?_) (by intro h; cases h), .inl ⟨rfl, ?_⟩⟩
      · unfold bwV
        rw [Int.toNat_natCast, h]
        simp only [Bool.and_true, Bool.and_eq_true, decide_eq_true_eq, beq_iff_eq, Bool.not_false, and_true]
        omega
      · unfold bwB
        rw [h, Int.toNat_natCast]
        rfl
theorem bw_run : Tr Try.prog 0 bwC (stW 0 0 ([.ints .u8 32 a, .ints .u8 32 b] ++ undefs 22) []) .ret (stW 0 0 (bwE (bwB a b 32)) (bwG a b)) := by
  refine Tr.preW (env0_ok _) mix 0 1 (maskOf [2, 3, 4]) 0 (bw_0 a b) rfl rfl ?_
  show Tr Try.prog 0 bwX _ _ _
  rw [bwX_eq]
  obtain ⟨n, e, s, h1, h2⟩ := bw_loop a b 32 (by omega)
  rcases h2 with ⟨rfl, rfl⟩ | ⟨rfl, rfl, h3⟩
  · exact Tr.seqX (Tr.seq (bw_i a b) (Tr.block (Tr.loop h1) (by intro i h; cases h))) (by intro h; cases h)
  · refine Tr.seq (Tr.seq (bw_i a b) (Tr.blockX (Tr.loop h1))) ?_
    rw [h3]
    exact bw_f a b _
end
noncomputable def bwH (a b : Nat → Int) : Bool := hid bwB a b 32
theorem bwH_eq (a b : Nat → Int) : bwH a b = bwB a b 32 := by unfold bwH; rw [hid_eq]
noncomputable def BelowP : PModel
  | [.ints .u8 32 a, .ints .u8 32 b] => some (true, .bool (bwH a b))
  | _ => none
theorem Below_ok : SoundM Try.prog 41 (pureModel BelowP) := by
  refine SoundM.of_tr0 (fn := Try.f41) (c := bwC) (by kernel_rfl) (by kernel_rfl) (by kernel_rfl) ?_
  intro args vc v hm hvc
  unfold BelowP at hm
  split at hm
  · rename_i a b
    cases hm
    refine ⟨rfl, rfl, .ret, _, _, _, .inl rfl, bw_run a b, bw_res a b _, ?_⟩
    rw [bwH_eq]; rfl
  · cases hm
def ordL : Nat → Int := litF [237, 211, 245, 92, 26, 99, 18, 88, 214, 156, 247, 162, 222, 249, 222, 20, 0, 0, 0, 0, 0, 0, 0, 0, 0, 0, 0, 0, 0, 0, 0, 16] 0 fun _ => 0
noncomputable def ROrderP : PModel
  | [] => some (true, .ints .u8 32 ordL)
  | _ => none
theorem ROrder_mv : mv (evFn Try.prog env0 10 Try.f42) [] = some (true, .ints .u8 32 ordL) := by kernel_rfl
theorem ROrder_ok : SoundM Try.prog 42 (pureModel ROrderP) := by
  refine (SoundM.of_ev (env0_ok _) mix (n := 10) (fn := Try.f42) (by kernel_rfl) (by kernel_rfl) (by kernel_rfl)).pure ?_
  intro args vc v h hvc
  unfold ROrderP at h
  split at h
  · cases h
    obtain ⟨r, h3, h4, h5⟩ := mv_some ROrder_mv
    exact ⟨rfl, rfl, r, h3, h4, h5⟩
  · cases h
noncomputable def envRf : Env := (env0.set 41 (pureModel BelowP)).set 42 (pureModel ROrderP)
theorem envRf_ok : EnvOK Try.prog envRf := ((env0_ok _).set Below_ok).set ROrder_ok
noncomputable def RFineP : PModel
  | [.ints .u8 32 a] => some (true, .bool (bwH a ordL))
  | _ => none
theorem RFine_mv (a : Nat → Int) : mv (evFn Try.prog envRf 1000000 Try.f13) [.ints .u8 32 a] = some (true, .bool (bwH a ordL)) := by kernel_rfl
theorem RFine_ok : SoundM Try.prog 13 (pureModel RFineP) := by
  refine (SoundM.of_ev envRf_ok mix (n := 1000000) (fn := Try.f13) (by kernel_rfl) (by kernel_rfl) (by kernel_rfl)).pure ?_
  intro args vc v h hvc
  unfold RFineP at h
  split at h
  · cases h
    obtain ⟨r, h3, h4, h5⟩ := mv_some (RFine_mv _)
    exact ⟨rfl, rfl, r, h3, h4, h5⟩
  · cases h
theorem ordL_bytes : ∀ i, i < 32 → 0 ≤ ordL i ∧ ordL i < 256 := by decide +kernel
theorem ordL_nat : natB 256 ordL 32 = L := by decide +kernel
/-- The same answer. -/
theorem rfine_eq {a : Nat → Int} (h : bytesB 32 a = true) : bwH a ordL = fineB a := by
  rw [bwH_eq, bwB_nat (bytesB_spec h) ordL_bytes 32 (Nat.le_refl _), ordL_nat, fineB_eq]
end Go.Proofs.Ytbcbmkgfjegbhaa

/-! What a law is told. No condition. -/

/-! What a law is told: whole numbers, arrays and slices of them that came in; and that it answers true. No condition. -/
namespace Go.AE
open Go Go.RowKit Go.ChangeShapes Go.WideShapes
noncomputable section

theorem Post.below0 {ρ ρ' : Rho} {w w' : World} {r : Res} {v' : Value} (h : Post ρ ρ' [] w r v' w') : Below w.heap.size w w' :=
  ⟨h.os, h.tape, h.output, h.size, fun k hk => h.frame k hk fun j p hj => absurd hj (by simp)⟩

/-- All that came in is what nobody writes. -/
def rhoIn (w : World) : Rho := ⟨fun _ => none, allRo w⟩

/-- A law answers true at these arguments. -/
def Answers (P : Program) (f : FuncId) (args : List T) : Prop := ∃ m, SoundV P f m ∧ ∃ r, m args = some r ∧ r.vc = true ∧ r.v = .bool true

theorem Answers.of_m {P : Program} {f : FuncId} {args : List T} (h : ∃ M, SoundM P f M ∧ ∃ r, M args [] = some r ∧ r.vc = true ∧ r.v = .bool true) : Answers P f args := by
  obtain ⟨M, hM, r, h1, h2, h3⟩ := h
  refine ⟨vEv M, SoundV.of_model hM, ?_⟩
  unfold vEv
  rw [h1]
  exact ⟨_, rfl, h2, h3⟩

theorem mv_law {M : Model} {args : List T} {vc : Bool} (h1 : (mv M args).map (·.2) = some (.bool true)) (h2 : (mv M args).map (·.1) = some vc) (h3 : vc = true) : ∃ r, M args [] = some r ∧ r.vc = true ∧ r.v = .bool true := by
  cases hm : mv M args with
  | none => rw [hm] at h1; cases h1
  | some r =>
    obtain ⟨k, t⟩ := r
    rw [hm] at h1 h2
    cases h1
    cases h2
    obtain ⟨r, h4, h5, h6⟩ := mv_some hm
    exact ⟨r, h4, h5.trans h3, h6⟩

theorem Answers.tells {P : Program} {f : FuncId} {args : List T} (h : Answers P f args) {fn : Func} (hf : P.funcs[f]? = some fn) (hname : (fn.name == "runtime.NumGoroutine") = false) (hbody : fn.body.isNone = false)
    {w : World} {xs : List Value} (hx : VLs (rhoIn w) args xs) : Tells P f xs w := by
  obtain ⟨m, hm, r, h1, h2, h3⟩ := h
  have hd := hm.lands args r h1 h2 (rhoIn w) w xs (fun _ => rfl) (allRo_ok w _) hx
  simp only [callFunc, Sem.run_bind, run_program, Result.andThen_ok, hf, hname, hbody] at hd
  refine Calls.mono hd ?_
  rintro e w' ⟨v, rfl, ρ', hp, _⟩
  have hv := hp.val
  rw [h3] at hv
  have hv' : v = .bool true := hv
  exact ⟨by rw [hv'], hp.below0⟩

section data
variable {H : Type} {enc : TypeId × Value → H} {P : Program}

/-- A slice of whole numbers that came in. -/
theorem open_fsi {W : World} {base base' : Nat} {sp : Nat → Bool} {held : Bool} {r : Reach} {t e : TypeId} {q : IntKind} (ht : P.underlying t = some (.slice e)) (he : P.underlying e = some (.int q)) (hc : P.cellsOf e = 1)
    {v : Value} {d : DataW H} {ps : List MemPlace} (hval : Value.okWide P W r base' t v) (hd : DataW.Trod enc P W base sp held t v d ps) :
    ∃ (n : Nat) (f : Nat → Int), (R (rhoIn W) (.fsi q n f none)).v v ∧ n ≤ 9223372036854775807 ∧ ∀ i, (Lit.int q (f i)).wf = true := by
  obtain ⟨a0, len0, cap0, rfl⟩ := okWide_slice ht hval
  obtain ⟨fuel, hf⟩ := hd
  have h0 : (Lit.int q 0).wf = true := by cases q <;> decide
  rcases open_ints ht he hc hf with ⟨h1, _⟩ | ⟨a, len, cap, zs, h1, _, h2, h3, h4, _, h5, h6⟩
  · simp only [Value.cells] at h1
    have h1' : Value.slice a0 len0 cap0 = .slice none 0 0 := by simpa using h1
    rw [h1']
    exact ⟨0, fun _ => 0, ⟨none, 0, rfl, Nat.le_refl _, (fun _ h => by cases h), (fun h => absurd h (by omega))⟩, by omega, fun _ => h0⟩
  · simp only [Value.cells] at h1
    have h1' : Value.slice a0 len0 cap0 = .slice (some a) len cap := by simpa using h1
    rw [h1']
    have hlz : len ≤ zs.length := by rw [h4]; split <;> omega
    refine ⟨len, fun i => zs.getD i 0, ⟨some a, cap, rfl, h2, (fun _ h => by cases h), (fun h => ?_)⟩, ?_, fun i => ?_⟩
    · obtain ⟨b, off, rfl, h7⟩ := ints_at h5 (by omega)
      have h8 := h7 0 (by omega)
      unfold World.cell? at h8
      split at h8
      · rename_i cs ty fr hw
        have hall : allRo W b = some cs := by
          unfold allRo
          have hw' : W.heap[b]? = some (.cells cs ty fr) := hw
          rw [hw']
        have key : ∀ j, j < zs.length → cs[off + j]? = some (.int q (zs.getD j 0)) := fun j hj => by
          have h9 := h7 j hj
          unfold World.cell? at h9
          have hw' : W.heap[b]? = some (.cells cs ty fr) := hw
          simpa [hw'] using h9
        refine ⟨b, off, cs, rfl, hall, ?_, fun i hi => ?_⟩
        · have := key (len - 1) (by omega)
          have h10 := (Array.getElem?_eq_some_iff.1 this).1
          omega
        · have := key i (by omega)
          obtain ⟨h10, h11⟩ := Array.getElem?_eq_some_iff.1 this
          rw [Nat.mul_one]
          unfold cut
          rw [List.drop_eq_getElem_cons (by simpa using h10)]
          simp only [List.take_succ_cons, List.take_zero, Array.getElem_toList]
          rw [h11]
      · cases h8
    · unfold maxLen at h3
      omega
    · show (Lit.int q (zs.getD i 0)).wf = true
      by_cases hi : i < zs.length
      · have e : zs.getD i 0 = zs[i] := by simp [List.getD, hi]
        rw [e]
        exact h6 _ (List.getElem_mem hi)
      · have e : zs.getD i 0 = 0 := by simp [List.getD, List.getElem?_eq_none (by omega : zs.length ≤ i)]
        rw [e]
        exact h0
end data

theorem rho_in (w : World) {t : T} {x : Value} (h : (R rho0 t).v x) : (R (rhoIn w) t).v x := R_v_mono (ρ := rho0) ⟨(fun _ _ h => by cases h), (fun _ _ h => by cases h)⟩ h

end
end Go.AE

/-! The blocks behind a run under other names. No condition. -/
namespace Go.AE
open Go
noncomputable section
variable {P : Program}

def pickTm (L : List Nat) (keep : Nat) : Nat → List T → List T
  | _, [] => []
  | i, t :: r => (bif keep.testBit i && idsL L t then ren (ixOf L) t else .any) :: pickTm L keep (i + 1) r
/-- A told block that was not written stays as it is told. -/
def keepE (n0 W j : Nat) : Bool := Nat.blt j n0 && !W.testBit j
def pickH (n0 W : Nat) (L : List Nat) (G : Heap) : Nat → List Nat → Heap
  | _, [] => []
  | j, k :: r => (bif keepE n0 W j then hget G j else renO (ixOf L) (hget G k)) :: pickH n0 W L G (j + 1) r
def pickOK (n0 W : Nat) (L : List Nat) (G : Heap) : Nat → List Nat → Bool
  | _, [] => true
  | j, k :: r => (match hget G k with
      | some t => bif keepE n0 W j then idsB n0 t else idsL L t
      | none => true) && ((!Nat.blt j n0 || Nat.beq k j) && pickOK n0 W L G (j + 1) r)

theorem pickTm_len (L : List Nat) (keep : Nat) : ∀ (i : Nat) (l : List T), (pickTm L keep i l).length = l.length
  | _, [] => rfl
  | i, _ :: r => by simp [pickTm, pickTm_len L keep (i + 1) r]
theorem pickTm_get (L : List Nat) (keep : Nat) : ∀ (i : Nat) (l : List T) (t : Nat), tget (pickTm L keep i l) t = .any ∨ (tget (pickTm L keep i l) t = ren (ixOf L) (tget l t) ∧ idsL L (tget l t) = true)
  | _, [], _ => .inl rfl
  | i, x :: r, 0 => by
    simp only [pickTm, tget]
    cases h : (keep.testBit i && idsL L x)
    · exact .inl rfl
    · simp only [Bool.and_eq_true] at h; exact .inr ⟨rfl, h.2⟩
  | i, _ :: r, t + 1 => pickTm_get L keep (i + 1) r t
theorem pickH_len {n0 W : Nat} {L : List Nat} {G : Heap} : ∀ {i : Nat} {M : List Nat}, (pickH n0 W L G i M).length = M.length
  | _, [] => rfl
  | i, _ :: r => by simp [pickH, pickH_len (i := i + 1) (M := r)]
theorem pickH_get {n0 W : Nat} {L : List Nat} {G : Heap} : ∀ {i : Nat} {M : List Nat} {j : Nat}, j < M.length →
    hget (pickH n0 W L G i M) j = bif keepE n0 W (i + j) then hget G (i + j) else renO (ixOf L) (hget G (nthL M j))
  | i, k :: r, 0, _ => rfl
  | i, k :: r, j + 1, h => by
    simp only [pickH, hget, nthL]
    rw [pickH_get (i := i + 1) (M := r) (j := j) (by simpa using h), show i + 1 + j = i + (j + 1) by omega]
theorem pickOK_get {n0 W : Nat} {L : List Nat} {G : Heap} : ∀ {i : Nat} {M : List Nat} {j : Nat}, pickOK n0 W L G i M = true → j < M.length →
    (i + j < n0 → nthL M j = i + j) ∧ ∀ t, hget G (nthL M j) = some t → (bif keepE n0 W (i + j) then idsB n0 t else idsL L t) = true
  | i, k :: r, 0, h, _ => by
    simp only [pickOK, Bool.and_eq_true, Bool.or_eq_true, Bool.not_eq_true'] at h
    refine ⟨fun hi => ?_, fun t ht => ?_⟩
    · rcases h.2.1 with h1 | h1
      · have : Nat.blt i n0 = true := by simpa using hi
        rw [this] at h1; cases h1
      · exact Nat.eq_of_beq_eq_true h1
    · have h1 := h.1
      simp only [nthL] at ht
      rw [ht] at h1
      exact h1
  | i, k :: r, j + 1, h, hj => by
    simp only [pickOK, Bool.and_eq_true] at h
    have := pickOK_get (i := i + 1) (M := r) (j := j) h.2.2 (by simpa using hj)
    rw [show i + 1 + j = i + (j + 1) by omega] at this
    exact this

/-- Names anew. -/
def Rho.pick (ρ : Rho) (L : List Nat) : Rho := ⟨fun j => bif Nat.blt j L.length then ρ (nthL L j) else none, ρ.ro⟩
theorem Rho.pick_in {ρ : Rho} {L : List Nat} {j : Nat} (h : j < L.length) : ρ.pick L j = ρ (nthL L j) := by
  simp only [Rho.pick]
  rw [show Nat.blt j L.length = true from by simpa using h]
  rfl
theorem Rho.pick_out {ρ : Rho} {L : List Nat} {j : Nat} (h : L.length ≤ j) : ρ.pick L j = none := by
  simp only [Rho.pick]
  cases hb : Nat.blt j L.length with
  | false => rfl
  | true =>
    have : j < L.length := by simpa using hb
    omega

theorem Rl.pick {K : Nat → Prop} {ρ0 : Rho} {G0 : Heap} {w0 : World} {dS : List Deferred} {m : Nat} {s : St} {a : Act} {w : World} (h : Rl K ρ0 G0 w0 dS m s a w) {n0 : Nat} (hG : Told n0 G0) (L : List Nat) (keep : Nat)
    (hn : n0 ≤ L.length) (hd : dupFree L = true) (hok : pickOK n0 s.w L s.G 0 L = true) (hfr : ∀ k, G0.length ≤ k → ρ0 k = none) :
    Rl K ρ0 G0 w0 dS m ⟨pickTm L keep 0 s.tm, pickH n0 s.w L s.G 0 L, true, s.t, s.w⟩ a w := by
  obtain ⟨⟨ρ, hp, htm, hsim⟩, hsz, hdfr, hst, hlen⟩ := h
  have hG1 := hG.1
  have hσ : ∀ id p, inL L id = true → ρ id = some p → (ρ.pick L) (ixOf L id) = some p := fun id p hi he => by
    obtain ⟨h1, h2⟩ := inL_nth hi
    rw [Rho.pick_in h1, h2]
    exact he
  have told : ∀ j, j < n0 → nthL L j = j := fun j hj => by
    have := (pickOK_get (i := 0) hok (j := j) (by omega)).1 (by omega)
    rw [Nat.zero_add] at this
    exact this
  have low : ∀ j, j < n0 → ρ.pick L j = ρ j := fun j hj => by rw [Rho.pick_in (by omega), told j hj]
  have high : ∀ j, n0 ≤ j → j < L.length → n0 ≤ nthL L j := fun j h1 h2 => by
    rcases Nat.lt_or_ge (nthL L j) n0 with h3 | h3
    · have h4 := told _ h3
      have h5 := ix_nth hd h2
      have h6 := ix_nth hd (j := nthL L j) (by omega)
      rw [h4, h5] at h6
      omega
    · exact h3
  have hcut : (ρ.cut n0).Ext (ρ.pick L) := ⟨(fun k p hk => by
    simp only [Rho.cut] at hk
    split at hk
    · rename_i hlt
      rw [low k hlt]; exact hk
    · cases hk), fun _ _ h => h⟩
  have len : (pickH n0 s.w L s.G 0 L).length = L.length := pickH_len
  have ent : ∀ j t', hget (pickH n0 s.w L s.G 0 L) j = some t' → j < L.length ∧ ∃ t, hget s.G (nthL L j) = some t ∧ t.size = t'.size ∧ ∀ cs, (R ρ t).c cs → (R (ρ.pick L) t').c cs := fun j t' hg => by
    have hj : j < L.length := by rw [← len]; exact hget_lt hg
    refine ⟨hj, ?_⟩
    rw [pickH_get hj, Nat.zero_add] at hg
    have hk := (pickOK_get (i := 0) hok hj).2
    rw [Nat.zero_add] at hk
    cases e : keepE n0 s.w j with
    | true =>
      rw [e] at hg
      have e' := e
      unfold keepE at e'
      simp only [Bool.and_eq_true] at e'
      have hlt : j < n0 := by simpa using e'.1
      refine ⟨t', by rw [told j hlt]; exact hg, rfl, fun cs hc => ?_⟩
      have h1 := hk t' (by rw [told j hlt]; exact hg)
      rw [e] at h1
      exact R_c_mono hcut ((idsB_R h1 ρ).1 _ hc)
    | false =>
      rw [e] at hg
      simp only [cond_false] at hg
      cases e2 : hget s.G (nthL L j) with
      | none => rw [e2] at hg; cases hg
      | some t =>
        rw [e2] at hg
        cases hg
        have h1 := hk t e2
        rw [e] at h1
        exact ⟨t, rfl, (ren_size _ _).symm, fun cs hc => (R_renL hσ (fun _ _ h => h) h1).1 _ hc⟩
  have wide : ∀ j, (n0 ≤ j ∨ s.w.testBit j = true) → j < L.length → n0 ≤ nthL L j ∨ s.w.testBit (nthL L j) = true := fun j h1 h2 => by
    rcases Nat.lt_or_ge j n0 with h3 | h3
    · right; rw [told j h3]; exact h1.resolve_left (by omega)
    · exact .inl (high j h3 h2)
  have wideK : ∀ j, (K j ∨ G0.length ≤ j) → j < L.length → K (nthL L j) ∨ G0.length ≤ nthL L j := fun j h1 h2 => by
    rcases Nat.lt_or_ge j n0 with h3 | h3
    · rw [told j h3]; exact h1
    · right; rw [hG1]; exact high j h3 h2
  have inj : ∀ j j', j < L.length → j' < L.length → nthL L j = nthL L j' → j = j' := fun j j' h1 h2 h3 => by
    have h4 := ix_nth hd h1
    rw [h3, ix_nth hd h2] at h4
    exact h4.symm
  have blk : ∀ j t' p, hget (pickH n0 s.w L s.G 0 L) j = some t' → (∀ t, hget s.G (nthL L j) = some t → Blk ρ t p w) → Blk (ρ.pick L) t' p w := fun j t' p hg hb => by
    obtain ⟨hj, t, h1, h2, h3⟩ := ent j t' hg
    obtain ⟨cs, ty, fr, b1, b2, b3, b4, b5⟩ := hb t h1
    exact ⟨cs, ty, fr, b1, b2, by rw [← h2]; exact b3, by rw [← h2]; exact h3 _ b4, b5⟩
  refine ⟨⟨ρ.pick L, ?_, fun t => ?_, ?_⟩, hsz, hdfr, ?_, (pickTm_len _ _ _ _).trans hlen⟩
  · exact {
      ext := ⟨(fun k p hk => by
        rcases Nat.lt_or_ge k n0 with h1 | h1
        · rw [low k h1]; exact hp.ext k p hk
        · rw [hfr k (by omega)] at hk; cases hk), hp.ext.ro⟩
      dom := fun k hk => by
        rcases hk with hk | hk
        · rw [low k (by omega)]; exact hp.dom k (.inl hk)
        · have hk' : (pickH n0 s.w L s.G 0 L).length ≤ k := hk
          rw [len] at hk'
          rw [Rho.pick_out hk', hfr k (by omega)]
      val := trivial
      sim := fun k t p hk hg hq => by
        have hj := (ent k t hg).1
        rw [Rho.pick_in hj] at hq
        rw [hG1] at hk
        exact blk k t p hg fun t0 h0 => hp.sim _ t0 p (by rw [hG1]; exact wide k hk hj) h0 hq
      vac := fun k t hk hg hq => by
        obtain ⟨hj, t0, h1, h2, _⟩ := ent k t hg
        rw [Rho.pick_in hj] at hq
        rw [hG1] at hk
        rw [← h2]
        exact hp.vac _ t0 (by rw [hG1]; exact wide k hk hj) h1 hq
      new := fun k t p hk hg hq => by
        obtain ⟨hj, t0, h1, h2, _⟩ := ent k t hg
        rw [Rho.pick_in hj] at hq
        rcases hp.new _ t0 p (by rw [hG1]; exact high k (by omega) hj) h1 hq with h4 | ⟨j, q, a1, a2, a3, a4, a5⟩
        · exact .inl h4
        · refine .inr ⟨j, q, a1, a2, ?_, a4, a5⟩
          show hget (pickH n0 s.w L s.G 0 L) j = none
          cases e : hget (pickH n0 s.w L s.G 0 L) j with
          | none => rfl
          | some t2 =>
            obtain ⟨_, t3, h5, _⟩ := ent j t2 e
            rw [told j (by omega)] at h5
            have a3' : hget s.G j = Option.none := a3
            rw [a3'] at h5
            cases h5
      inj := fun k k' t t' p p' hk hk' hg hg' hq hq' he => by
        obtain ⟨hj, t0, h1, _⟩ := ent k t hg
        obtain ⟨hj', t1, h2, _⟩ := ent k' t' hg'
        rw [Rho.pick_in hj] at hq
        rw [Rho.pick_in hj'] at hq'
        exact inj k k' hj hj' (hp.inj _ _ t0 t1 p p' (by rw [hG1]; exact high k (by omega) hj) (by rw [hG1]; exact high k' (by omega) hj') h1 h2 hq hq' he)
      frame := hp.frame
      size := hp.size
      os := hp.os
      tape := hp.tape
      output := hp.output
      ro := hp.ro
      dis := fun k t p hk hg hq => by
        obtain ⟨hj, t0, h1, _⟩ := ent k t hg
        rw [Rho.pick_in hj] at hq
        rw [hG1] at hk
        exact hp.dis _ t0 p (by rw [hG1]; exact wide k hk hj) h1 hq }
  · rcases pickTm_get L keep 0 s.tm t with h1 | ⟨h1, h2⟩
    · show (R _ (tget (pickTm L keep 0 s.tm) t)).v _
      rw [h1]; trivial
    · show (R _ (tget (pickTm L keep 0 s.tm) t)).v _
      rw [h1]
      exact (R_renL hσ (fun _ _ h => h) h2).2.1 _ (htm t)
  · refine ⟨fun k t p hk hg hq => ?_, fun k t hk hg hq => ?_, fun k k' t t' p p' hk hk' hg hg' hq hq' he => ?_, hsim.ro, fun k t p hk hg hq => ?_⟩
    · have hj := (ent k t hg).1
      rw [Rho.pick_in hj] at hq
      exact blk k t p hg fun t0 h0 => hsim.blk _ t0 p (wideK k hk hj) h0 hq
    · obtain ⟨hj, t0, h1, h2, _⟩ := ent k t hg
      rw [Rho.pick_in hj] at hq
      rw [← h2]
      exact hsim.vac _ t0 (wideK k hk hj) h1 hq
    · obtain ⟨hj, t0, h1, _⟩ := ent k t hg
      obtain ⟨hj', t1, h2, _⟩ := ent k' t' hg'
      rw [Rho.pick_in hj] at hq
      rw [Rho.pick_in hj'] at hq'
      exact inj k k' hj hj' (hsim.inj _ _ t0 t1 p p' (wideK k hk hj) (wideK k' hk' hj') h1 h2 hq hq' he)
    · obtain ⟨hj, t0, h1, _⟩ := ent k t hg
      rw [Rho.pick_in hj] at hq
      exact hsim.dis _ t0 p (wideK k hk hj) h1 hq
  · refine ⟨?_, hst.wt, fun k hk hb => ?_⟩
    · show G0.length ≤ (pickH n0 s.w L s.G 0 L).length
      rw [len]; omega
    · show hget (pickH n0 s.w L s.G 0 L) k = hget G0 k
      have hb' : s.w.testBit k = false := hb
      have e : keepE n0 s.w k = true := by
        unfold keepE
        rw [hb', show Nat.blt k n0 = true from by simpa using (show k < n0 by omega)]
        rfl
      rw [pickH_get (by omega), Nat.zero_add, e, cond_true]
      exact hst.old k hk hb

/-- What a run left, under other names: the names of the list, in its order. -/
theorem Tr.pick {n0 : Nat} {c : Code} {s : St} {e : Ex} {W : Nat} {tm tm' : List T} {G G' : Heap} (L : List Nat) (keep : Nat) (h : Tr P n0 c s e (stW n0 W tm G)) (ht : pickTm L keep 0 tm = tm') (hG' : pickH n0 W L G 0 L = G')
    (hn : Nat.ble n0 L.length = true) (hs : Nat.ble s.G.length L.length = true) (hd : dupFree L = true) (hok : pickOK n0 W L G 0 L = true) : Tr P n0 c s e (stW n0 W tm' G') := by
  subst ht hG'
  have hn := Nat.le_of_ble_eq_true hn
  have hs := Nat.le_of_ble_eq_true hs
  refine ⟨?_, h.t, ?_, fun K ρ0 G0 w0 dS m hG g1 g2 a w hR => ?_⟩
  · show s.G.length ≤ (pickH n0 W L G 0 L).length
    rw [pickH_len]; exact hs
  · show (pickTm L keep 0 tm).length = _
    rw [pickTm_len]; exact h.tm
  · refine wp_mono (h.run K ρ0 G0 w0 dS m hG g1 g2 a w hR) ?_
    rintro e1 a1 w1 ⟨rfl, hR1⟩
    exact ⟨rfl, Rl.pick (s := stW n0 W tm G) hR1 hG L keep hn hd hok g2⟩

/-! ### A name that stands for no block -/
theorem hget_snoc {G : Heap} {x : Option T} {k : Nat} {t : T} (h : hget (G ++ [x]) k = some t) : (k < G.length ∧ hget G k = some t) ∨ (k = G.length ∧ x = some t) := by
  rcases Nat.lt_or_ge k G.length with h1 | h1
  · rw [hget_append_left h1] at h; exact .inl ⟨h1, h⟩
  · obtain ⟨j, rfl⟩ : ∃ j, k = G.length + j := ⟨k - G.length, by omega⟩
    rw [hget_append_right] at h
    cases j with
    | zero => exact .inr ⟨rfl, h⟩
    | succ j => cases h
theorem Rl.vac {K : Nat → Prop} {ρ0 : Rho} {G0 : Heap} {w0 : World} {dS : List Deferred} {m : Nat} {s : St} {a : Act} {w : World} (h : Rl K ρ0 G0 w0 dS m s a w) (hfr : ∀ k, G0.length ≤ k → ρ0 k = none) (t : T) (ht : t.size = 0) :
    Rl K ρ0 G0 w0 dS m ⟨s.tm, s.G ++ [some t], true, s.t, s.w⟩ a w := by
  obtain ⟨⟨ρ, hp, htm, hsim⟩, hsz, hdfr, hst, hlen⟩ := h
  have hl : G0.length ≤ s.G.length := hst.len
  have hno : ρ s.G.length = none := by
    rw [hp.dom s.G.length (.inr (Nat.le_refl _))]
    exact hfr _ hl
  have old : ∀ {k t' p}, hget (s.G ++ [some t]) k = some t' → ρ k = some p → hget s.G k = some t' := fun {k t' p} hg hq => by
    rcases hget_snoc hg with ⟨_, h⟩ | ⟨h, _⟩
    · exact h
    · rw [h, hno] at hq; cases hq
  have vac : ∀ {k t'}, hget (s.G ++ [some t]) k = some t' → hget s.G k = some t' ∨ t'.size = 0 := fun {k t'} hg => by
    rcases hget_snoc hg with ⟨_, h⟩ | ⟨_, h⟩
    · exact .inl h
    · cases h; exact .inr ht
  refine ⟨⟨ρ, ?_, htm, ?_⟩, hsz, hdfr, ?_, hlen⟩
  · exact {
      ext := hp.ext
      dom := fun k hk => hp.dom k (by
        rcases hk with hk | hk
        · exact .inl hk
        · right
          have hk' : (s.G ++ [some t]).length ≤ k := hk
          show s.G.length ≤ k
          simp at hk'
          omega)
      val := trivial
      sim := fun k t' p hk hg hq => hp.sim k t' p hk (old hg hq) hq
      vac := fun k t' hk hg hq => by
        rcases vac hg with h | h
        · exact hp.vac k t' hk h hq
        · exact h
      new := fun k t' p hk hg hq => by
        rcases hp.new k t' p hk (old hg hq) hq with h4 | ⟨j, q, a1, a2, a3, a4, a5⟩
        · exact .inl h4
        · refine .inr ⟨j, q, a1, a2, ?_, a4, a5⟩
          show hget (s.G ++ [some t]) j = none
          rw [hget_append_left (by omega)]
          exact a3
      inj := fun k k' t' t2 p p' hk hk' hg hg' hq hq' he => hp.inj k k' t' t2 p p' hk hk' (old hg hq) (old hg' hq') hq hq' he
      frame := hp.frame
      size := hp.size
      os := hp.os
      tape := hp.tape
      output := hp.output
      ro := hp.ro
      dis := fun k t' p hk hg hq => hp.dis k t' p hk (old hg hq) hq }
  · exact ⟨fun k t' p hk hg hq => hsim.blk k t' p hk (old hg hq) hq, fun k t' hk hg hq => by
      rcases vac hg with h | h
      · exact hsim.vac k t' hk h hq
      · exact h, fun k k' t' t2 p p' hk hk' hg hg' hq hq' he => hsim.inj k k' t' t2 p p' hk hk' (old hg hq) (old hg' hq') hq hq' he, hsim.ro, fun k t' p hk hg hq => hsim.dis k t' p hk (old hg hq) hq⟩
  · refine ⟨?_, hst.wt, fun k hk hb => ?_⟩
    · show G0.length ≤ (s.G ++ [some t]).length
      simp; omega
    · show hget (s.G ++ [some t]) k = hget G0 k
      rw [hget_append_left (by omega)]
      exact hst.old k hk hb
/-- One more name, of nothing. -/
theorem Tr.vac {n0 : Nat} {c : Code} {s : St} {e : Ex} {W : Nat} {tm : List T} {G : Heap} (h : Tr P n0 c s e (stW n0 W tm G)) (t : T) (ht : t.size = 0) : Tr P n0 c s e (stW n0 W tm (G ++ [some t])) := by
  refine ⟨?_, h.t, h.tm, fun K ρ0 G0 w0 dS m hG g1 g2 a w hR => ?_⟩
  · have := h.len
    show s.G.length ≤ (G ++ [some t]).length
    have h2 : s.G.length ≤ G.length := this
    simp; omega
  · refine wp_mono (h.run K ρ0 G0 w0 dS m hG g1 g2 a w hR) ?_
    rintro e1 a1 w1 ⟨rfl, hR1⟩
    exact ⟨rfl, Rl.vac (s := stW n0 W tm G) hR1 g2 t ht⟩
/-- None is a slice of no elements. -/
theorem nil_slice {ρ : Rho} {id m : Nat} {x : Value} (h : (R ρ .nilslice).v x) : (R ρ (.slice id [] 0 m 0 none)).v x := .inr ⟨rfl, rfl, rfl, h⟩

end
end Go.AE

/-! Functions that jump back to a label: the evaluator follows them, so many times at most. No condition. -/
namespace Go.AE
open Go
noncomputable section
variable {P : Program} {env : Env}

def jumps (l : Nat) : Nat → Step' → Step'
  | 0, _, _ => none
  | k + 1, f, s => match f s with
    | some (.goto l', s') => bif Nat.beq l' l then jumps l k f s' else none
    | r => r

def evScope (P : Program) (env : Env) (n : Cf) (l : Nat) (rest c : Code) : Step' := fun s =>
  match evCode P env n c s with
  | some (.goto l', s') => bif Nat.beq l' l then jumps l n.n (evCode P env n rest) s' else none
  | r => r

theorem jumps_shape {R : St → St → Prop} {l : Nat} {f : Step'} (refl : ∀ s, R s s) (trans : ∀ {a b c}, R a b → R b c → R a c) (hf : ∀ s e s', f s = some (e, s') → R s s') : ∀ (n : Nat) (s : St) (e : Ex) (s' : St), jumps l n f s = some (e, s') → R s s' ∧ ∀ l', e ≠ .goto l'
  | 0, _, _, _, h => by cases h
  | n + 1, s, e, s', h => by
    simp only [jumps] at h
    split at h
    · rename_i l' s1 h1
      cases hb : Nat.beq l' l with
      | false => rw [hb] at h; cases h
      | true =>
        rw [hb] at h
        obtain ⟨h2, h3⟩ := jumps_shape refl trans hf n s1 e s' h
        exact ⟨trans (hf _ _ _ h1) h2, h3⟩
    · rename_i r hr
      refine ⟨hf _ _ _ h, fun l' he => ?_⟩
      subst he
      exact (hr l' s' h).elim

theorem evScope_shape {R : St → St → Prop} {n : Cf} {l : Nat} {rest c : Code} (refl : ∀ s, R s s) (trans : ∀ {a b c}, R a b → R b c → R a c) (hf : ∀ c s e s', evCode P env n c s = some (e, s') → R s s') {s : St} {e : Ex} {s' : St}
    (h : evScope P env n l rest c s = some (e, s')) : R s s' ∧ ∀ l', e ≠ .goto l' := by
  unfold evScope at h
  split at h
  · rename_i l' s1 h1
    cases hb : Nat.beq l' l with
    | false => rw [hb] at h; cases h
    | true =>
      rw [hb] at h
      obtain ⟨h2, h3⟩ := jumps_shape refl trans (hf rest) n.n s1 e s' h
      exact ⟨trans (hf _ _ _ _ h1) h2, h3⟩
  · rename_i r hr
    refine ⟨hf _ _ _ _ h, fun l' he => ?_⟩
    subst he
    exact (hr l' s' h).elim

theorem evScope_grow (henv : EnvOK P env) {n : Cf} {l : Nat} {rest c : Code} {s : St} {e : Ex} {s' : St} (h : evScope P env n l rest c s = some (e, s')) : Grow s s' :=
  (evScope_shape (R := Grow) Grow.refl (fun h h' => h.trans h') (fun c => evCode_grow henv c) h).1
theorem evScope_stat (henv : EnvOK P env) {n : Cf} {l : Nat} {rest c : Code} {tm : List T} {G : Heap} {e : Ex} {s : St} (h : evScope P env n l rest c ⟨tm, G, true, 0, 0⟩ = some (e, s)) : Stat G s.res := by
  obtain ⟨t, w, h1, h2, h3⟩ := (evScope_shape (R := StatC) (fun s => StatC.refl s s rfl rfl rfl) (fun h h' => h.trans h') (fun c => evCode_statC henv c) h).1
  simp only [Nat.zero_or] at h2 h3
  unfold St.res
  rw [h2, h3]
  exact h1

theorem evScope_sound (henv : EnvOK P env) (hmix : P.follows .mixedOrders = true) {n : Cf} {l : Nat} {rest c : Code} (hl : findLabel c l = some rest) {K : Nat → Prop} {ρ0 : Rho} {G0 : Heap} {w0 : World} {dS : List Deferred} {m : Nat} {s : St} {e : Ex} {s' : St}
    (h : evScope P env n l rest c s = some (e, s')) (hvc : s'.vc = true) (hK : ∀ k, k < G0.length → s'.t.testBit k = true → K k) (hfr : ∀ k, G0.length ≤ k → k < s'.G.length → ρ0 k = none) (a : Act) (w : World) (hR : Rl K ρ0 G0 w0 dS m s a w) :
    (Code.scope c).wp P (Lands' K ρ0 G0 w0 dS m e s') a w := by
  have hf : ∀ c s e s1, evCode P env n c s = some (e, s1) → Grow s1 s' → ∀ a w, Rl K ρ0 G0 w0 dS m s a w → c.wp P (Lands' K ρ0 G0 w0 dS m e s1) a w := fun c s e s1 h1 hg a w hR =>
    evCode_sound henv hmix c s e s1 h1 (hg.vc hvc) (fun k hk hb => hK k hk (hg.t k hb)) (fun k hk hlt => hfr k hk (Nat.lt_of_lt_of_le hlt hg.G)) a w hR
  have hg : ∀ k s1, jumps l k (evCode P env n rest) s1 = some (e, s') → Grow s1 s' ∧ ∀ l', e ≠ .goto l' := fun k s1 h1 => jumps_shape (R := Grow) Grow.refl (fun h h' => h.trans h') (evCode_grow henv rest) k s1 e s' h1
  let J : Nat → Act → World → Prop := fun j a w => ∃ sj, jumps l j (evCode P env n rest) sj = some (e, s') ∧ Rl K ρ0 G0 w0 dS m sj a w
  have fin : ∀ {e' : Ex} {a' : Act} {w' : World} (j : Nat), (∀ l', e' ≠ .goto l') → e' = e → Rl K ρ0 G0 w0 dS m s' a' w' → Exit.jump l (J j) (Lands' K ρ0 G0 w0 dS m e s') e'.to a' w' := fun {e' a' w'} j h1 h2 h3 => by
    subst h2
    cases e' with
    | goto l' => exact absurd rfl (h1 l')
    | normal => exact ⟨rfl, h3⟩
    | exit id => exact ⟨rfl, h3⟩
    | ret => exact ⟨rfl, h3⟩
  refine wp_scope_rounds l hl J (fun a w h => by obtain ⟨sj, h1, _⟩ := h; cases h1) ?_ (n := n.n) ?_
  · rintro j a w ⟨sj, h1, hR⟩
    simp only [jumps] at h1
    split at h1
    · rename_i l' s2 h2
      cases hb : Nat.beq l' l with
      | false => rw [hb] at h1; cases h1
      | true =>
        rw [hb] at h1
        have hq := Nat.eq_of_beq_eq_true hb
        subst hq
        refine wp_mono (hf _ _ _ _ h2 (hg j s2 h1).1 a w hR) ?_
        rintro e' a' w' ⟨rfl, hR'⟩
        exact ⟨rfl, s2, h1, hR'⟩
    · rename_i r hr
      have hne : ∀ l', e ≠ .goto l' := fun l' he => by subst he; exact (hr l' s' h1).elim
      refine wp_mono (hf _ _ _ _ h1 (Grow.refl s') a w hR) ?_
      rintro e' a' w' ⟨rfl, hR'⟩
      exact fin j hne rfl hR'
  · unfold evScope at h
    split at h
    · rename_i l' s2 h2
      cases hb : Nat.beq l' l with
      | false => rw [hb] at h; cases h
      | true =>
        rw [hb] at h
        have hq := Nat.eq_of_beq_eq_true hb
        subst hq
        refine wp_mono (hf _ _ _ _ h2 (hg n.n s2 h).1 a w hR) ?_
        rintro e' a' w' ⟨rfl, hR'⟩
        exact ⟨rfl, s2, h, hR'⟩
    · rename_i r hr
      have hne : ∀ l', e ≠ .goto l' := fun l' he => by subst he; exact (hr l' s' h).elim
      refine wp_mono (hf _ _ _ _ h (Grow.refl s') a w hR) ?_
      rintro e' a' w' ⟨rfl, hR'⟩
      exact fin n.n hne rfl hR'

/-- A function's body that jumps back to a label. -/
def evFnS (P : Program) (env : Env) (n : Cf) (l : Nat) (fn : Func) : Model := fun args G =>
  match fn.body with
  | some (.scope c) => match findLabel c l with
    | some rest => match evScope P env n l rest c ⟨args ++ undefs (fn.ntmps - args.length), G, true, 0, 0⟩ with
      | some (.ret, s) => match evResults P s fn.results.toList with
        | some (vc, vs, t) => some (fullR G s vc vs t)
        | none => none
      | some (.normal, s) => match evResults P s fn.results.toList with
        | some (vc, vs, t) => some (fullR G s vc vs t)
        | none => none
      | _ => none
    | none => none
  | _ => none

theorem SoundM.of_evS (henv : EnvOK P env) (hmix : P.follows .mixedOrders = true) {n : Cf} {l : Nat} {f : FuncId} {fn : Func} (hf : P.funcs[f]? = some fn) (hname : (fn.name == "runtime.NumGoroutine") = false) (hbody : fn.body.isNone = false) : SoundM P f (evFnS P env n l fn) := by
  have shape : ∀ args G r, evFnS P env n l fn args G = some r → ∃ c rest e s vc vs t, fn.body = some (.scope c) ∧ findLabel c l = some rest ∧ evScope P env n l rest c ⟨args ++ undefs (fn.ntmps - args.length), G, true, 0, 0⟩ = some (e, s) ∧ (e = .ret ∨ e = .normal) ∧ evResults P s fn.results.toList = some (vc, vs, t) ∧ r = fullR G s vc vs t := by
    intro args G r h
    unfold evFnS at h
    split at h
    · rename_i c hc
      split at h
      · rename_i rest hr0
        split at h
        · rename_i s hs
          split at h
          · rename_i vc vs t hr
            cases h
            exact ⟨c, rest, _, s, vc, vs, t, hc, hr0, hs, .inl rfl, hr, rfl⟩
          · cases h
        · rename_i s hs
          split at h
          · rename_i vc vs t hr
            cases h
            exact ⟨c, rest, _, s, vc, vs, t, hc, hr0, hs, .inr rfl, hr, rfl⟩
          · cases h
        · cases h
      · cases h
    · cases h
  refine SoundM.of_does ⟨fn, hf, hname, hbody⟩ ?_ ?_
  · intro args G r h
    obtain ⟨c, rest, e, s, vc, vs, t, _, _, h2, _, _, rfl⟩ := shape args G r h
    have := evScope_stat henv h2
    exact ⟨this.len, fun k hk hw => by
      obtain ⟨a, b⟩ := this.wt k hk hw
      refine ⟨?_, b⟩
      show (s.t ||| t).testBit k = true
      rw [Nat.testBit_or]
      have a' : s.t.testBit k = true := a
      simp [a'], this.old⟩
  · intro args G r h hvc ρ w args' hsim hfr hargs
    obtain ⟨c, rest, e, s, vc, vs, t, hc, hl, h2, he, h3, rfl⟩ := shape args G r h
    simp only [fullR, Bool.and_eq_true] at hvc
    unfold Does
    refine calls_of_wp hf hc ?_
    have hst := evScope_stat henv h2
    have hlen := VLs_len hargs
    have hR0 : Rl (bitK (s.t ||| t)) ρ G w [] (args ++ undefs (fn.ntmps - args.length)).length ⟨args ++ undefs (fn.ntmps - args.length), G, true, 0, 0⟩
        { tmps := args'.toArray ++ Array.replicate (fn.ntmps - args'.toArray.size) undef, defers := [] } w := by
      refine ⟨⟨ρ, ?_, ?_, ?_⟩, ?_, rfl, ?_, rfl⟩
      · have hv : (R ρ T.any).v undef := trivial
        exact Post.pure hv 0
      · intro t'
        have := VLs_tget (fn.ntmps - args.length) t' hargs
        have e1 : (args'.toArray ++ Array.replicate (fn.ntmps - args'.toArray.size) undef).getD t' undef = (args' ++ List.replicate (fn.ntmps - args.length) undef).getD t' undef := by
          simp [Array.getD_eq_getD_getElem?, List.getD_eq_getElem?_getD, hlen, Array.getElem?_append, List.getElem?_append, Array.getElem?_replicate, List.getElem?_replicate]
        rw [e1]; exact this
      · exact hsim.weak fun k hl hk => by
          rcases hk with hk | hk
          · exact hk
          · omega
      · simp [hlen, undefs_len]
      · exact Stat.pure _ _ _ _
    have hcode := evScope_sound henv hmix hl (K := bitK (s.t ||| t)) (ρ0 := ρ) (G0 := G) (w0 := w) (dS := []) h2 hvc.2 (fun k _ hb => by
      unfold bitK; rw [Nat.testBit_or, hb]; rfl) (fun k h4 h5 => hfr k h4 h5) _ _ hR0
    refine wp_mono hcode ?_
    rintro e' a' w' ⟨rfl, hR⟩
    obtain ⟨⟨ρ', hp, htm, hsim'⟩, hsz, hdfr, hst', hlen'⟩ := hR
    obtain ⟨xs, g1, g2⟩ := evResults_sound (P := P) htm h3 hvc.1 (hsim'.weak fun k _ hk => by
        left; unfold bitK at *; rw [Nat.testBit_or, hk, Bool.or_true])
    have hres : (results fn a'.tmps).run P w' = .ok (if h : xs.toArray.size = 1 then xs.toArray[0] else .tuple xs.toArray) w' := by
      have : results fn a'.tmps = (do let vs ← fn.results.mapM (resSem a'.tmps); Pure.pure (if h : vs.size = 1 then vs[0] else .tuple vs)) := rfl
      rw [this, Sem.run_bind, Array.mapM_eq_mapM_toList, Sem.run_map, g1]
      rfl
    have fin : bodyPost P fn (fun e w'_1 => ∃ v', e = .returned v' ∧ ∃ ρ', Post ρ ρ' G w (fullR G s vc vs t) v' w'_1) .ret a' w' := by
      refine ⟨hdfr, _, hres, _, rfl, ρ', ?_⟩
      exact ⟨hp.ext, hp.dom, one_sound g2, hp.sim, hp.vac, hp.new, hp.inj, hp.frame, hp.size, hp.os, hp.tape, hp.output, hp.ro, hp.dis⟩
    rcases he with rfl | rfl
    · exact fin
    · exact fin

end
end Go.AE

/-! fardellaw08.SignShape is true. No condition. -/
namespace Go.Proofs.Ytbcbmkgfjegbhaa
open Go.AE Fardel
set_option maxRecDepth 100000
noncomputable def envSs : Env := ((((env0.set 6 (pureModel awakeP)).set 7 (lift 0 signV)).set 10 (pureModel DecodeP)).set 8 (pureModel PublicP)).set 11 (pureModel FineP)
theorem envSs_ok : EnvOK Try.prog envSs := (((((env0_ok _).set awake8_ok).set (Sign_ok.lift 0)).set Decode_ok).set Public_ok).set Fine_ok
noncomputable def ssM (b : Bool) : Model := evFn Try.prog envSs ⟨1000000, [(17, b), (55, true), (58, true)]⟩ Try.f4
theorem ssM_ok (b : Bool) : SoundM Try.prog 4 (ssM b) := SoundM.of_ev envSs_ok mix (by kernel_rfl) (by kernel_rfl) (by kernel_rfl)
/-- The first so many numbers of others, from a place on. -/
noncomputable def cpF (g : Nat → Int) (o : Nat) : Nat → (Nat → Int)
  | 0 => fun _ => 0
  | i + 1 => fun j => bif Nat.beq j i then g (o + i) else cpF g o i j
theorem cpF_lt {g : Nat → Int} {o j : Nat} : ∀ {k : Nat}, j < k → cpF g o k j = g (o + j)
  | k + 1, h => by
    unfold cpF
    by_cases e : j = k
    · subst e; rw [Nat.beq_refl]; rfl
    · rw [beq_ne e]; exact cpF_lt (k := k) (by omega)
/-- A seed's signature of a text. -/
noncomputable def ssS (f A : Nat → Int) (n : Nat) : Nat → Int := sigF f (0 + n) (catF 0 (fun _ => 0) A)
section
variable (f A : Nat → Int) (n : Nat)
theorem ss_v : (mv (ssM false) [.ints .u8 32 f, .fsi .u8 n A none]).map (·.2) = some (.bool (fineB (cpF (ssS f A n) 32 32))) := by kernel_rfl
theorem ss_v1 : (mv (ssM true) [.ints .u8 32 f, .fsi .u8 n A none]).map (·.2) = some (.bool true) := by kernel_rfl
noncomputable def ssTop : Nat → Int := cpF (ssS f A n) 0 32
noncomputable def ssEnd : Nat → Int := cpF (ssS f A n) 32 32
noncomputable def ssV2 (b : Bool) : Bool := (decide ((n : Int) > 500) == b && true) && true
noncomputable def ssV4 : Bool := (((lenB (64 + (0 + n) : Nat) && true) && true) && true) && ssV2 n false
noncomputable def ssV12 : Bool := (bytesB 32 (ssTop f A n) && true) && ssV4 n
noncomputable def ssV13 : Bool := (bytesB 32 (pubF f) && true) && ssV12 f A n
noncomputable def ssV14 : Bool := ((decB (ssTop f A n) == true) && ((decB (pubF f) == true) && (bytesB 32 (ssEnd f A n) && true))) && ssV13 f A n
theorem ss_1 : (mv (ssM true) [.ints .u8 32 f, .fsi .u8 n A none]).map (·.1) = some (ssV2 n true) := by kernel_rfl
theorem ss_vc : (mv (ssM false) [.ints .u8 32 f, .fsi .u8 n A none]).map (·.1) = some (ssV14 f A n) := by kernel_rfl

theorem ssV2_t {n : Nat} (h : 500 < n) : ssV2 n true = true := by
  unfold ssV2
  rw [decide_eq_true (by omega : (n : Int) > 500)]
  rfl
theorem ssV2_f {n : Nat} (h : n ≤ 500) : ssV2 n false = true := by
  unfold ssV2
  rw [decide_eq_false (by omega : ¬ (n : Int) > 500)]
  rfl
theorem lenB_of {n : Nat} (h : n ≤ 1099511627776) : lenB (n : Int) = true := decide_eq_true (by omega)
theorem ssV4_ok {n : Nat} (h : n ≤ 500) : ssV4 n = true := by
  unfold ssV4
  rw [ssV2_f h, lenB_of (by omega)]
  rfl
theorem pub_bytes : bytesB 32 (pubF f) = true := by rw [pubF_eq]; exact encP_bytes _
theorem pub_dec : decB (pubF f) = true := by rw [decB_eq, pubF_eq]; exact (dec_enc _).1
theorem ss_top {g : Nat → Int} (hg : ∀ j, j < 32 → g j = ssS f A n j) : decB g = true ∧ bytesB 32 g = true := by
  have h : ∀ j, j < 32 → g j = sgPt1 f (0 + n) (catF 0 (fun _ => 0) A) j := fun j hj => by rw [hg j hj]; exact sig_lo _ _ _ hj
  refine ⟨?_, bytesB_of fun j hj => ?_⟩
  · rw [decB_eq, dOk_congr h]; exact (dec_enc _).1
  · rw [hg j hj]; exact sig_bd _ _ _ (by omega)
theorem ss_end {g : Nat → Int} (hg : ∀ j, j < 32 → g j = ssS f A n (32 + j)) : fineB g = true ∧ bytesB 32 g = true := by
  have h : ∀ j, j < 32 → maF (sgK1 f (0 + n) (catF 0 (fun _ => 0) A)) (secS f) (sgR1 f (0 + n) (catF 0 (fun _ => 0) A)) j = g j := fun j hj => by rw [hg j hj]; exact (sig_hi _ _ _ hj).symm
  refine ⟨?_, bytesB_of fun j hj => ?_⟩
  · rw [fineB_eq, decide_eq_true_eq, ← natB_congr 32 h, natB_hi (maF_bytes _ _ _), maF_hi]
    exact maNum_lt _ _ _
  · rw [hg j hj]; exact sig_bd _ _ _ (by omega)
theorem shape_ok : Answers Try.prog 4 [.ints .u8 32 f, .fsi .u8 n A none] := by
  refine Answers.of_m ?_
  by_cases h : n ≤ 500
  · refine ⟨_, ssM_ok false, mv_law ?_ (ss_vc f A n) ?_⟩
    · rw [ss_v, (ss_end f A n fun j hj => cpF_lt hj).1]
    · have h1 := ss_top f A n (g := ssTop f A n) fun j hj => by unfold ssTop; rw [cpF_lt hj, Nat.zero_add]
      have h2 := ss_end f A n (g := ssEnd f A n) fun j hj => cpF_lt hj
      unfold ssV14 ssV13 ssV12
      rw [ssV4_ok h, h1.1, h1.2, h2.2, pub_bytes, pub_dec]
      rfl
  · exact ⟨_, ssM_ok true, mv_law (ss_v1 f A n) (ss_1 f A n) (ssV2_t (by omega))⟩
end
theorem shape_run (f : Nat → Int) (n : Nat) (A : Nat → Int) (_ : ∀ i, i < 32 → (Lit.int .u8 (f i)).wf = true) (_ : n ≤ 9223372036854775807) (_ : ∀ i, (Lit.int .u8 (A i)).wf = true) :
    Answers Try.prog 4 [.ints .u8 32 f, .fsi .u8 n A none] := shape_ok f A n
end Go.Proofs.Ytbcbmkgfjegbhaa

/-! scalar.Order by its model. No condition. -/
namespace Go.Proofs.Ytbcbmkgfjegbhaa
open Go.AE Fardel
set_option maxRecDepth 100000

def ordF : Nat → Int := nbF 6346243789798364141 1503914060200516822 0 1152921504606846976
def OrderP : PModel
  | [] => some (true, .ints .u8 32 ordF)
  | _ => none
theorem Order_mv : mv (evFn Try.prog envN2 40 Try.f12) [] = some (true, .ints .u8 32 ordF) := by kernel_rfl
theorem Order_ok : SoundM Try.prog 12 (pureModel OrderP) := by
  refine (SoundM.of_ev envN2_ok mix (n := 40) (fn := Try.f12) (by kernel_rfl) (by kernel_rfl) (by kernel_rfl)).pure ?_
  intro args vc v h hvc
  unfold OrderP at h
  split at h
  · cases h
    obtain ⟨r, h3, h4, h5⟩ := mv_some Order_mv
    exact ⟨rfl, rfl, r, h3, h4, h5⟩
  · cases h

theorem ordF_hi : hi ordF 256 = L := by decide +kernel
theorem ordF_bytes : bytesB 32 ordF = true := by decide +kernel
end Go.Proofs.Ytbcbmkgfjegbhaa

/-! fardellaw08.SignStrict is true. No condition. -/
namespace Go.Proofs.Ytbcbmkgfjegbhaa
open Go.AE Fardel
set_option maxRecDepth 100000
noncomputable def envSt2 : Env := ((((((env0.set 6 (pureModel awakeP)).set 7 (lift 0 signV)).set 9 (lift 0 verV)).set 8 (pureModel PublicP)).set 11 (pureModel FineP)).set 13 (pureModel RFineP)).set 12 (pureModel OrderP)
theorem envSt2_ok : EnvOK Try.prog envSt2 := (((((((env0_ok _).set awake8_ok).set (Sign_ok.lift 0)).set (Verify_ok.lift 0)).set Public_ok).set Fine_ok).set RFine_ok).set Order_ok
noncomputable def stC : Code := bodyC Try.f5
noncomputable def stX : Code := postC 8 stC
noncomputable def stB : Code := cB (cB (cR (cL stX)))
theorem stX_eq : stX = .seq (.seq (cL (cL stX)) (.block 0 (.loop stB))) (cR stX) := by kernel_rfl
def stG (f p s o h : Nat → Int) (n : Nat) (A : Nat → Int) : Heap := [some (.ints .u8 32 f), some (.ints .u8 32 p), some (.rows 1 1 fun j => bif Nat.beq j 0 then .fsi .u8 n A none else .nilslice), some (.ints .u8 64 s), some (.ints .u8 32 o), some (.ints .u8 64 h)]
def stT (n : Nat) (A : Nat → Int) (c : Int) : List (Nat × T) := [(1, .fsi .u8 n A none), (2, .ptr 0 []), (5, .bool true), (6, .ptr 1 []), (7, .ptr 3 []), (8, .ptr 4 []), (9, .ptr 5 []), (10, .num c)]
section
variable (f p s o h A : Nat → Int) (n : Nat) (i c : Int)
theorem st_0 : (evCode Try.prog envSt2 ⟨1000000, [(20, false)]⟩ (preC 8 stC) (stW 0 0 ([.ints .u8 32 f, .fsi .u8 n A none] ++ undefs 108) [])).map (cutPW 0 0 (maskOf [1, 2, 5, 6, 7, 8, 9, 10]) (maskOf [10])) =
  some (.normal, ssV4 n, tmk (stT n A 0) 0 110, stG f (pubF f) (ssS f A n) ordF (ssS f A n) n A, true) := by kernel_rfl
theorem st_i : Tr Try.prog 0 (cL (cL stX)) (stW 0 0 (tmk (stT n A 0) 0 110) (stG f p s o h n A)) .normal (stW 0 0 (tmk (stT n A 0 ++ [(11, .num 0)]) 0 110) (stG f p s o h n A)) :=
  Tr.evW (n := 1000000) (N := 6) (keep := maskOf [1, 2, 5, 6, 7, 8, 9, 10, 11]) (nm := maskOf [10, 11]) (vc := true) (env0_ok _) mix (by kernel_rfl) rfl rfl rfl rfl
def stm (s o : Nat → Int) (i c : Int) : Int := IntKind.i64.wrap (IntKind.i64.wrap (s (32 + i).toNat) + IntKind.i64.wrap (o i.toNat)) + c
def stV : Bool := decide (-9223372036854775808 ≤ i + 1 ∧ i + 1 ≤ 9223372036854775807) && true &&
  (decide (0 ≤ stm s o i c ∧ 0 < (256 : Int)) && decide (-9223372036854775808 ≤ stm s o i c / 256 ∧ stm s o i c / 256 ≤ 9223372036854775807) && true &&
    (decide (-9223372036854775808 ≤ 32 + i ∧ 32 + i ≤ 9223372036854775807) && (decide (0 ≤ stm s o i c ∧ 0 < (256 : Int)) && (decide (0 ≤ 32 + i ∧ 32 + i < 64) && (decide ((32 + i).toNat < 64) && true && true))) &&
      (decide (-9223372036854775808 ≤ 32 + i ∧ 32 + i ≤ 9223372036854775807) && (decide (0 ≤ 32 + i ∧ 32 + i < 64) && (decide ((32 + i).toNat < 64) && true && (decide (0 ≤ i ∧ i < 32) && (decide (i.toNat < 32) && true &&
        (decide (-9223372036854775808 ≤ stm s o i c ∧ stm s o i c ≤ 9223372036854775807) && true))))) && (decide (i < 32) == true && true && true))))
theorem st_s (hv : stV s o i c = true) : Tr Try.prog 0 stB (stW 0 0 (tmk (stT n A c ++ [(11, .num i)]) 0 110) (stG f p s o h n A)) .normal
    (stW 0 0 (tmk (stT n A (stm s o i c / 256) ++ [(11, .num (i + 1))]) 0 110) (stG f p s o (fun j => bif Nat.beq j (32 + i).toNat then IntKind.u8.wrap (stm s o i c % 256) else h j) n A)) :=
  Tr.evW (n := ⟨1000000, [(31, true)]⟩) (N := 6) (keep := maskOf [1, 2, 5, 6, 7, 8, 9, 10, 11]) (nm := maskOf [10, 11]) (vc := stV s o i c) (env0_ok _) mix (by kernel_rfl) hv rfl rfl rfl
theorem st_x : Tr Try.prog 0 stB (stW 0 0 (tmk (stT n A c ++ [(11, .num 32)]) 0 110) (stG f p s o h n A)) (.exit 0) (stW 0 0 (tmk (stT n A c) 0 110) (stG f p s o h n A)) :=
  Tr.evW (n := 1000000) (N := 6) (keep := maskOf [1, 2, 5, 6, 7, 8, 9, 10]) (nm := maskOf [10]) (vc := true) (env0_ok _) mix (by kernel_rfl) rfl rfl rfl rfl

def crW (s o : Nat → Int) : Nat → Int
  | 0 => 0
  | k + 1 => stm s o (k : Nat) (crW s o k) / 256
def hW (s o : Nat → Int) : Nat → Nat → Int
  | 0 => s
  | k + 1 => fun j => bif Nat.beq j (32 + ((k : Nat) : Int)).toNat then IntKind.u8.wrap (stm s o (k : Nat) (crW s o k) % 256) else hW s o k j
def zeF (s : Nat → Int) : Nat → Nat → Int
  | 0 => s
  | k + 1 => fun j => bif Nat.beq j k then 0 else zeF s k j
def offF (s : Nat → Int) : Nat → Int := fun j => bif Nat.beq j 0 then 2 else zeF s 32 j
noncomputable def stVB (p g : Nat → Int) (n : Nat) : Bool := ((bytesB 32 p && bytesB 64 g) && lenB (64 + (0 + n) : Nat)) && true
noncomputable def stNv (p g A : Nat → Int) (n : Nat) : Bool := !verB p g (0 + n) (catF 0 (fun _ => 0) A)
noncomputable def stV26 (p s h A : Nat → Int) (n : Nat) : Bool := (stVB p h n && ((stNv p h A n == true) && (stVB p (offF s) n && ((stNv p (offF s) A n == true) && (stVB two32 s n && ((stNv two32 s A n == true) && (bytesB 32 (cpF s 32 32) && ((fineB (cpF s 32 32) == true) && true)))))))) && true
theorem st_f (hv : stV26 p s h A n = true) : Tr Try.prog 0 (cR stX) (stW 0 0 (tmk (stT n A 0) 0 110) (stG f p s o h n A)) .ret (stW 0 0 (tmk [(4, .bool (bwH (cpF s 32 32) ordL))] 0 110) (stG f p s o h n A)) :=
  Tr.evW (n := ⟨1000000, [(86, true), (94, true), (102, true), (106, true)]⟩) (N := 6) (keep := maskOf [4]) (nm := 0) (vc := stV26 p s h A n) envSt2_ok mix (by kernel_rfl) hv rfl rfl rfl
theorem st_res (r : Bool) : evResults Try.prog (stW 0 0 (tmk [(4, .bool r)] 0 110) (stG f p s o h n A)) Try.f5.results.toList = some (true, [.bool r], 0) := by kernel_rfl
end

/-! ### What the loop makes -/
section
variable {s o : Nat → Int} (hs : ∀ i, i < 64 → 0 ≤ s i ∧ s i < 256) (ho : ∀ i, i < 32 → 0 ≤ o i ∧ o i < 256)
include hs ho
theorem stm_eq {k : Nat} (hk : k < 32) (c : Int) : stm s o (k : Nat) c = s (32 + k) + o k + c := by
  have h1 := hs (32 + k) (by omega)
  have h2 := ho k hk
  have e : (32 + ((k : Nat) : Int)).toNat = 32 + k := by omega
  unfold stm
  rw [e, Int.toNat_natCast, IntKind.wrap_i64, IntKind.wrap_i64, IntKind.wrap_i64]
  omega
theorem crW_eq : ∀ k, k ≤ 32 → crW s o k = cry (fun i => s (32 + i)) o k
  | 0, _ => rfl
  | k + 1, hk => by
    unfold crW cry
    rw [stm_eq hs ho (by omega), crW_eq k (by omega)]
theorem crW_bd {k : Nat} (hk : k ≤ 32) : 0 ≤ crW s o k ∧ crW s o k ≤ 1 := by
  rw [crW_eq hs ho k hk]
  exact (cry_nat (s := fun i => s (32 + i)) (fun i hi => hs (32 + i) (by omega)) ho k hk).1
omit hs ho in
theorem hW_lo {j : Nat} (hj : j < 32) : ∀ k, k ≤ 32 → hW s o k j = s j
  | 0, _ => rfl
  | k + 1, hk => by
    unfold hW
    rw [beq_ne (by omega), cond_false]
    exact hW_lo hj k (by omega)
theorem hW_hi {j : Nat} : ∀ k, k ≤ 32 → j < k → hW s o k (32 + j) = (s (32 + j) + o j + cry (fun i => s (32 + i)) o j) % 256
  | k + 1, hk, hj => by
    unfold hW
    by_cases e : j = k
    · subst e
      have e1 : (32 + ((j : Nat) : Int)).toNat = 32 + j := by omega
      rw [e1, Nat.beq_refl, cond_true, stm_eq hs ho (by omega), crW_eq hs ho j (by omega), IntKind.wrap_u8]
      omega
    · rw [beq_ne (by omega), cond_false]
      exact hW_hi k (by omega) (by omega)
theorem hW_bytes : bytesB 64 (hW s o 32) = true := bytesB_of fun i hi => by
  by_cases h : i < 32
  · rw [hW_lo h 32 (Nat.le_refl _)]; exact hs i hi
  · have e : i = 32 + (i - 32) := by omega
    rw [e, hW_hi hs ho 32 (Nat.le_refl _) (by omega)]
    omega
theorem hW_nat : natB 256 (fun i => s (32 + i)) 32 + natB 256 o 32 = natB 256 (fun j => hW s o 32 (32 + j)) 32 + 256 ^ 32 * (crW s o 32).toNat := by
  rw [(cry_nat (s := fun i => s (32 + i)) (fun i hi => hs (32 + i) (by omega)) ho 32 (Nat.le_refl _)).2, crW_eq hs ho 32 (Nat.le_refl _),
    natB_congr (f := fun j => hW s o 32 (32 + j)) 32 (fun j hj => hW_hi hs ho 32 (Nat.le_refl _) hj)]
theorem stV_ok {k : Nat} (hk : k < 32) : stV s o (k : Nat) (crW s o k) = true := by
  have h1 := hs (32 + k) (by omega)
  have h2 := ho k hk
  have h3 := crW_bd hs ho (k := k) (by omega)
  have h4 := stm_eq hs ho hk (crW s o k)
  unfold stV
  rw [h4]
  generalize crW s o k = c at *
  simp only [Bool.and_true, Bool.and_eq_true, decide_eq_true_eq, beq_iff_eq, and_true]
  omega
end
theorem ordF_bd : ∀ i, i < 32 → 0 ≤ ordF i ∧ ordF i < 256 := bytesB_spec ordF_bytes
theorem ordF_nat : natB 256 ordF 32 = L := by rw [natB_hi ordF_bytes, ordF_hi]

theorem zeF_lt {s : Nat → Int} {j : Nat} : ∀ {k : Nat}, j < k → zeF s k j = 0
  | k + 1, h => by
    unfold zeF
    by_cases e : j = k
    · subst e; rw [Nat.beq_refl]; rfl
    · rw [beq_ne e]; exact zeF_lt (k := k) (by omega)
theorem zeF_ge {s : Nat → Int} {j : Nat} : ∀ {k : Nat}, k ≤ j → zeF s k j = s j
  | 0, _ => rfl
  | k + 1, h => by
    unfold zeF
    rw [beq_ne (by omega)]
    exact zeF_ge (k := k) (by omega)

section
variable (f A : Nat → Int) (n : Nat)
theorem ssS_bd : ∀ i, i < 64 → 0 ≤ ssS f A n i ∧ ssS f A n i < 256 := fun i hi => sig_bd _ _ _ hi
theorem ss_nat : natB 256 (fun i => ssS f A n (32 + i)) 32 < L := by
  have h := (ss_end f A n (g := fun i => ssS f A n (32 + i)) fun j hj => rfl).1
  rw [fineB_eq, decide_eq_true_eq] at h
  exact h
theorem L_lt : L + L < 256 ^ 32 := by decide +kernel
theorem carry0 : crW (ssS f A n) ordF 32 = 0 := by
  have h1 := hW_nat (ssS_bd f A n) ordF_bd
  have h2 := ss_nat f A n
  have h3 := crW_bd (ssS_bd f A n) ordF_bd (Nat.le_refl 32)
  have h4 := L_lt
  rw [ordF_nat] at h1
  generalize crW (ssS f A n) ordF 32 = c at *
  generalize natB 256 (fun j => hW (ssS f A n) ordF 32 (32 + j)) 32 = x at *
  generalize natB 256 (fun i => ssS f A n (32 + i)) 32 = y at *
  generalize 256 ^ 32 = p at *
  generalize L = l at *
  rcases (by omega : c = 0 ∨ c = 1) with h | h
  · exact h
  · subst h
    rw [show (1 : Int).toNat = 1 from rfl] at h1
    omega
theorem high_not (p : Nat → Int) (N : Nat) (X : Nat → Int) : verB p (hW (ssS f A n) ordF 32) N X = false := by
  have h1 := hW_nat (ssS_bd f A n) ordF_bd
  rw [ordF_nat, carry0, show (0 : Int).toNat = 0 from rfl, Nat.mul_zero, Nat.add_zero] at h1
  have h2 : fineB (veE (hW (ssS f A n) ordF 32)) = false := by
    rw [fineB_eq, decide_eq_false_iff_not]
    have e : natB 256 (veE (hW (ssS f A n) ordF 32)) 32 = natB 256 (fun j => hW (ssS f A n) ordF 32 (32 + j)) 32 := rfl
    rw [e]
    omega
  rw [verB_eq, h2]
  simp
theorem off_not (p s : Nat → Int) (N : Nat) (X : Nat → Int) : verB p (offF s) N X = false := by
  have h : decB (veT (offF s)) = false := by
    refine decB_two rfl fun j h0 hj => ?_
    unfold veT offF
    rw [Nat.zero_add, beq_ne (by omega), cond_false]
    exact zeF_lt hj
  rw [verB_eq, h]
  rfl
theorem two_not (s : Nat → Int) (N : Nat) (X : Nat → Int) : verB two32 s N X = false := by
  have h : decB two32 = false := decB_two rfl fun j h0 hj => by unfold two32; rw [beq_ne (by omega)]; rfl
  rw [verB_eq, h, Bool.and_false]
  rfl
theorem st_run (hn : n ≤ 500) : Tr Try.prog 0 stC (stW 0 0 ([.ints .u8 32 f, .fsi .u8 n A none] ++ undefs 108) []) .ret (stW 0 0 (tmk [(4, .bool true)] 0 110) (stG f (pubF f) (ssS f A n) ordF (hW (ssS f A n) ordF 32) n A)) := by
  refine Tr.preW envSt2_ok mix 0 8 (maskOf [1, 2, 5, 6, 7, 8, 9, 10]) (maskOf [10]) (st_0 f A n) (ssV4_ok hn) rfl ?_
  show Tr Try.prog 0 stX _ _ _
  rw [stX_eq]
  have hs := ssS_bd f A n
  have hloop : Tr Try.prog 0 (.block 0 (.loop stB)) (stW 0 0 (tmk (stT n A 0 ++ [(11, .num 0)]) 0 110) (stG f (pubF f) (ssS f A n) ordF (ssS f A n) n A)) .normal
      (stW 0 0 (tmk (stT n A (crW (ssS f A n) ordF 32)) 0 110) (stG f (pubF f) (ssS f A n) ordF (hW (ssS f A n) ordF 32) n A)) := by
    refine Tr.iter (n := 32) (S := fun k => stW 0 0 (tmk (stT n A (crW (ssS f A n) ordF k) ++ [(11, .num (k : Nat))]) 0 110) (stG f (pubF f) (ssS f A n) ordF (hW (ssS f A n) ordF k) n A)) (fun k hk => ?_) ?_
    · exact st_s f (pubF f) (ssS f A n) ordF (hW (ssS f A n) ordF k) A n (k : Nat) (crW (ssS f A n) ordF k) (stV_ok hs ordF_bd hk)
    · exact st_x f (pubF f) (ssS f A n) ordF (hW (ssS f A n) ordF 32) A n (crW (ssS f A n) ordF 32)
  rw [carry0] at hloop
  refine Tr.seq (Tr.seq (st_i f (pubF f) (ssS f A n) ordF (ssS f A n) A n) hloop) ?_
  have he := ss_end f A n (g := cpF (ssS f A n) 32 32) fun j hj => cpF_lt hj
  have h := st_f f (pubF f) (ssS f A n) ordF (hW (ssS f A n) ordF 32) A n ?_
  · rw [rfine_eq he.2, he.1] at h
    exact h
  · unfold stV26 stVB stNv
    have b1 : bytesB 64 (ssS f A n) = true := bytesB_of hs
    have b2 : bytesB 64 (offF (ssS f A n)) = true := bytesB_of fun j hj => by
      unfold offF
      cases hb : Nat.beq j 0 with
      | true => rw [cond_true]; decide
      | false =>
        by_cases h : j < 32
        · rw [cond_false, zeF_lt h]; decide
        · rw [cond_false, zeF_ge (by omega)]; exact hs j hj
    have b3 : bytesB 32 two32 = true := by decide
    rw [high_not, off_not, two_not, hW_bytes hs ordF_bd, pub_bytes, b1, b2, b3, he.1, he.2, lenB_of (by omega)]
    rfl
noncomputable def strictV (args : List T) : VModel := fun a => open Classical in if a = args then some ⟨true, .bool true, stG f (pubF f) (ssS f A n) ordF (hW (ssS f A n) ordF 32) n A, false⟩ else none
noncomputable def stM1 : Model := evFn Try.prog envSt2 ⟨1000000, [(20, true)]⟩ Try.f5
theorem stM1_ok : SoundM Try.prog 5 stM1 := SoundM.of_ev envSt2_ok mix (by kernel_rfl) (by kernel_rfl) (by kernel_rfl)
theorem stM1_v : (mv stM1 [.ints .u8 32 f, .fsi .u8 n A none]).map (·.2) = some (.bool true) := by kernel_rfl
theorem stM1_vc : (mv stM1 [.ints .u8 32 f, .fsi .u8 n A none]).map (·.1) = some (ssV2 n true) := by kernel_rfl
end
theorem strict_run (f : Nat → Int) (n : Nat) (A : Nat → Int) (_ : ∀ i, i < 32 → (Lit.int .u8 (f i)).wf = true) (_ : n ≤ 9223372036854775807) (_ : ∀ i, (Lit.int .u8 (A i)).wf = true) :
    Answers Try.prog 5 [.ints .u8 32 f, .fsi .u8 n A none] := by
  by_cases h : n ≤ 500
  · refine ⟨strictV f A n [.ints .u8 32 f, .fsi .u8 n A none], SoundV.of_tr (fn := Try.f5) (c := stC) (by kernel_rfl) (by kernel_rfl) (by kernel_rfl) ?_, ⟨true, .bool true, _, false⟩, if_pos rfl, rfl, rfl⟩
    intro args r hm hvc
    unfold strictV at hm
    split at hm
    · rename_i e
      cases hm
      subst e
      exact ⟨.ret, _, _, _, .inl rfl, st_run f A n h, st_res _ _ _ _ _ _ _ _, rfl, rfl, fun h => by cases h⟩
    · cases hm
  · exact Answers.of_m ⟨_, stM1_ok, mv_law (stM1_v f A n) (stM1_vc f A n) (ssV2_t (by omega))⟩
end Go.Proofs.Ytbcbmkgfjegbhaa
