/- scalar.words by its model. No condition. -/
import Derived.Test.YtiolcdjnmnhcgaaN6
namespace Go.Proofs.Ytiolcdjnmnhcgaa
open Go.AE Fardel
set_option maxRecDepth 100000

noncomputable def wdC : Code := bodyC Try.f66
noncomputable def wdX : Code := postC 2 wdC
noncomputable def wdB : Code := cB (cB (cR (cL wdX)))
theorem wdX_eq : postC 2 wdC = .seq (.seq (cL (cL wdX)) (.block 0 (.loop wdB))) (cR wdX) := by kernel_rfl
theorem wdL_eq : postC 1 (.seq (cL (cL wdX)) (.block 0 (.loop wdB))) = .block 0 (.loop wdB) := by kernel_rfl
def wdT0 (off n c m : Nat) : List T := tmk [(0, .slice 0 [] off 1 n (some c)), (3, .slice 1 [] 0 1 m (some m))] 0 32
def wdT (off n c m : Nat) (i : Int) : List T := tmk [(0, .slice 0 [] off 1 n (some c)), (3, .slice 1 [] 0 1 m (some m)), (10, .slice 0 [] off 1 n (some c)), (11, .int .i64 n), (12, .int .i64 i)] 0 32
def wdT9 (m : Nat) : List T := tmk [(2, .slice 1 [] 0 1 m (some m))] 0 32
def wdG (off n : Nat) (f : Nat → Int) (m : Nat) (W : Nat → Int) : Heap := [some (.abs (.view off .u8 n f)), some (.ints .u64 m W)]
def wdK : Nat := maskOf [0, 3, 10, 11, 12]
def w8 (i : Int) : Int := IntKind.i64.wrap (i.tdiv 8)
noncomputable def wdVC0 (n : Nat) : Bool := (decide (0 ≤ w8 n ∧ w8 n ≤ w8 n) && decide (((Try.prog.types[24]?).map fun t => (t.bytes : Int)).getD 0 * w8 n ≤ 281474976710656 ∧ w8 n ≤ 9223372036854775807) && true) && true
section
variable (off n c m : Nat) (f W : Nat → Int) (i : Int)
theorem wd_ini : (evCode Try.prog env0 40 (preC 1 (.seq (cL (cL wdX)) (.block 0 (.loop wdB)))) (stR 1 (wdT0 off n c m) (wdG off n f m W))).map (cutPR 1 wdK) = some (.normal, true, wdT off n c m 0, wdG off n f m W, true) := by kernel_rfl
def wdW : Nat → Int := upd W (0 + (w8 i).toNat) (bits .or .u64 (W (0 + (w8 i).toNat)) (shlI .u64 (IntKind.u64.wrap (f (off + i.toNat - off))) (IntKind.i64.wrap (8 * i.tmod 8))))
def wdVC : Bool := (decide (0 ≤ w8 i ∧ w8 i < m) && ((decide (0 + (w8 i).toNat < m) && true) && (decide (0 ≤ IntKind.i64.wrap (8 * i.tmod 8)) && (decide (0 ≤ w8 i ∧ w8 i < m) && ((decide (0 + (w8 i).toNat < m) && true) && true))))) &&
  ((decide (0 ≤ i ∧ i < n) && ((decide (off ≤ off + i.toNat ∧ off + i.toNat < off + n) && true) && true)) && (((decide (i < n) == true) && true) && true))
theorem wd_step (h : wdVC off n m i = true) : Tr Try.prog 1 wdB (stR 1 (wdT off n c m i) (wdG off n f m W)) .normal (stR 1 (wdT off n c m (IntKind.i64.wrap (i + 1))) (wdG off n f m (wdW off f W i))) :=
  Tr.evR (n := ⟨1000000, [(13, true)]⟩) (N := 2) (keep := wdK) (vc := wdVC off n m i) (env0_ok _) mix (by kernel_rfl) h rfl rfl rfl
theorem wd_stop (h : decide (i < n) = false) : Tr Try.prog 1 wdB (stR 1 (wdT off n c m i) (wdG off n f m W)) (.exit 0) (stR 1 (wdT off n c m i) (wdG off n f m W)) :=
  Tr.evR (n := ⟨1000000, [(13, false)]⟩) (N := 2) (keep := wdK) (vc := ((decide (i < n) == false) && true) && true) (env0_ok _) mix (by kernel_rfl) (by rw [h]; rfl) rfl rfl rfl
theorem wd_post : Tr Try.prog 1 (cR wdX) (stR 1 (wdT off n c m i) (wdG off n f m W)) .ret (stR 1 (wdT9 m) (wdG off n f m W)) :=
  Tr.evR (n := 40) (N := 2) (keep := maskOf [2]) (vc := true) (env0_ok _) mix (by kernel_rfl) rfl rfl rfl rfl
theorem wd_res : evResults Try.prog (stR 1 (wdT9 m) (wdG off n f m W)) Try.f66.results.toList = some (true, [.slice 1 [] 0 1 m (some m)], 0) := by kernel_rfl
end
theorem wd_pre (off n c : Nat) (f : Nat → Int) : (evCode Try.prog env0 1000000 (preC 2 wdC) (stR 1 ([.slice 0 [] off 1 n (some c)] ++ undefs 31) [some (.abs (.view off .u8 n f))])).map (cutPR 1 wdK) =
    some (.normal, wdVC0 n, wdT0 off n c (w8 n).toNat, wdG off n f (w8 n).toNat fun _ => 0, true) := by kernel_rfl

theorem w8_eq (i : Nat) (hi : i < 67108864) : w8 (i : Nat) = ((i / 8 : Nat) : Int) := by
  unfold w8
  rw [Int.tdiv_eq_ediv_of_nonneg (by omega), IntKind.wrap_i64]
  omega
theorem wdVC0_ok (n : Nat) (hn : n ≤ 1048576) : wdVC0 n = true := by
  unfold wdVC0
  rw [w8_eq n (by omega)]
  have e : ((Try.prog.types[24]?).map fun t => (t.bytes : Int)).getD 0 = 8 := by kernel_rfl
  rw [e]
  have g1 : decide ((0 : Int) ≤ ((n / 8 : Nat) : Int) ∧ ((n / 8 : Nat) : Int) ≤ ((n / 8 : Nat) : Int)) = true := decide_eq_true (by omega)
  have g2 : decide ((8 : Int) * ((n / 8 : Nat) : Int) ≤ 281474976710656 ∧ ((n / 8 : Nat) : Int) ≤ 9223372036854775807) = true := decide_eq_true (by omega)
  rw [g1, g2]
  rfl
theorem wm8_eq (i : Nat) : IntKind.i64.wrap (8 * (i : Int).tmod 8) = ((8 * (i % 8) : Nat) : Int) := by
  rw [Int.tmod_eq_emod_of_nonneg (by omega), IntKind.wrap_i64]
  omega
theorem wdVC_ok (off : Nat) {n m i : Nat} (hn : n ≤ 1048576) (hm : n = 8 * m) (hi : i < n) : wdVC off n m (i : Nat) = true := by
  unfold wdVC
  rw [w8_eq i (by omega), wm8_eq]
  have g1 : decide ((0 : Int) ≤ ((i / 8 : Nat) : Int) ∧ ((i / 8 : Nat) : Int) < (m : Int)) = true := decide_eq_true (by omega)
  have g2 : decide (0 + (((i / 8 : Nat) : Int)).toNat < m) = true := decide_eq_true (by omega)
  have g3 : decide ((0 : Int) ≤ ((8 * (i % 8) : Nat) : Int)) = true := decide_eq_true (by omega)
  have g4 : decide ((0 : Int) ≤ (i : Int) ∧ (i : Int) < (n : Int)) = true := decide_eq_true (by omega)
  have g5 : decide (off ≤ off + ((i : Int)).toNat ∧ off + ((i : Int)).toNat < off + n) = true := decide_eq_true (by omega)
  have g6 : decide ((i : Int) < (n : Int)) = true := decide_eq_true (by omega)
  rw [g1, g2, g3, g4, g5, g6]
  rfl

/-- Words of bytes. -/
def wdF (f : Nat → Int) (i : Nat) : Nat → Int := dgB 18446744073709551616 (natB 256 f i)
theorem pow64 (k : Nat) : 18446744073709551616 ^ k = 2 ^ (64 * k) := by rw [Nat.pow_mul]
theorem pow8 (k : Nat) : 256 ^ k = 2 ^ (8 * k) := by rw [Nat.pow_mul]

theorem wdF_step {f : Nat → Int} (off : Nat) {i : Nat} (hf : digs 256 (i + 1) f) (hi : i < 1048576) : wdW off f (wdF f i) (i : Nat) = wdF f (i + 1) := by
  have hfi := hf i (by omega)
  obtain ⟨x, hx⟩ := Int.eq_ofNat_of_zero_le hfi.1
  have hx2 : x < 256 := by omega
  have hM : natB 256 f i < 256 ^ i := natB_lt i (fun j hj => hf j (by omega))
  have hN : natB 256 f (i + 1) = natB 256 f i + 256 ^ i * x := by rw [natB, hx]; rfl
  unfold wdW
  rw [w8_eq i (by omega), wm8_eq, show off + ((i : Nat) : Int).toNat - off = i by omega, show 0 + (((i / 8 : Nat) : Int)).toNat = i / 8 by omega, hx]
  have e0 : IntKind.u64.wrap (x : Int) = (x : Int) := by rw [IntKind.wrap_u64]; omega
  rw [e0]
  have hi8 : 64 * (i / 8) + 8 * (i % 8) = 8 * i := by omega
  have hr : i % 8 < 8 := Nat.mod_lt _ (by decide)
  rw [pow8] at hM hN
  funext j
  unfold upd wdF dgB
  rw [hN]
  generalize natB 256 f i = M at *
  simp only [pow64]
  cases hj : Nat.beq j (i / 8) with
  | true =>
    have hj2 : j = i / 8 := Nat.eq_of_beq_eq_true hj
    subst hj2
    rw [cond_true]
    generalize hs : i / 8 = s at *
    generalize ht : 8 * (i % 8) = t at *
    have ht2 : t ≤ 56 := by omega
    have hu : M / 2 ^ (64 * s) < 2 ^ t := by
      rw [Nat.div_lt_iff_lt_mul (Nat.two_pow_pos _), ← Nat.pow_add, Nat.add_comm t, hi8]
      exact hM
    have p64 : (2 : Nat) ^ t * 256 ≤ 18446744073709551616 := by
      have : (2 : Nat) ^ t ≤ 2 ^ 56 := Nat.pow_le_pow_right (by decide) ht2
      omega
    have hxt : x * 2 ^ t + 2 ^ t ≤ 18446744073709551616 := by
      have : (x + 1) * 2 ^ t ≤ 256 * 2 ^ t := Nat.mul_le_mul_right _ (by omega)
      rw [Nat.add_mul, Nat.one_mul] at this
      omega
    have e1 : (M + 2 ^ (8 * i) * x) / 2 ^ (64 * s) = M / 2 ^ (64 * s) + 2 ^ t * x := by
      rw [← hi8, Nat.pow_add, Nat.mul_assoc, Nat.add_mul_div_left _ _ (Nat.two_pow_pos _)]
    rw [e1]
    generalize M / 2 ^ (64 * s) = u at *
    rw [Nat.mod_eq_of_lt (a := u) (by omega), Nat.mod_eq_of_lt (a := u + 2 ^ t * x) (by rw [Nat.mul_comm (2 ^ t)]; omega)]
    have e2 : shlI .u64 (x : Int) (t : Nat) = ((x * 2 ^ t : Nat) : Int) := by
      rw [shlI_small _ t (by omega), IntKind.wrap_u64, show ((2 : Int) ^ t) = ((2 ^ t : Nat) : Int) by simp, ← Int.natCast_mul]
      omega
    have p2 : (2 : Int) ^ 64 = 18446744073709551616 := by decide
    have pt : (2 : Int) ^ t = ((2 ^ t : Nat) : Int) := by simp
    have q1 : ((x * 2 ^ t : Nat) : Int) < 2 ^ 64 := by rw [p2]; omega
    have q2 : ((x * 2 ^ t : Nat) : Int) % 2 ^ t = 0 := by rw [pt, ← Int.natCast_emod, Nat.mul_mod_left]; rfl
    have q3 : (u : Int) < 2 ^ t := by rw [pt]; omega
    have q4 : (u : Int) < 2 ^ 64 := by rw [p2]; omega
    rw [e2, or_join t ((x * 2 ^ t : Nat) : Int) (u : Int) (by omega) q1 q2 (by omega) q3 q4]
    rw [Nat.mul_comm (2 ^ t)]
    omega
  | false =>
    have hj2 : j ≠ i / 8 := by
      intro h
      rw [h, Nat.beq_refl] at hj
      cases hj
    rw [cond_false]
    have e : M / 2 ^ (64 * j) % 18446744073709551616 = (M + 2 ^ (8 * i) * x) / 2 ^ (64 * j) % 18446744073709551616 := by
      rcases Nat.lt_or_ge j (i / 8) with h | h
      · have e1 : (2 : Nat) ^ (8 * i) = 2 ^ (64 * j) * (18446744073709551616 * 2 ^ (8 * i - 64 * j - 64)) := by
          rw [show (18446744073709551616 : Nat) = 2 ^ 64 from rfl, ← Nat.pow_add, ← Nat.pow_add]
          congr 1
          omega
        rw [e1, Nat.mul_assoc, Nat.add_mul_div_left _ _ (Nat.two_pow_pos _), Nat.mul_assoc, Nat.add_mul_mod_self_left]
      · have hlt : (2 : Nat) ^ (8 * i + 8) ≤ 2 ^ (64 * j) := Nat.pow_le_pow_right (by decide) (by omega)
        rw [Nat.pow_add] at hlt
        have h3 : 2 ^ (8 * i) * (x + 1) ≤ 2 ^ (8 * i) * 2 ^ 8 := Nat.mul_le_mul_left _ (by omega)
        rw [Nat.mul_add, Nat.mul_one] at h3
        rw [Nat.div_eq_of_lt (by omega), Nat.div_eq_of_lt (by omega)]
    rw [e]

noncomputable def wdM : Model
  | [.slice id path lo m len cap], G => match contI G (.slice id path lo m len cap) with
    | some (vc, .u8, n, f, tm) => bif (Nat.blt 0 n && Nat.ble n 1048576) && Nat.beq (n % 8) 0 then some ⟨vc && bytesB n f, .slice G.length [] 0 1 (n / 8) (some (n / 8)), G ++ [some (.ints .u64 (n / 8) (wdF f n))], tm, 0⟩ else none
    | _ => none
  | _, _ => none

theorem wd_tr {n : Nat} {f : Nat → Int} (hf : digs 256 n f) (hn : n ≤ 1048576) (h8 : n % 8 = 0) (off c : Nat) : Tr Try.prog 1 wdC (stR 1 ([.slice 0 [] off 1 n (some c)] ++ undefs 31) [some (.abs (.view off .u8 n f))]) .ret (stR 1 (wdT9 (n / 8)) (wdG off n f (n / 8) (wdF f n))) := by
  refine Tr.preR (env0_ok _) mix 2 wdK (wd_pre off n c f) (wdVC0_ok n hn) ?_
  have e : (w8 (n : Nat)).toNat = n / 8 := by rw [w8_eq n (by omega)]; rfl
  have e0 : (fun _ => 0 : Nat → Int) = wdF f 0 := by
    funext k
    unfold wdF dgB natB
    simp
  rw [wdX_eq, e, e0]
  refine Tr.seq (s1 := stR 1 (wdT off n c (n / 8) (n : Nat)) (wdG off n f (n / 8) (wdF f n))) ?_ (wd_post off n c _ f _ _)
  refine Tr.preR (env0_ok _) mix 1 wdK (wd_ini off n c _ f _) rfl ?_
  rw [wdL_eq]
  refine Tr.iter (S := fun i => stR 1 (wdT off n c (n / 8) (i : Nat)) (wdG off n f (n / 8) (wdF f i))) (n := n) (fun i hi => ?_) (wd_stop off n c _ f _ _ (decide_eq_false (by omega)))
  have := wd_step off n c (n / 8) f (wdF f i) (i : Nat) (wdVC_ok off hn (by omega) hi)
  rw [wdF_step off (fun j hj => hf j (by omega)) (by omega)] at this
  have e2 : IntKind.i64.wrap ((i : Int) + 1) = ((i + 1 : Nat) : Int) := by rw [IntKind.wrap_i64]; omega
  rw [e2] at this
  exact this

theorem wd_ok : SoundM Try.prog 66 wdM := by
  refine SoundM.of_trR (fn := Try.f66) (c := wdC) (by kernel_rfl) (by kernel_rfl) (by kernel_rfl) ?_ ?_
  · intro args G r h
    unfold wdM at h
    split at h
    · split at h
      · rename_i vc n f tm hc
        cases hb : ((Nat.blt 0 n && Nat.ble n 1048576) && Nat.beq (n % 8) 0) <;> rw [hb] at h <;> cases h
        exact ⟨⟨by simp, fun k _ h => by simp at h, fun _ hk _ => hget_append_left hk⟩, rfl⟩
      · cases h
    · cases h
  · intro args G r h hvc ρ w args' hargs hsim
    unfold wdM at h
    split at h
    · split at h
      · rename_i id path lo m len cap vc n f tm hc
        cases hb : ((Nat.blt 0 n && Nat.ble n 1048576) && Nat.beq (n % 8) 0) <;> rw [hb] at h <;> cases h
        obtain ⟨x', _, rfl, hx, rfl⟩ := hargs
        have hv := Bool.and_eq_true_iff.1 hvc
        have hn := Bool.and_eq_true_iff.1 hb
        have hn' := Bool.and_eq_true_iff.1 hn.1
        have hn0 : 0 < n := by simpa using hn'.1
        have hn1 : n ≤ 1048576 := Nat.le_of_ble_eq_true hn'.2
        have hn2 : n % 8 = 0 := Nat.eq_of_beq_eq_true hn.2
        obtain ⟨hs, -⟩ := contI_seen hc hv.1 hx (fun _ h => h) hsim hn0
        obtain ⟨ρ0, off, c, g1, g2, g3⟩ := hs.one
        exact ⟨ρ0, [.slice 0 [] off 1 n (some c)], [some (.abs (.view off .u8 n f))], .ret, stR 1 (wdT9 (n / 8)) (wdG off n f (n / 8) (wdF f n)), _, _, _, ⟨x', _, rfl, g1, rfl⟩, g2, g3, .inl rfl, wd_tr (bytesB_spec hv.2) hn1 hn2 off c, rfl, wd_res _ _ _ _ _, rfl, rfl, rfl, rfl, rfl⟩
      · cases h
    · cases h

end Go.Proofs.Ytiolcdjnmnhcgaa
