/- scalar.modulo's model, for a slice; a number's bytes. No condition. -/
import Derived.Test.YtiolcdjnmnhcgaaN5
namespace Go.Proofs.Ytiolcdjnmnhcgaa
open Go.AE Fardel
set_option maxRecDepth 100000

def wordsB (n : Nat) (f : Nat → Int) : Bool := (List.range n).all fun i => decide (0 ≤ f i ∧ f i < 18446744073709551616)
theorem wordsB_spec {n : Nat} {f : Nat → Int} (h : wordsB n f = true) : digs 18446744073709551616 n f := by
  intro i hi
  have := List.all_eq_true.1 h i (by simpa using hi)
  simpa using this
def isSl : T → Bool
  | .slice .. => true
  | _ => false
def dqW (V : Nat) : T := w4 (dq V 0) (dq V 1) (dq V 2) (dq V 3)
noncomputable def modM : Model
  | [.slice id path lo m len cap], G => match contI G (.slice id path lo m len cap) with
    | some (vc, .u64, n, f, tm) => bif Nat.blt 0 n && Nat.ble n 1048576 then some ⟨vc && wordsB n f, dqW (natB 18446744073709551616 f n % L), G ++ [some (dqW (natB 18446744073709551616 f n % L)), some ordT], tm, 0⟩ else none
    | _ => none
  | _, _ => none
theorem md_res (off n c : Nat) (f : Nat → Int) (a b cc d : Int) (i : Int) : evResults Try.prog (stR 1 (mdT off n c i) (mdG off n f a b cc d)) Try.f69.results.toList = some (true, [w4 a b cc d], 2) := by kernel_rfl
theorem mod_ok : SoundM Try.prog 69 modM := by
  refine SoundM.of_trR (fn := Try.f69) (c := mdC) (by kernel_rfl) (by kernel_rfl) (by kernel_rfl) ?_ ?_
  · intro args G r h
    unfold modM at h
    split at h
    · split at h
      · rename_i vc n f tm hc
        cases hb : (Nat.blt 0 n && Nat.ble n 1048576) <;> rw [hb] at h <;> cases h
        exact ⟨⟨by simp, fun k _ h => by simp at h, fun _ hk _ => hget_append_left hk⟩, rfl⟩
      · cases h
    · cases h
  · intro args G r h hvc ρ w args' hargs hsim
    unfold modM at h
    split at h
    · split at h
      · rename_i id path lo m len cap vc n f tm hc
        cases hb : (Nat.blt 0 n && Nat.ble n 1048576) <;> rw [hb] at h <;> cases h
        obtain ⟨x', _, rfl, hx, rfl⟩ := hargs
        have hv := Bool.and_eq_true_iff.1 hvc
        have hn := Bool.and_eq_true_iff.1 hb
        have hn0 : 0 < n := by simpa using hn.1
        have hn1 : n ≤ 1048576 := Nat.le_of_ble_eq_true hn.2
        obtain ⟨hs, -⟩ := contI_seen hc hv.1 hx (fun _ h => h) hsim hn0
        obtain ⟨ρ0, off, c, g1, g2, g3⟩ := hs.one
        exact ⟨ρ0, [.slice 0 [] off 1 n (some c)], [some (.abs (.view off .u64 n f))], .ret, stR 1 (mdT off n c (-1)) (mdW off n f (natB 18446744073709551616 f n % L)), _, _, _, ⟨x', _, rfl, g1, rfl⟩, g2, g3, .inl rfl, md_tr (wordsB_spec hv.2) hn0 hn1 off c, rfl, md_res _ _ _ _ _ _ _ _ _, rfl, rfl, rfl, rfl, rfl⟩
      · cases h
    · cases h

def nbF (a b c d : Int) : Nat → Int := updN 32 fun i => IntKind.u8.wrap (shrI .u64 (numW a b c d (i / 8)) (8 * ((i % 8 : Nat) : Int)))
def nbP : PModel
  | [.cons (.int .u64 a) (.cons (.int .u64 b) (.cons (.int .u64 c) (.cons (.int .u64 d) .nil)))] => some (true, .ints .u8 32 (nbF a b c d))
  | _ => none
theorem nb_ok : SoundM Try.prog 70 (pureModel nbP) := by
  refine (SoundM.of_ev (env0_ok _) mix (n := 40) (fn := Try.f70) (by kernel_rfl) (by kernel_rfl) (by kernel_rfl)).pure ?_
  intro args vc v h hvc
  unfold nbP at h
  split at h
  · rename_i a b c d
    cases h
    obtain ⟨r, h3, h4, h5⟩ := mv_some (nbytes_mv a b c d)
    exact ⟨rfl, rfl, r, h3, h4, h5⟩
  · cases h

theorem nbF_eq {V : Nat} (h : V < 115792089237316195423570985008687907853269984665640564039457584007913129639936) (i : Nat) (hi : i < 32) : nbF (dq V 0) (dq V 1) (dq V 2) (dq V 3) i = dgB 256 V i := by
  have e : nbF (dq V 0) (dq V 1) (dq V 2) (dq V 3) i = IntKind.u8.wrap (shrI .u64 (numW (dq V 0) (dq V 1) (dq V 2) (dq V 3) (i / 8)) (8 * ((i % 8 : Nat) : Int))) := by
    unfold nbF
    rw [updN_eq hi]
  have e2 : numW (dq V 0) (dq V 1) (dq V 2) (dq V 3) (i / 8) = dq V (i / 8) := by
    have : i / 8 = 0 ∨ i / 8 = 1 ∨ i / 8 = 2 ∨ i / 8 = 3 := by omega
    rcases this with h | h | h | h <;> rw [h] <;> rfl
  rw [e, e2]
  have e3 : (8 * ((i % 8 : Nat) : Int)) = ((8 * (i % 8) : Nat) : Int) := by omega
  rw [e3, shrI_u64 _ _ (by omega), IntKind.wrap_u8]
  unfold dq dgB
  rw [show (2 : Int) ^ (8 * (i % 8)) = ((2 ^ (8 * (i % 8)) : Nat) : Int) by simp, ← Int.natCast_ediv]
  have e4 : V / 18446744073709551616 ^ (i / 8) % 18446744073709551616 / 2 ^ (8 * (i % 8)) % 256 = V / 256 ^ i % 256 := by
    have p1 : (18446744073709551616 : Nat) = 2 ^ (8 * (i % 8)) * (256 * 2 ^ (56 - 8 * (i % 8))) := by
      rw [show (256 : Nat) = 2 ^ 8 from rfl, ← Nat.pow_add, ← Nat.pow_add, show 8 * (i % 8) + (8 + (56 - 8 * (i % 8))) = 64 by omega]
    conv => lhs; rw [show V / 18446744073709551616 ^ (i / 8) % 18446744073709551616 = V / 18446744073709551616 ^ (i / 8) % (2 ^ (8 * (i % 8)) * (256 * 2 ^ (56 - 8 * (i % 8)))) by rw [← p1]]
    rw [Nat.mod_mul_right_div_self, Nat.mod_mul_right_mod, Nat.div_div_eq_div_mul]
    rw [show (18446744073709551616 : Nat) = 2 ^ 64 from rfl, ← Nat.pow_mul, ← Nat.pow_add, show (256 : Nat) = 2 ^ 8 from rfl, ← Nat.pow_mul, show 64 * (i / 8) + 8 * (i % 8) = 8 * i by omega]
  omega

end Go.Proofs.Ytiolcdjnmnhcgaa
