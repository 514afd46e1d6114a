/- Numbers in digits of any base. No condition. -/
import Derived.Test.YtiolcdjnmnhcgaaH1
namespace Go.Proofs.Ytiolcdjnmnhcgaa
open Go.AE Fardel
set_option maxRecDepth 100000

def natB (B : Nat) (f : Nat → Int) : Nat → Nat
  | 0 => 0
  | n + 1 => natB B f n + B ^ n * (f n).toNat

def digs (B n : Nat) (f : Nat → Int) : Prop := ∀ i, i < n → 0 ≤ f i ∧ f i < (B : Int)

theorem natB_lt {B : Nat} {f : Nat → Int} : ∀ n, digs B n f → natB B f n < B ^ n
  | 0, _ => by simp [natB]
  | n + 1, h => by
    have h1 := natB_lt (B := B) n fun i hi => h i (by omega)
    have h2 := h n (by omega)
    have h4 : (f n).toNat + 1 ≤ B := by omega
    have h3 : B ^ n * ((f n).toNat + 1) ≤ B ^ n * B := Nat.mul_le_mul_left _ h4
    unfold natB
    rw [Nat.pow_succ]
    rw [Nat.mul_add, Nat.mul_one] at h3
    omega

theorem natB_digit {B : Nat} (hB : 0 < B) {f : Nat → Int} : ∀ n, digs B n f → ∀ i, i < n → natB B f n / B ^ i % B = (f i).toNat
  | 0, _, _, hi => by omega
  | n + 1, h, i, hi => by
    have hlt := natB_lt (B := B) n fun i hi => h i (by omega)
    unfold natB
    rcases Nat.lt_or_ge i n with h1 | h1
    · have ih := natB_digit hB n (fun i hi => h i (by omega)) i h1
      rw [← ih]
      have e : B ^ n = B ^ i * (B * B ^ (n - i - 1)) := by
        rw [← Nat.pow_succ', ← Nat.pow_add]
        congr 1
        omega
      rw [e, Nat.mul_assoc, Nat.add_mul_div_left _ _ (Nat.pow_pos hB), Nat.mul_assoc, Nat.add_mul_mod_self_left]
    · have : i = n := by omega
      subst this
      have := h i (by omega)
      rw [Nat.add_mul_div_left _ _ (Nat.pow_pos hB), Nat.div_eq_of_lt hlt, Nat.zero_add, Nat.mod_eq_of_lt (by omega)]

theorem natB_congr {B : Nat} {f g : Nat → Int} : ∀ n, (∀ i, i < n → f i = g i) → natB B f n = natB B g n
  | 0, _ => rfl
  | n + 1, h => by
    unfold natB
    rw [natB_congr n (fun i hi => h i (by omega)), h n (by omega)]

/-- Digit i of a number. -/
def dgB (B V i : Nat) : Int := ((V / B ^ i % B : Nat) : Int)

theorem dgB_digs {B : Nat} (hB : 0 < B) (V n : Nat) : digs B n (dgB B V) := fun i _ => by
  unfold dgB
  have : V / B ^ i % B < B := Nat.mod_lt _ hB
  omega

theorem natB_dgB (B V : Nat) : ∀ n, natB B (dgB B V) n = V % B ^ n
  | 0 => by simp [natB, Nat.mod_one]
  | n + 1 => by
    unfold natB
    rw [natB_dgB B V n, Nat.pow_succ, Nat.mod_mul]
    rfl

theorem dgB_of {B : Nat} (hB : 0 < B) {f : Nat → Int} {n : Nat} (h : digs B n f) {i : Nat} (hi : i < n) : f i = dgB B (natB B f n) i := by
  unfold dgB
  rw [natB_digit hB n h i hi]
  have := h i hi
  omega

theorem natB_upd {B : Nat} {f : Nat → Int} {i : Nat} {v : Int} : ∀ n, n ≤ i → natB B (upd f i v) n = natB B f n := fun n h => natB_congr n fun j hj => upd_ne (by omega)

theorem natN_natB (f : Nat → Int) : ∀ n, natN f n = natB 256 f n
  | 0 => rfl
  | n + 1 => by unfold natN natB; rw [natN_natB f n]

/-! ### Sixteen digits of sixteen bits -/

def digB (f : Nat → Int) : Bool := (List.range 16).all fun i => decide (0 ≤ f i ∧ f i < 65536)
theorem digB_spec {f : Nat → Int} : digB f = true ↔ digs 65536 16 f := by
  unfold digB digs
  rw [List.all_eq_true]
  constructor
  · intro h i hi
    simpa using h i (by simpa using hi)
  · intro h i hi
    have := h i (by simpa using hi)
    simpa using this

def vD (f : Nat → Int) : Nat := natB 65536 f 16

theorem dg_dgB (v : F) (i : Nat) : dg v i = dgB 65536 v.val i := by rw [dg_eq]; rfl
theorem dg_digs (v : F) : digs 65536 16 (dg v) := fun i hi => by rw [dg_dgB]; exact dgB_digs (by decide) v.val 16 i hi
theorem vD_dg (v : F) : vD (dg v) = v.val := by
  unfold vD
  rw [natB_congr 16 (fun i _ => dg_dgB v i), natB_dgB]
  have hp : P < 65536 ^ 16 := by decide
  have hv := v.isLt
  exact Nat.mod_eq_of_lt (by omega)

end Go.Proofs.Ytiolcdjnmnhcgaa
