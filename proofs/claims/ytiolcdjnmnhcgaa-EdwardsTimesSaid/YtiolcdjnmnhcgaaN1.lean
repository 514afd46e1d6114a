/- math/bits.Add64, Sub64 of any numbers; scalar.less, order, bytes, words. No condition. -/
import Derived.Test.YtiolcdjnmnhcgaaFm
import Derived.Test.YtiolcdjnmnhcgaaH2
namespace Go.Proofs.Ytiolcdjnmnhcgaa
open Go.AE Fardel
set_option maxRecDepth 100000

def asNat : T → Option Nat
  | .word n => some (n % 18446744073709551616)
  | .int .u64 x => some x.toNat
  | _ => none
theorem asNat_R {t : T} {n : Nat} {ρ : Rho} {x : Value} (h : asNat t = some n) (hx : (R ρ t).v x) : ∃ y : Int, x = .int .u64 y ∧ y.toNat = n := by
  unfold asNat at h
  split at h
  · cases h; exact ⟨_, hx, by omega⟩
  · cases h; exact ⟨_, hx, rfl⟩
  · cases h

def addLo (m n : Nat) : Int := ((m + n) % 18446744073709551616 : Nat)
def addHi (m n : Nat) : Int := ((m + n) / 18446744073709551616 : Nat)
def add0M : PModel
  | [x, y, .int .u64 0] => match asNat x, asNat y with
    | some m, some n => some (true, .tup (.cons (.int .u64 (addLo m n)) (.cons (.int .u64 (addHi m n)) .nil)))
    | _, _ => none
  | _ => none
theorem add0_ok : SoundM Try.prog 68 (pureModel add0M) := by
  refine extern_ok (fn := Try.f68) (by kernel_rfl) (by kernel_rfl) (by kernel_rfl) (by kernel_rfl) (e := add64Entry) (by kernel_rfl) ?_
  intro args vc v h hvc ρ xs hargs w
  unfold add0M at h
  split at h
  · split at h
    · rename_i m n hm hn
      cases h
      obtain ⟨x', _, rfl, hx, y', _, rfl, hy, c', _, rfl, hc, rfl⟩ := hargs
      obtain ⟨a, rfl, rfl⟩ := asNat_R hm hx
      obtain ⟨b, rfl, rfl⟩ := asNat_R hn hy
      obtain rfl : c' = _ := hc
      exact ⟨.tuple #[.int .u64 (addLo a.toNat b.toNat), .int .u64 (addHi a.toNat b.toNat)], rfl, _, rfl, _, _, rfl, rfl, _, _, rfl, rfl, rfl⟩
    · cases h
  · cases h

def sub64Entry : Array Value → Sem Value := ((Extern.MathBitsCarry.rows[1]?).getD ("", fun _ => default)).2
def subLo (m n : Nat) (b : Bool) : Int := ((m + 18446744073709551616 - n - (bif b then 1 else 0)) % 18446744073709551616 : Nat)
def subB (m n : Nat) (b : Bool) : Bool := decide (m < n + (bif b then 1 else 0))
def sub64M : PModel
  | [x, y, c] => match asNat x, asNat y, bitOf c with
    | some m, some n, some b => some (true, .tup (.cons (.int .u64 (subLo m n b)) (.cons (.bit .u64 (subB m n b)) .nil)))
    | _, _, _ => none
  | _ => none
theorem sub64_ok : SoundM Try.prog 85 (pureModel sub64M) := by
  refine extern_ok (fn := Try.f85) (by kernel_rfl) (by kernel_rfl) (by kernel_rfl) (by kernel_rfl) (e := sub64Entry) (by kernel_rfl) ?_
  intro args vc v h hvc ρ xs hargs w
  unfold sub64M at h
  split at h
  · split at h
    · rename_i m n b hm hn hb
      cases h
      obtain ⟨x', _, rfl, hx, y', _, rfl, hy, c', _, rfl, hc, rfl⟩ := hargs
      obtain ⟨a, rfl, rfl⟩ := asNat_R hm hx
      obtain ⟨d, rfl, rfl⟩ := asNat_R hn hy
      obtain rfl := bitOf_R hb hc
      refine ⟨.tuple #[.int .u64 (subLo a.toNat d.toNat b), .int .u64 (bif subB a.toNat d.toNat b then 1 else 0)], ?_, _, rfl, _, _, rfl, rfl, _, _, rfl, rfl, rfl⟩
      have e : ∀ c : Bool, ∀ k : Nat, (bif c then 1 else 0) = k → ∀ x y : Nat, (if x < y + k then (1 : Nat) else 0) = bif decide (x < y + (bif c then 1 else 0)) then 1 else 0 := by
        intro c k hk x y
        rw [hk]
        by_cases h : x < y + k
        · rw [if_pos h, decide_eq_true h]; rfl
        · rw [if_neg h, decide_eq_false h]; rfl
      cases b with
      | true =>
        show Sem.run _ (pure (Extern.MathBitsCarry.pair ((a.toNat + Extern.MathBitsCarry.m64 - d.toNat - 1) % Extern.MathBitsCarry.m64) (if a.toNat < d.toNat + 1 then 1 else 0))) w = _
        rw [e true 1 rfl]
        unfold subB subLo Extern.MathBitsCarry.pair
        cases decide (a.toNat < d.toNat + (bif true then 1 else 0)) <;> rfl
      | false =>
        show Sem.run _ (pure (Extern.MathBitsCarry.pair ((a.toNat + Extern.MathBitsCarry.m64 - d.toNat - 0) % Extern.MathBitsCarry.m64) (if a.toNat < d.toNat + 0 then 1 else 0))) w = _
        rw [e false 0 rfl]
        unfold subB subLo Extern.MathBitsCarry.pair
        cases decide (a.toNat < d.toNat + (bif false then 1 else 0)) <;> rfl
    · cases h
  · cases h

noncomputable def envN : Env := ((env0.set 67 (pureModel mul64M)).set 68 (pureModel add0M)).set 85 (pureModel sub64M)
theorem envN_ok : EnvOK Try.prog envN := (((env0_ok _).set mul64_ok).set add0_ok).set sub64_ok

/-- Four words. -/
def w4 (a b c d : Int) : T := .cons (.int .u64 a) (.cons (.int .u64 b) (.cons (.int .u64 c) (.cons (.int .u64 d) .nil)))
def ordT : T := w4 6346243789798364141 1503914060200516822 0 1152921504606846976
theorem ord_mv : mv (evFn Try.prog env0 10 Try.f71) [] = some (true, ordT) := by kernel_rfl

def sb0 (a0 b0 : Nat) : Bool := subB a0 b0 false
def sb1 (a0 a1 b0 b1 : Nat) : Bool := subB a1 b1 (sb0 a0 b0)
def sb2 (a0 a1 a2 b0 b1 b2 : Nat) : Bool := subB a2 b2 (sb1 a0 a1 b0 b1)
def sb3 (a0 a1 a2 a3 b0 b1 b2 b3 : Nat) : Bool := subB a3 b3 (sb2 a0 a1 a2 b0 b1 b2)
theorem less4_mv (a b c d a' b' c' d' : Int) : mv (evFn Try.prog envN 10 Try.f83) [w4 a b c d, w4 a' b' c' d'] =
    some (true, .tup (.cons (w4 (subLo a.toNat a'.toNat false) (subLo b.toNat b'.toNat (sb0 a.toNat a'.toNat)) (subLo c.toNat c'.toNat (sb1 a.toNat b.toNat a'.toNat b'.toNat)) (subLo d.toNat d'.toNat (sb2 a.toNat b.toNat c.toNat a'.toNat b'.toNat c'.toNat)))
      (.cons (.bit .u64 (sb3 a.toNat b.toNat c.toNat d.toNat a'.toNat b'.toNat c'.toNat d'.toNat)) .nil))) := by kernel_rfl

def numW (a b c d : Int) (i : Nat) : Int := match i with
  | 0 => a
  | 1 => b
  | 2 => c
  | _ => d
theorem nbytes_mv (a b c d : Int) : mv (evFn Try.prog env0 40 Try.f70) [w4 a b c d] = some (true, .ints .u8 32 (updN 32 fun i => IntKind.u8.wrap (shrI .u64 (numW a b c d (i / 8)) (8 * ((i % 8 : Nat) : Int))))) := by kernel_rfl

end Go.Proofs.Ytiolcdjnmnhcgaa
