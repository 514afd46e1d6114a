/- field.Mul by the abstract evaluator: a product in the field. No condition. -/
import Derived.Test.YtiolcdjnmnhcgaaFa
import Derived.Lib.Mul64
import Derived.Laws.Externs
namespace Go.Proofs.Ytiolcdjnmnhcgaa
open Go.AE Fardel
set_option maxRecDepth 100000

def mulHi (a b : Int) : Int := IntKind.u64.wrap
              (IntKind.u64.wrap
                  (IntKind.u64.wrap (shrI IntKind.u64 a 32 * shrI IntKind.u64 b 32) +
                    shrI IntKind.u64
                      (IntKind.u64.wrap
                        (IntKind.u64.wrap (shrI IntKind.u64 a 32 * bits BinOp.and IntKind.u64 b 4294967295) +
                          shrI IntKind.u64
                            (IntKind.u64.wrap
                              (bits BinOp.and IntKind.u64 a 4294967295 * bits BinOp.and IntKind.u64 b 4294967295))
                            32))
                      32) +
                shrI IntKind.u64
                  (IntKind.u64.wrap
                    (bits BinOp.and IntKind.u64
                        (IntKind.u64.wrap
                          (IntKind.u64.wrap (shrI IntKind.u64 a 32 * bits BinOp.and IntKind.u64 b 4294967295) +
                            shrI IntKind.u64
                              (IntKind.u64.wrap
                                (bits BinOp.and IntKind.u64 a 4294967295 * bits BinOp.and IntKind.u64 b 4294967295))
                              32))
                        4294967295 +
                      IntKind.u64.wrap (bits BinOp.and IntKind.u64 a 4294967295 * shrI IntKind.u64 b 32)))
                  32)

def mul64M : PModel
  | [.int .u64 a, .int .u64 b] => some (true, .tup (.cons (.word (mulHi a b).toNat) (.cons (.word (IntKind.u64.wrap (a * b)).toNat) .nil)))
  | _ => none

theorem word_int {n : Int} {ρ : Rho} {x : Value} (h : (R ρ (.int .u64 (IntKind.u64.wrap n))).v x) : (R ρ (.word (IntKind.u64.wrap n).toNat)).v x := by
  obtain rfl : x = _ := h
  show _ = _
  congr 1
  rw [IntKind.wrap_u64]
  omega

theorem mul64_mv (a b : Int) : mv (evFn Try.prog env0 10 Try.f67) [.int .u64 a, .int .u64 b] = some (true, .tup (.cons (.int .u64 (mulHi a b)) (.cons (.int .u64 (IntKind.u64.wrap (a * b))) .nil))) := by kernel_rfl

theorem mul64_ok : SoundM Try.prog 67 (pureModel mul64M) := by
  refine (SoundM.of_ev (env0_ok _) mix (n := 10) (fn := Try.f67) (by kernel_rfl) (by kernel_rfl) (by kernel_rfl)).refine ?_
  intro args vc v h hvc ρ xs hargs
  unfold mul64M at h
  split at h
  · rename_i a b
    cases h
    obtain ⟨r, h1, h2, h3⟩ := mv_some (mul64_mv a b)
    obtain ⟨_, _, rfl, rfl, _, _, rfl, rfl, rfl⟩ := hargs
    refine ⟨[.int .u64 a, .int .u64 b], ⟨_, _, rfl, rfl, _, _, rfl, rfl, rfl⟩, r, h1, h2, ?_⟩
    intro ρ' x hx
    rw [h3] at hx
    obtain ⟨vs, rfl, y, ys, e1, hy, z, zs, e2, hz, e3⟩ := hx
    exact ⟨vs, rfl, y, ys, e1, word_int hy, z, zs, e2, word_int hz, e3⟩
  · cases h

def bitOf : T → Option Bool
  | .bit .u64 b => some b
  | .int .u64 c => bif c == 0 then some false else none
  | _ => none
def asWord : T → Option Nat
  | .word n => some n
  | .int .u64 m => bif decide (0 ≤ m ∧ m < 18446744073709551616) then some m.toNat else none
  | _ => none

/-- The sum modulo 2^64, and the carry. -/
def add64M : PModel
  | [x, y, c] => match asWord x, asWord y, bitOf c with
    | some m, some n, some b => some (true, .tup (.cons (.word (m % 18446744073709551616 + n % 18446744073709551616 + (bif b then 1 else 0)))
        (.cons (.bit .u64 (decide (18446744073709551616 ≤ m % 18446744073709551616 + n % 18446744073709551616 + (bif b then 1 else 0)))) .nil)))
    | _, _, _ => none
  | _ => none

theorem asWord_R {t : T} {n : Nat} {ρ : Rho} {x : Value} (h : asWord t = some n) (hx : (R ρ t).v x) : x = .int .u64 ((n % 18446744073709551616 : Nat) : Int) := by
  unfold asWord at h
  split at h
  · cases h; exact hx
  · rename_i m
    cases hb : decide (0 ≤ m ∧ m < 18446744073709551616) with
    | false => rw [hb] at h; cases h
    | true =>
      rw [hb] at h
      cases h
      obtain rfl : x = _ := hx
      simp only [decide_eq_true_eq] at hb
      congr 1
      omega
  · cases h

theorem bitOf_R {t : T} {b : Bool} {ρ : Rho} {x : Value} (h : bitOf t = some b) (hx : (R ρ t).v x) : x = .int .u64 (bif b then 1 else 0) := by
  unfold bitOf at h
  split at h
  · cases h; exact hx
  · rename_i c
    cases hb : (c == 0) with
    | false => rw [hb] at h; cases h
    | true =>
      rw [hb] at h
      cases h
      simp only [beq_iff_eq] at hb
      subst hb
      exact hx
  · cases h

theorem extern_ok {f : FuncId} {fn : Func} {e : Array Value → Sem Value} (hf : Try.prog.funcs[f]? = some fn) (hname : (fn.name == "runtime.NumGoroutine") = false)
    (hb : fn.body.isNone = true) (hn : Extern.findNext fn = none) (he : Extern.find fn = some e) {m : PModel}
    (h : ∀ args vc v, m args = some (vc, v) → vc = true → ∀ ρ xs, VLs ρ args xs → ∀ w, ∃ x, (e xs.toArray).run Try.prog w = .ok x w ∧ (R ρ v).v x) : SoundM Try.prog f (pureModel m) := by
  refine ⟨?_, ?_⟩
  · intro args G r hr
    unfold pureModel at hr
    split at hr
    · cases hr; exact Stat.pure _ _ _ _
    · cases hr
  · intro args G r hr hvc ρ w args' _ _ hargs
    unfold pureModel at hr
    split at hr
    · rename_i vc v hm
      cases hr
      obtain ⟨x, h1, h2⟩ := h args vc v hm hvc ρ args' hargs w
      rw [run_callFunc_extern hf hname hb hn he, h1]
      exact ⟨ρ, Post.pure h2 0⟩
    · cases hr

theorem add64_ok : SoundM Try.prog 68 (pureModel add64M) := by
  refine extern_ok (fn := Try.f68) (by kernel_rfl) (by kernel_rfl) (by kernel_rfl) (by kernel_rfl) (e := add64Entry) (by kernel_rfl) ?_
  intro args vc v h hvc ρ xs hargs w
  unfold add64M at h
  split at h
  · rename_i x y c
    split at h
    · rename_i m n b hm hn hb
      cases h
      obtain ⟨x', _, rfl, hx, y', _, rfl, hy, c', _, rfl, hc, rfl⟩ := hargs
      have e1 := asWord_R hm hx
      have e2 := asWord_R hn hy
      have e3 := bitOf_R hb hc
      subst e1 e2 e3
      have hrun := run_add64 (P := Try.prog) ((m % 18446744073709551616 : Nat) : Int) ((n % 18446744073709551616 : Nat) : Int) (bif b then 1 else 0) (by omega) (by omega) (by cases b <;> decide) (by cases b <;> decide) w
      refine ⟨_, hrun, _, rfl, _, _, rfl, ?_, _, _, rfl, ?_, rfl⟩
      · show _ = _
        congr 1
        cases b <;> simp only [cond_true, cond_false] <;> omega
      · show _ = _
        congr 1
        have hh : ∀ e : Nat, e ≤ 1 → (((m % 18446744073709551616 : Nat) : Int) + ((n % 18446744073709551616 : Nat) : Int) + (e : Int)) / 18446744073709551616 = bif decide (18446744073709551616 ≤ m % 18446744073709551616 + n % 18446744073709551616 + e) then 1 else 0 := by
          intro e he
          by_cases h : 18446744073709551616 ≤ m % 18446744073709551616 + n % 18446744073709551616 + e
          · rw [decide_eq_true h]; simp only [cond_true]; omega
          · rw [decide_eq_false h]; simp only [cond_false]; omega
        cases b
        · exact hh 0 (by decide)
        · exact hh 1 (by decide)
    · cases h
  · cases h

noncomputable def envM : Env := ((env0.set 67 (pureModel mul64M)).set 68 (pureModel add64M))
theorem envM_ok : EnvOK Try.prog envM := ((env0_ok _).set mul64_ok).set add64_ok
noncomputable def putM : Model := evFn Try.prog envM 10 Try.f75
theorem put_ok : SoundM Try.prog 75 putM := SoundM.of_ev envM_ok mix (by kernel_rfl) (by kernel_rfl) (by kernel_rfl)
noncomputable def envP : Env := (env0.set 65 (pureModel carriedR)).set 75 putM
theorem envP_ok : EnvOK Try.prog envP := ((env0_ok _).set carriedR_ok).set put_ok

/-- A column of two words (high, low), and one product more. -/
def stp (p : Nat × Nat) (ab : Int × Int) : Nat × Nat :=
  (p.1 % 18446744073709551616 + (mulHi ab.1 ab.2).toNat % 18446744073709551616 + (bif decide (18446744073709551616 ≤ p.2 % 18446744073709551616 + (IntKind.u64.wrap (ab.1 * ab.2)).toNat % 18446744073709551616 + (bif false then 1 else 0)) then 1 else 0),
   p.2 % 18446744073709551616 + (IntKind.u64.wrap (ab.1 * ab.2)).toNat % 18446744073709551616 + (bif false then 1 else 0))
def col (l : List (Int × Int)) : Nat × Nat := l.foldl stp (0, 0)

def lowO (p : Nat × Nat) : Int := bits .and .u64 ((p.2 % 18446744073709551616 : Nat) : Int) 2251799813685247
def overO (p : Nat × Nat) : Int := bits .or .u64 (shlI .u64 ((p.1 % 18446744073709551616 : Nat) : Int) 13) (shrI .u64 ((p.2 % 18446744073709551616 : Nat) : Int) 51)

def cl0 (x y : Fe) : Nat × Nat := col [(x.l0, y.l0), (x.l1, IntKind.u64.wrap (19 * y.l4)), (x.l2, IntKind.u64.wrap (19 * y.l3)), (x.l3, IntKind.u64.wrap (19 * y.l2)), (x.l4, IntKind.u64.wrap (19 * y.l1))]
def cl1 (x y : Fe) : Nat × Nat := col [(x.l0, y.l1), (x.l1, y.l0), (x.l2, IntKind.u64.wrap (19 * y.l4)), (x.l3, IntKind.u64.wrap (19 * y.l3)), (x.l4, IntKind.u64.wrap (19 * y.l2))]
def cl2 (x y : Fe) : Nat × Nat := col [(x.l0, y.l2), (x.l1, y.l1), (x.l2, y.l0), (x.l3, IntKind.u64.wrap (19 * y.l4)), (x.l4, IntKind.u64.wrap (19 * y.l3))]
def cl3 (x y : Fe) : Nat × Nat := col [(x.l0, y.l3), (x.l1, y.l2), (x.l2, y.l1), (x.l3, y.l0), (x.l4, IntKind.u64.wrap (19 * y.l4))]
def cl4 (x y : Fe) : Nat × Nat := col [(x.l0, y.l4), (x.l1, y.l3), (x.l2, y.l2), (x.l3, y.l1), (x.l4, y.l0)]

def mulL (x y : Fe) : Fe :=
  ⟨IntKind.u64.wrap (lowO (cl0 x y) + IntKind.u64.wrap (19 * overO (cl4 x y))), IntKind.u64.wrap (lowO (cl1 x y) + overO (cl0 x y)), IntKind.u64.wrap (lowO (cl2 x y) + overO (cl1 x y)),
   IntKind.u64.wrap (lowO (cl3 x y) + overO (cl2 x y)), IntKind.u64.wrap (lowO (cl4 x y) + overO (cl3 x y))⟩

theorem mul_mv (x y : Fe) : mv (evFn Try.prog envP 10 Try.f44) [feT x, feT y] = some (true, feT (rawC (mulL x y))) := by kernel_rfl

end Go.Proofs.Ytiolcdjnmnhcgaa
