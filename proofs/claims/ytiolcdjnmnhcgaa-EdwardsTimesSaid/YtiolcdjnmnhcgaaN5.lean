/- scalar.modulo by its model: all rounds. No condition. -/
import Derived.Test.YtiolcdjnmnhcgaaN4
namespace Go.Proofs.Ytiolcdjnmnhcgaa
open Go.AE Fardel
set_option maxRecDepth 100000

/-- What the first j bits come to. -/
def mdV (N T j : Nat) : Nat := N / 2 ^ (T - j) % L
theorem mdV_next (N T j : Nat) (hj : j < T) : (2 * mdV N T j + N / 2 ^ (T - 1 - j) % 2) % L = mdV N T (j + 1) := by
  unfold mdV
  have e : T - j = T - 1 - j + 1 := by omega
  have e2 : T - (j + 1) = T - 1 - j := by omega
  rw [e, e2, Nat.pow_succ, ← Nat.div_div_eq_div_mul]
  generalize N / 2 ^ (T - 1 - j) = m
  have h : m = 2 * (m / 2) + m % 2 := by omega
  conv => rhs; rw [h]
  rw [Nat.add_mod, Nat.mul_mod 2 (m / 2 % L), Nat.mod_mod, ← Nat.mul_mod, ← Nat.add_mod]

theorem ix0 {n : Nat} (h0 : 0 < n) (hn : n ≤ 1048576) : IntKind.i64.wrap (IntKind.i64.wrap (64 * (n : Int)) - 1) = ((64 * n - 1 - 0 : Nat) : Int) := by
  have e : IntKind.i64.wrap (64 * (n : Int)) = 64 * (n : Int) := by rw [IntKind.wrap_i64]; omega
  rw [e, IntKind.wrap_i64]
  omega
theorem ix1 {n j : Nat} (h : j + 1 < 64 * n) : ((64 * n - 1 - (j + 1) : Nat) : Int) = ((64 * n - 1 - j : Nat) - 1 : Int) := by omega
theorem ix2 {n j : Nat} (h : j + 1 < 64 * n) : ((64 * n - 1 - (j + 1) : Nat) - 1 : Int) = ((64 * n - 1 - j : Nat) - 1 : Int) - 1 := by omega
theorem ix3 (n : Nat) : ((64 * n - 1 - (64 * n - 1) : Nat) - 1 : Int) = -1 := by omega
theorem ix4 {n : Nat} (h : 0 < n) : 64 * n - 1 + 1 = 64 * n := by omega
theorem ix5 {n : Nat} (h : 0 < n) : 0 < 64 * n := by omega
theorem ix6 {n j : Nat} (h : j < 64 * n - 1) : j + 1 < 64 * n := by omega
theorem ix7 {n j : Nat} (h : j < 64 * n) : 64 * n - 1 - j < 64 * n := by omega
theorem md_tr {n : Nat} {f : Nat → Int} (hf : digs 18446744073709551616 n f) (hn0 : 0 < n) (hn : n ≤ 1048576) (off c : Nat) : Tr Try.prog 1 mdC (stR 1 ([.slice 0 [] off 1 n (some c)] ++ undefs 52) [some (.abs (.view off .u64 n f))]) .ret (stR 1 (mdT off n c (-1)) (mdW off n f (natB 18446744073709551616 f n % L))) := by
  have hL : 0 < L := by decide
  have hlt := natB_lt n hf
  have hTot : natB 18446744073709551616 f n < 2 ^ (64 * n) := by
    rw [show (18446744073709551616 : Nat) = 2 ^ 64 from rfl, ← Nat.pow_mul] at hlt
    exact hlt
  have v0 : mdV (natB 18446744073709551616 f n) (64 * n) 0 = 0 := by
    unfold mdV
    rw [Nat.sub_zero, Nat.div_eq_of_lt hTot, Nat.zero_mod]
  have vT : mdV (natB 18446744073709551616 f n) (64 * n) (64 * n) = natB 18446744073709551616 f n % L := by
    unfold mdV
    rw [Nat.sub_self, Nat.pow_zero, Nat.div_one]
  have rnd : ∀ j, j < 64 * n → Tr Try.prog 1 mdX (stR 1 (mdT off n c ((64 * n - 1 - j : Nat) : Int)) (mdW off n f (mdV (natB 18446744073709551616 f n) (64 * n) j))) (.goto 0) (stR 1 (mdT off n c ((64 * n - 1 - j : Nat) - 1 : Int)) (mdW off n f (mdV (natB 18446744073709551616 f n) (64 * n) (j + 1)))) := by
    intro j hj
    have := md_round hf hn off c (i := 64 * n - 1 - j) (V := mdV (natB 18446744073709551616 f n) (64 * n) j) (ix7 hj) (Nat.mod_lt _ hL)
    rw [mdV_next _ _ _ hj] at this
    exact this
  have w0 : mdG off n f 0 0 0 0 = mdW off n f (mdV (natB 18446744073709551616 f n) (64 * n) 0) := by rw [v0]; rfl
  refine Tr.preR envN1_ok mix 1 mdK (md_pre off n c f) rfl ?_
  rw [mdC_eq]
  refine Tr.scope (l := 0) (n := 64 * n - 1) (S := fun j => stR 1 (mdT off n c ((64 * n - 1 - j : Nat) - 1 : Int)) (mdW off n f (mdV (natB 18446744073709551616 f n) (64 * n) (j + 1)))) mdF_eq ?_ ?_ ?_ (by intro l' h; cases h)
  · refine Tr.preR envN1_ok mix 2 mdK (md_pre2 off n c f) rfl ?_
    rw [mdB_eq, w0]
    rw [ix0 hn0 hn]
    exact Tr.seq (md_lab off n c f _ _ _ _ _) (rnd 0 (ix5 hn0))
  · intro j hj
    have := rnd (j + 1) (ix6 hj)
    rw [ix1 (ix6 hj)] at this
    refine Tr.seq (md_skip off n c f _ _ _ _ _) ?_
    show Tr _ _ _ _ _ (stR 1 (mdT off n c ((64 * n - 1 - (j + 1) : Nat) - 1 : Int)) _)
    rw [ix2 (ix6 hj)]
    exact this
  · show Tr _ _ _ (stR 1 (mdT off n c ((64 * n - 1 - (64 * n - 1) : Nat) - 1 : Int)) (mdW off n f (mdV (natB 18446744073709551616 f n) (64 * n) (64 * n - 1 + 1)))) _ _
    rw [ix3, ix4 hn0, vT]
    exact Tr.seq (md_skip off n c f _ _ _ _ _) (md_ret off n c f _ _ _ _)

end Go.Proofs.Ytiolcdjnmnhcgaa
