/- Part 3 of the proof. No condition. -/
import Derived.Laws.IdiomStrings
import Derived.Laws.BytesArg
import Derived.Test.YtbcbmkgfjegbhaaGreatQSignTurns2
set_option linter.unusedVariables false
set_option linter.unusedSimpArgs false
set_option linter.unusedSectionVars false
namespace Go.AE
open Go
noncomputable section
def bndI (d : Int) : Option T → Option Int
  | none => some d
  | some (.int _ n) => some n
  | some _ => none
def evSlice (P : Program) (t : TypeId) (x : T) (lo hi : Option T) : Option (Bool × T) :=
  match P.underlying t, x with
  | some (.array n e), .ptr id path => match szO P e, bndI 0 lo, bndI n hi with
    | some m, some l, some h => some (decide (0 ≤ h ∧ h ≤ n) && decide (0 ≤ l ∧ l ≤ h), .slice id path (if l.toNat = n then 0 else l.toNat) m (h.toNat - l.toNat) (some (n - l.toNat)))
    | _, _, _ => none
  | some (.slice e), .slice id path lo0 m len (some c) => match szO P e, bndI 0 lo, bndI len hi with
    | some m', some l, some h => bif Nat.beq m m' then some (decide (0 ≤ h ∧ h ≤ c) && decide (0 ≤ l ∧ l ≤ h), .slice id path (if l.toNat = c then lo0 else lo0 + l.toNat) m (h.toNat - l.toNat) (some (c - l.toNat))) else none
    | _, _, _ => none
  | some (.slice e), .slice id path lo0 m len none => match szO P e, bndI 0 lo, bndI len hi with
    | some m', some l, some h => bif Nat.beq m m' then some (decide (0 ≤ h ∧ h ≤ len) && decide (0 ≤ l ∧ l ≤ h), .slice id path (lo0 + l.toNat) m (h.toNat - l.toNat) none) else none
    | _, _, _ => none
  | some (.slice e), .nilslice => match szO P e, bndI 0 lo, bndI 0 hi with
    | some _, some l, some h => some (decide (h = 0) && decide (l = 0), .nilslice)
    | _, _, _ => none
  | some .string, .str s => match bndI 0 lo, bndI s.size hi with
    | some l, some h => some (decide (0 ≤ h ∧ h ≤ s.size) && decide (0 ≤ l ∧ l ≤ h), .str (s.extract l.toNat h.toNat))
    | _, _ => none
  | _, _ => none
def OptR (ρ : Rho) : Option T → Option Value → Prop
  | none, x => x = none
  | some t, x => ∃ v, x = some v ∧ (R ρ t).v v
theorem bnd_run {P : Program} {ρ : Rho} {d : Int} {lo : Option T} {l : Int} {lo' : Option Value} (h : bndI d lo = some l) (hr : OptR ρ lo lo') (hd : 0 ≤ d) (y : Nat) (code : BoundsCode) (h0 : 0 ≤ l) (h1 : l ≤ y) (w : World) :
    (match lo' with | some v => Instr.sliceBound v y code | none => (pure d.toNat : Sem Nat)).run P w = .ok l.toNat w := by
  cases lo with
  | none =>
    obtain rfl : lo' = none := hr
    cases h
    rfl
  | some t =>
    obtain ⟨v, rfl, hv⟩ := hr
    cases t <;> simp [bndI] at h
    obtain rfl : v = _ := hv
    subst h
    simp [Instr.sliceBound, asIntOf, h0, h1]
theorem zg4 {P : Program} {ρ : Rho} {lo hi : Option T} {l h : Int} {lo' hi' : Option Value} {isS : Bool} {len cap : Nat} (hl : bndI 0 lo = some l) (hh : bndI len hi = some h) (hlo : OptR ρ lo lo') (hhi : OptR ρ hi hi')
    (h1 : 0 ≤ h ∧ h ≤ cap) (h2 : 0 ≤ l ∧ l ≤ h) (w : World) : (Instr.sliceBounds isS len cap lo' hi' none).run P w = .ok (l.toNat, h.toNat, cap) w := by
  have r1 := bnd_run (P := P) hh hhi (by omega) cap (if isS then .sliceAcap else .sliceAlen) h1.1 h1.2 w
  have r2 := bnd_run (P := P) hl hlo (by omega) h.toNat (if (none : Option Value).isSome then .slice3C else .sliceB) h2.1 (by omega) w
  unfold Instr.sliceBounds
  cases hi' <;> cases lo' <;> simp_all
theorem evSlice_sound {P : Program} {t : TypeId} {x : T} {lo hi : Option T} {vc : Bool} {v : T} {ρ : Rho} {x' : Value} {lo' hi' : Option Value} (h : evSlice P t x lo hi = some (vc, v)) (hvc : vc = true)
    (hx : (R ρ x).v x') (hlo : OptR ρ lo lo') (hhi : OptR ρ hi hi') (w : World) : ∃ v', (Instr.sliceAt t x' lo' hi' none).run P w = .ok v' w ∧ (R ρ v).v v' := by
  subst hvc
  unfold evSlice at h
  split at h
  · rename_i n e id path hu
    obtain ⟨b, sz, hr, rfl⟩ := hx
    split at h
    · rename_i m l hh hm hl hhh
      simp only [Option.some.injEq, Prod.mk.injEq, Bool.and_eq_true, decide_eq_true_eq] at h
      obtain ⟨⟨h1, h2⟩, rfl⟩ := h
      have hb := zg4 (P := P) (isS := false) hl hhh hlo hhi h1 h2 w
      refine ⟨_, ?_, .inl ⟨b, sz, hr, rfl⟩⟩
      simp only [Instr.sliceAt, Sem.run_bind, run_underlying hu, Result.andThen_ok, Instr.sureAddr, Sem.run_pure, hb, zd1 hm]
      by_cases e1 : n = l.toNat
      · subst e1; simp
      · have : ¬ l.toNat = n := fun e => e1 e.symm
        simp [e1, this, zb8]
    · cases h
  · rename_i e id path lo0 m len c hu
    obtain ⟨b, sz, hr, hs⟩ := zd8 hx
    simp only [zc7] at hs
    subst hs
    split at h
    · rename_i m' l hh hm hl hhh
      cases hb0 : Nat.beq m m' with
      | false => rw [hb0] at h; cases h
      | true =>
        rw [hb0] at h
        have := Nat.eq_of_beq_eq_true hb0
        subst this
        simp only [cond_true, Option.some.injEq, Prod.mk.injEq, Bool.and_eq_true, decide_eq_true_eq] at h
        obtain ⟨⟨h1, h2⟩, rfl⟩ := h
        have hb := zg4 (P := P) (isS := true) hl hhh hlo hhi h1 h2 w
        refine ⟨_, ?_, .inl ⟨b, sz, hr, rfl⟩⟩
        simp only [Instr.sliceAt, Instr.slice, Sem.run_bind, run_underlying hu, Result.andThen_ok, Sem.run_pure, hb, zd1 hm]
        by_cases e1 : c = l.toNat
        · subst e1; simp
        · have : ¬ l.toNat = c := fun e => e1 e.symm
          simp [e1, this, zb8, Nat.add_mul, Nat.add_assoc]
    · cases h
  · rename_i e id path lo0 m len hu
    split at h
    · rename_i m' l hh hm hl hhh
      cases hb0 : Nat.beq m m' with
      | false => rw [hb0] at h; cases h
      | true =>
        rw [hb0] at h
        have := Nat.eq_of_beq_eq_true hb0
        subst this
        simp only [cond_true, Option.some.injEq, Prod.mk.injEq, Bool.and_eq_true, decide_eq_true_eq] at h
        obtain ⟨⟨h1, h2⟩, rfl⟩ := h
        rcases hx with ⟨b, sz, hr, rfl, hm0, hs⟩ | ⟨_, rfl, rfl, rfl⟩
        rotate_left
        · have hb := zg4 (P := P) (isS := true) (len := 0) (cap := 0) hl hhh hlo hhi (by omega) h2 w
          have hl0 : l.toNat = 0 := by omega
          have hh0 : hh.toNat = 0 := by omega
          refine ⟨.slice none 0 0, ?_, .inr ⟨rfl, rfl, by omega, rfl⟩⟩
          simp only [Instr.sliceAt, Instr.slice, Sem.run_bind, run_underlying hu, Result.andThen_ok, Sem.run_pure, hb, zd1 hm]
          simp [hl0, hh0]
        rcases hs with ⟨c, rfl, hsz, hlc⟩ | ⟨h0, a, rfl, ha⟩
        · have hb := zg4 (P := P) (isS := true) (len := len) (cap := c) hl hhh hlo hhi (by omega) h2 w
          by_cases e1 : c = l.toNat
          · refine ⟨.slice (some ⟨b, lo0 * m, none⟩) (hh.toNat - l.toNat) (c - l.toNat), ?_, .inl ⟨b, sz, hr, rfl, hm0, .inr ⟨by omega, some ⟨b, lo0 * m, none⟩, ?_, fun a' ha' => by cases ha'; exact ⟨rfl, lo0, rfl⟩⟩⟩⟩
            · simp only [Instr.sliceAt, Instr.slice, Sem.run_bind, run_underlying hu, Result.andThen_ok, Sem.run_pure, hb, zd1 hm]
              simp [e1]
            · rw [show hh.toNat - l.toNat = 0 by omega, show c - l.toNat = 0 by omega]
          · refine ⟨.slice (some ⟨b, (lo0 + l.toNat) * m, none⟩) (hh.toNat - l.toNat) (c - l.toNat), ?_, .inl ⟨b, sz, hr, rfl, hm0, .inl ⟨c - l.toNat, rfl, ?_, by omega⟩⟩⟩
            · simp only [Instr.sliceAt, Instr.slice, Sem.run_bind, run_underlying hu, Result.andThen_ok, Sem.run_pure, hb, zd1 hm]
              simp [e1, zb8, Nat.add_mul]
            · rw [← hsz]; congr 1; omega
        · have hb := zg4 (P := P) (isS := true) (len := len) (cap := 0) hl hhh hlo hhi (by omega) h2 w
          have hl0 : l.toNat = 0 := by omega
          have hh0 : hh.toNat = 0 := by omega
          refine ⟨.slice a 0 0, ?_, .inl ⟨b, sz, hr, rfl, hm0, .inr ⟨by omega, a, rfl, ha⟩⟩⟩
          subst h0
          simp only [Instr.sliceAt, Instr.slice, Sem.run_bind, run_underlying hu, Result.andThen_ok, Sem.run_pure, hb, zd1 hm]
          simp [hl0, hh0]
    · cases h
  · rename_i e hu
    obtain rfl : x' = _ := hx
    split at h
    · rename_i m' l hh hm hl hhh
      simp only [Option.some.injEq, Prod.mk.injEq, Bool.and_eq_true, decide_eq_true_eq] at h
      obtain ⟨⟨rfl, rfl⟩, rfl⟩ := h
      have hb := zg4 (P := P) (isS := true) (len := 0) (cap := 0) hl hhh hlo hhi (by simp) (by simp) w
      refine ⟨_, ?_, rfl⟩
      simp only [Instr.sliceAt, Instr.slice, Sem.run_bind, run_underlying hu, Result.andThen_ok, Sem.run_pure, hb, zd1 hm]
      simp
    · cases h
  · rename_i s hu
    obtain rfl : x' = _ := hx
    split at h
    · rename_i l hh hl hhh
      simp only [Option.some.injEq, Prod.mk.injEq, Bool.and_eq_true, decide_eq_true_eq] at h
      obtain ⟨⟨h1, h2⟩, rfl⟩ := h
      have hb := zg4 (P := P) (isS := false) (len := s.size) (cap := s.size) hl hhh hlo hhi h1 h2 w
      refine ⟨_, ?_, rfl⟩
      simp only [Instr.sliceAt, Instr.slice, Sem.run_bind, run_underlying hu, Result.andThen_ok, Sem.run_pure]
      simp [hb]
    · cases h
  · cases h
theorem zm5 {P : Program} {ρ : Rho} {lo : Option T} {l h m : Int} {lo' : Option Value} {hi mx : T} {hi' mx' : Value} {isS : Bool} {len cap : Nat} (hl : bndI 0 lo = some l) (hh : bndI 0 (some hi) = some h) (hm : bndI 0 (some mx) = some m) (hlo : OptR ρ lo lo') (hhi : (R ρ hi).v hi') (hmx : (R ρ mx).v mx')
    (h0 : 0 ≤ m ∧ m ≤ cap) (h1 : 0 ≤ h ∧ h ≤ m) (h2 : 0 ≤ l ∧ l ≤ h) (w : World) : (Instr.sliceBounds isS len cap lo' (some hi') (some mx')).run P w = .ok (l.toNat, h.toNat, m.toNat) w := by
  have r0 := bnd_run (P := P) (lo' := some mx') hm ⟨_, rfl, hmx⟩ (by omega) cap (if isS then .slice3Acap else .slice3Alen) h0.1 h0.2 w
  have r1 := bnd_run (P := P) (lo' := some hi') hh ⟨_, rfl, hhi⟩ (by omega) m.toNat .slice3B h1.1 (by omega) w
  have r2 := bnd_run (P := P) hl hlo (by omega) h.toNat (if (some mx' : Option Value).isSome then .slice3C else .sliceB) h2.1 (by omega) w
  unfold Instr.sliceBounds
  cases lo' <;> simp_all
def evSlice3 (P : Program) (t : TypeId) (x : T) (lo : Option T) (hi mx : T) : Option (Bool × T) :=
  match bndI 0 lo, bndI 0 (some hi), bndI 0 (some mx) with
  | some l, some h, some m => match P.underlying t, x with
    | some (.array n e), .ptr id path => match szO P e with
      | some q => some (decide (m ≤ n) && decide (0 ≤ l ∧ l ≤ h ∧ h ≤ m ∧ l < m), .slice id path l.toNat q (h.toNat - l.toNat) (some (m.toNat - l.toNat)))
      | none => none
    | some (.slice e), .slice id path lo0 q' len (some c) => match szO P e with
      | some q => bif Nat.beq q' q then some (decide (m ≤ c) && decide (0 ≤ l ∧ l ≤ h ∧ h ≤ m ∧ l < m), .slice id path (lo0 + l.toNat) q (h.toNat - l.toNat) (some (m.toNat - l.toNat))) else none
      | none => none
    | some (.slice e), .slice id path lo0 q' len none => match szO P e with
      | some q => bif Nat.beq q' q then some (decide (m ≤ len) && decide (0 ≤ l ∧ l ≤ h ∧ h ≤ m ∧ l < m), .slice id path (lo0 + l.toNat) q (h.toNat - l.toNat) (some (m.toNat - l.toNat))) else none
      | none => none
    | _, _ => none
  | _, _, _ => none
theorem evSlice3_sound {P : Program} {t : TypeId} {x : T} {lo : Option T} {hi mx : T} {vc : Bool} {v : T} {ρ : Rho} {x' : Value} {lo' : Option Value} {hi' mx' : Value} (h : evSlice3 P t x lo hi mx = some (vc, v)) (hvc : vc = true)
    (hx : (R ρ x).v x') (hlo : OptR ρ lo lo') (hhi : (R ρ hi).v hi') (hmx : (R ρ mx).v mx') (w : World) : ∃ v', (Instr.sliceAt t x' lo' (some hi') (some mx')).run P w = .ok v' w ∧ (R ρ v).v v' := by
  subst hvc
  unfold evSlice3 at h
  split at h
  · rename_i l hh m hl hhh hmm
    split at h
    · rename_i n e id path hu
      obtain ⟨b, sz, hr, rfl⟩ := hx
      split at h
      · rename_i q hq
        simp only [Option.some.injEq, Prod.mk.injEq, Bool.and_eq_true, decide_eq_true_eq] at h
        obtain ⟨⟨h1, h2, h3, h4, h5⟩, rfl⟩ := h
        have hb := zm5 (P := P) (isS := false) (len := n) (cap := n) hl hhh hmm hlo hhi hmx (by omega) (by omega) (by omega) w
        refine ⟨_, ?_, .inl ⟨b, sz, hr, rfl⟩⟩
        simp only [Instr.sliceAt, Sem.run_bind, run_underlying hu, Result.andThen_ok, Instr.sureAddr, Sem.run_pure, hb, zd1 hq]
        have : ¬ m.toNat = l.toNat := by omega
        simp [this, zb8]
      · cases h
    · rename_i e id path lo0 q' len c hu
      obtain ⟨b, sz, hr, hs⟩ := zd8 hx
      simp only [zc7] at hs
      subst hs
      split at h
      · rename_i q hq
        cases hb0 : Nat.beq q' q with
        | false => rw [hb0] at h; cases h
        | true =>
          rw [hb0] at h
          have := Nat.eq_of_beq_eq_true hb0
          subst this
          simp only [cond_true, Option.some.injEq, Prod.mk.injEq, Bool.and_eq_true, decide_eq_true_eq] at h
          obtain ⟨⟨h1, h2, h3, h4, h5⟩, rfl⟩ := h
          have hb := zm5 (P := P) (isS := true) (len := len) (cap := c) hl hhh hmm hlo hhi hmx (by omega) (by omega) (by omega) w
          refine ⟨_, ?_, .inl ⟨b, sz, hr, rfl⟩⟩
          simp only [Instr.sliceAt, Instr.slice, Sem.run_bind, run_underlying hu, Result.andThen_ok, Sem.run_pure, hb, zd1 hq]
          have : ¬ m.toNat = l.toNat := by omega
          simp [this, zb8, Nat.add_mul, Nat.add_assoc]
      · cases h
    · rename_i e id path lo0 q' len hu
      split at h
      · rename_i q hq
        cases hb0 : Nat.beq q' q with
        | false => rw [hb0] at h; cases h
        | true =>
          rw [hb0] at h
          have := Nat.eq_of_beq_eq_true hb0
          subst this
          simp only [cond_true, Option.some.injEq, Prod.mk.injEq, Bool.and_eq_true, decide_eq_true_eq] at h
          obtain ⟨⟨h1, h2, h3, h4, h5⟩, rfl⟩ := h
          rcases hx with ⟨b, sz, hr, rfl, hm0, hs⟩ | ⟨_, _, h0, _⟩
          rotate_left
          · omega
          rcases hs with ⟨c, rfl, hsz, hlc⟩ | ⟨h0, a, rfl, ha⟩
          · have hb := zm5 (P := P) (isS := true) (len := len) (cap := c) hl hhh hmm hlo hhi hmx (by omega) (by omega) (by omega) w
            refine ⟨.slice (some ⟨b, (lo0 + l.toNat) * q', none⟩) (hh.toNat - l.toNat) (m.toNat - l.toNat), ?_, .inl ⟨b, sz, hr, by simp [zc7, poff]⟩⟩
            simp only [Instr.sliceAt, Instr.slice, Sem.run_bind, run_underlying hu, Result.andThen_ok, Sem.run_pure, hb, zd1 hq]
            have : ¬ m.toNat = l.toNat := by omega
            simp [this, zb8, Nat.add_mul]
          · omega
      · cases h
    · cases h
  · cases h
def evArrPtr (P : Program) (t : TypeId) (x : T) : Option (Bool × T) :=
  match P.underlying t, x with
  | some (.array n _), .slice id path lo m len _ => bif Nat.beq m 1 && Nat.blt 0 n then some (decide (n ≤ len), .ptr id (path ++ [.sub lo n])) else none
  | _, _ => none
theorem evArrPtr_sound {P : Program} {t : TypeId} {x v : T} {vc : Bool} {ρ : Rho} {x' : Value} (h : evArrPtr P t x = some (vc, v)) (hvc : vc = true) (hx : (R ρ x).v x') (w : World) : ∃ v', (Instr.arrayAt t x').run P w = .ok v' w ∧ (R ρ v).v v' := by
  subst hvc
  unfold evArrPtr at h
  split at h
  · rename_i n e id path lo m len cap hu
    cases hb : (Nat.beq m 1 && Nat.blt 0 n) with
    | false => rw [hb] at h; cases h
    | true =>
      rw [hb] at h
      simp only [Bool.and_eq_true] at hb
      have hm := Nat.eq_of_beq_eq_true hb.1
      have hn : 0 < n := by simpa using hb.2
      subst hm
      simp only [cond_true, Option.some.injEq, Prod.mk.injEq, decide_eq_true_eq] at h
      obtain ⟨h1, rfl⟩ := h
      rcases hx with ⟨b, sz, hr, hs⟩ | ⟨_, _, h0, _⟩
      rotate_left
      · omega
      have e : ∃ c', x' = .slice (some ⟨b, poff path + lo, none⟩) len c' := by
        cases cap with
        | some c' =>
          simp only [zc7, Nat.mul_one] at hs
          exact ⟨c', hs⟩
        | none =>
          obtain ⟨rfl, _, (⟨c', rfl, _, _⟩ | ⟨h0, a, rfl, ha⟩)⟩ := hs
          · exact ⟨c', by simp [poff]⟩
          · omega
      obtain ⟨c', rfl⟩ := e
      refine ⟨.pointer (some ⟨b, poff path + lo, none⟩), ?_, b, sz, hr, ?_⟩
      · have : ¬ len < n := by omega
        simp [Instr.arrayAt, run_underlying hu, this]
      · rw [zq9]
        simp [poff, Step.off]
  · cases h
def evMin : T → T → Option T
  | .int k x, .int _ y => some (.int k (if y < x then y else x))
  | _, _ => none
theorem evMin_sound {P : Program} {x y v : T} {ρ : Rho} {x' y' : Value} {tys : Array TypeId} {ty : TypeId} (h : evMin x y = some v) (hx : (R ρ x).v x') (hy : (R ρ y).v y') (w : World) : ∃ v', (Builtin.min_ tys ty #[x', y']).run P w = .ok v' w ∧ (R ρ v).v v' := by
  unfold evMin at h
  split at h
  · cases h
    obtain rfl : x' = _ := hx
    obtain rfl : y' = _ := hy
    exact ⟨_, rfl, rfl⟩
  · cases h
def evLen (P : Program) (t : TypeId) (x : T) : Option T :=
  match P.underlying t, x with
  | some .string, .str s => some (.int .i64 s.size)
  | some (.slice _), .slice _ _ _ _ len _ => some (.int .i64 len)
  | some (.slice _), .nilslice => some (.int .i64 0)
  | some (.array n _), _ => some (.int .i64 n)
  | _, _ => none
theorem evLen_sound {P : Program} {t ty : TypeId} {x v : T} {ρ : Rho} {x' : Value} (h : evLen P t x = some v) (hx : (R ρ x).v x') (w : World) :
    ∃ v', (Builtin.len_ #[t] ty #[x']).run P w = .ok v' w ∧ (R ρ v).v v' := by
  unfold evLen at h
  split at h
  · rename_i s hu
    obtain rfl : x' = _ := hx
    cases h
    exact ⟨_, by simp [Builtin.len_, run_underlying hu, goInt], rfl⟩
  · rename_i e id path lo m len cap hu
    rcases hx with ⟨b, sz, hr, hs⟩ | ⟨_, _, rfl, rfl⟩
    rotate_left
    · cases h
      exact ⟨_, by simp [Builtin.len_, run_underlying hu, goInt], rfl⟩
    cases h
    cases cap with
    | some c => simp only [zc7] at hs; subst hs; exact ⟨_, by simp [Builtin.len_, run_underlying hu, goInt], rfl⟩
    | none =>
      obtain ⟨_, _, (⟨c, rfl, _⟩ | ⟨h0, a, rfl, _⟩)⟩ := hs
      · exact ⟨_, by simp [Builtin.len_, run_underlying hu, goInt], rfl⟩
      · subst h0; exact ⟨_, by simp [Builtin.len_, run_underlying hu, goInt], rfl⟩
  · rename_i e hu
    obtain rfl : x' = _ := hx
    cases h
    exact ⟨_, by simp [Builtin.len_, run_underlying hu, goInt], rfl⟩
  · rename_i n e hu
    cases h
    exact ⟨_, by simp [Builtin.len_, run_underlying hu, goInt], rfl⟩
  · cases h
def opnds : Op → List Operand
  | .move x | .assign x | .box _ x | .load _ x | .nilCheck x | .unOp _ _ x | .convert _ _ x | .sliceToArrayPointer _ x | .fieldAddr _ x _ | .field _ x _ | .extract x _ => [x]
  | .build _ ps | .buildSlice _ _ ps => ps.toList.map (·.2)
  | .store _ a v | .binOp _ _ a v _ | .indexAddr _ a v | .index _ a v | .makeSlice _ a v => [a, v]
  | .makeFunc _ _ captured => captured.toList
  | .slice _ x l h m => x :: (l.toList ++ (h.toList ++ m.toList))
  | .call c => match c.callee with
    | .value f => f :: c.args.toList
    | _ => c.args.toList
  | _ => []
def val (G : Heap) : Option (Bool × T) → Option Res
  | some (vc, v) => some (pureR G vc v)
  | none => none
def val1 (G : Heap) : Option T → Option Res
  | some v => some (pureR G true v)
  | none => none
def evBuiltin (P : Program) (G : Heap) (b : Builtin) (tys : List TypeId) (args : List T) : Option Res :=
  match b, tys, args with
  | .len, [t], [x] => val1 G (evLen P t x)
  | .append, [t, u], [s, x] => zs6 P G t u s x
  | .copy, [t, _], [s, x] => evCopy2 P G t s x
  | .min, _, [x, y] => val1 G (evMin x y)
  | _, _, _ => none
def evOp (P : Program) (env : Env) (es : Operand → T) (G : Heap) (o : Op) : Option Res :=
  match o with
  | .move x | .assign x => some (pureR G true (es x))
  | .alloc t => evAlloc P G t
  | .box _ x => evBox G (es x)
  | .build t ps => val G (evBuild P t (ps.toList.map fun p => (p.1, es p.2)))
  | .load t a => evLoad P G t (es a)
  | .store t a x => evStore P G t (es a) (es x)
  | .nilCheck x => match es x with
    | .ptr id path => some (pureR G true (.ptr id path))
    | .fn (.func f) c => some (pureR G true (.fn (.func f) c))
    | _ => none
  | .binOp op t x y _ => match evBin op (unbit (es x)) (unbit (es y)) with
    | some r => val G (some r)
    | none => match op with
      | .eql => val G (evEq P false t (es x) (es y))
      | .neq => val G (evEq P true t (es x) (es y))
      | _ => none
  | .unOp op _ x => val1 G (evUn op (es x))
  | .convert s d x => val1 G (evConv P s d (es x))
  | .sliceToArrayPointer t x => val G (evArrPtr P t (es x))
  | .fieldAddr t x f => val1 G (evFieldAddr P t f (es x))
  | .field t x f => val1 G (evField P t f (es x))
  | .indexAddr t x i => val G (evIndexAddr P t (es x) (es i))
  | .index t x i => val G (evIndex P t (es x) (es i))
  | .extract x i => val1 G (evExtract i (es x))
  | .makeFunc f first cap => match f, first.toList with
    | .func f, [] => some (pureR G true (.fn (.func f) (ofL (cap.toList.map es))))
    | _, _ => none
  | .slice t x lo hi mx => match mx with
    | none => val G (evSlice P t (es x) (lo.map es) (hi.map es))
    | some m => match hi with
      | some h => val G (evSlice3 P t (es x) (lo.map es) (es h) (es m))
      | none => none
  | .call c => match c.callee with
    | .value f => match es f with
      | .fn (.func fid) cap => match env fid with
        | some m => m (c.args.toList.map es ++ toL cap) G
        | none => none
      | _ => none
    | .builtin b => evBuiltin P G b c.argTypes.toList (c.args.toList.map es)
    | _ => none
  | .buildSlice t n ps => zi5 P G t n (ps.toList.map fun p => (p.1, es p.2))
  | .makeSlice t l c => evMake2 P G t (es l) (es c)
  | _ => none
def OpOK (P : Program) (ρm : Operand → Value) (o : Oper) (ρ : Rho) (G : Heap) (w : World) (r : Res) : Prop :=
  Lands P (fun v' w' => ∃ ρ', Post ρ ρ' G w r v' w') ((execOp ρm o).run P w)
theorem zf9 {P : Program} {ρm : Operand → Value} {o : Oper} {ρ : Rho} {G : Heap} {w : World} {vc : Bool} {v : T} {s : Sem Value} (hs : execOp ρm o = (do pure (.value (← s))))
    (h : ∃ v', s.run P w = .ok v' w ∧ (R ρ v).v v') : OpOK P ρm o ρ G w (pureR G vc v) := by
  obtain ⟨v', h1, h2⟩ := h
  unfold OpOK
  rw [hs]
  simp only [Sem.run_bind, h1, Result.andThen_ok, Sem.run_pure, Lands]
  exact ⟨ρ, Post.pure h2 0⟩
theorem eqGuard_int {P : Program} {op : BinOp} {t : TypeId} {x y : Operand} {a b : Value} (h : (∃ k n k' m, a = .int k n ∧ b = .int k' m) ∨ (∃ s s', a = .string s ∧ b = .string s')) (w : World) :
    (eqGuard op t x y a b).run P w = .ok () w := by
  unfold eqGuard
  rcases h with ⟨k, n, k', m, rfl, rfl⟩ | ⟨s, s', rfl, rfl⟩ <;> (cases op <;> rfl)
theorem evBin_shape {op : BinOp} {x y : T} {r : Bool × T} {ρ : Rho} {x' y' : Value} (h : evBin op x y = some r) (hx : (R ρ x).v x') (hy : (R ρ y).v y') :
    (∃ k n k' m, x' = .int k n ∧ y' = .int k' m) ∨ (∃ s s', x' = .string s ∧ y' = .string s') := by
  unfold evBin at h
  split at h
  · obtain rfl : x' = _ := hx
    obtain rfl : y' = _ := hy
    exact .inl ⟨_, _, _, _, rfl, rfl⟩
  · obtain rfl : x' = _ := hx
    obtain rfl : y' = _ := hy
    exact .inr ⟨_, _, rfl, rfl⟩
  · cases h
theorem OptR_map {ρ : Rho} {es : Operand → T} {ρm : Operand → Value} {l : Option Operand} (h : ∀ x ∈ l.toList, (R ρ (es x)).v (ρm x)) : OptR ρ (l.map es) (l.map ρm) := by
  cases l with
  | none => rfl
  | some x => exact ⟨_, rfl, h x (by simp)⟩
theorem evOp_sound {P : Program} {env : Env} (henv : EnvOK P env) {es : Operand → T} {ρm : Operand → Value} {G : Heap} {o : Oper} {r : Res} {ρ : Rho} {w : World}
    (h : evOp P env es G o.op = some r) (hvc : r.vc = true) (hes : ∀ x ∈ opnds o.op, (R ρ (es x)).v (ρm x)) (hsim : Sim (bitK r.t) ρ G w) (hf : fresh ρ G.length r.G.length) :
    OpOK P ρm o ρ G w r := by
  obtain ⟨dst, op, type, pos, after, guard⟩ := o
  simp only at h hes
  unfold evOp at h
  split at h
  · cases h
    rename_i x
    have hx := hes x (by simp [opnds])
    simp only [OpOK, execOp, Sem.run_pure, Lands]
    exact ⟨ρ, Post.pure hx 0⟩
  · cases h
    rename_i x
    have hx := hes x (by simp [opnds])
    simp only [OpOK, execOp, Sem.run_pure, Lands]
    exact ⟨ρ, Post.pure hx 0⟩
  · rename_i t
    obtain ⟨v', w', h1, h2⟩ := evAlloc_sound (ρ := ρ) (w := w) h hf hsim.ro
    simp only [OpOK, execOp, Sem.run_bind, h1, Result.andThen_ok, Sem.run_pure, Lands]
    exact h2
  · rename_i t x
    have hx := hes x (by simp [opnds])
    obtain ⟨v', w', h1, h2⟩ := evBox_sound (P := P) (t := t) (w := w) h hx hf hsim.ro
    simp only [OpOK, execOp, Sem.run_bind, h1, Result.andThen_ok, Sem.run_pure, Lands]
    exact h2
  · rename_i t ps
    unfold val at h
    split at h
    · rename_i vc v hv
      cases h
      refine zf9 (s := Instr.build t (ps.map fun (i, x) => (i, ρm x))) rfl (evBuild_sound hv hvc ?_ (by simp) w)
      intro j i x hj
      simp only [List.getElem?_map, Option.map_eq_some_iff] at hj
      obtain ⟨⟨a, b⟩, hj1, hj2⟩ := hj
      simp only [Prod.mk.injEq] at hj2
      obtain ⟨rfl, rfl⟩ := hj2
      refine ⟨ρm b, ?_, hes b ?_⟩
      · simp at hj1
        simp [hj1]
      · simp only [opnds, List.mem_map]
        exact ⟨_, List.mem_of_getElem? hj1, rfl⟩
    · cases h
  · rename_i t a
    have ha := hes a (by simp [opnds])
    obtain ⟨v', h1, h2⟩ := evLoad_sound h hvc ha hsim
    simp only [OpOK, execOp, Sem.run_bind, h1, Result.andThen_ok, Sem.run_pure, Lands]
    exact h2
  · rename_i t a x
    have ha := hes a (by simp [opnds])
    have hx := hes x (by simp [opnds])
    obtain ⟨w', h1, h2⟩ := evStore_sound h hvc ha hx hsim
    simp only [OpOK, execOp, Sem.run_bind, h1, Result.andThen_ok, Sem.run_pure, Lands]
    exact h2
  · rename_i x
    have hx := hes x (by simp [opnds])
    split at h
    · rename_i id path he
      cases h
      rw [he] at hx
      obtain ⟨b, sz, hr, hxe⟩ := hx
      simp only [OpOK, execOp, hxe, Sem.run_pure, Lands]
      have hv : (R ρ (.ptr id path)).v (.pointer (some ⟨b, poff path, none⟩)) := ⟨b, sz, hr, rfl⟩
      exact ⟨ρ, Post.pure hv 0⟩
    · rename_i f c he
      cases h
      rw [he] at hx
      obtain ⟨vs, hxe, hl⟩ := hx
      simp only [OpOK, execOp, hxe, Sem.run_pure, Lands]
      have hv : (R ρ (.fn (.func f) c)).v (.func (.func f) #[] vs) := ⟨vs, rfl, hl⟩
      exact ⟨ρ, Post.pure hv 0⟩
    · cases h
  · rename_i op t x y yt
    have hx := hes x (by simp [opnds])
    have hy := hes y (by simp [opnds])
    split at h
    · rename_i r' hv
      obtain ⟨vc, v⟩ := r'
      simp only [val] at h
      cases h
      obtain ⟨v', h1, h2⟩ := zr5 (P := P) (t := t) hv hvc (unbit_R hx) (unbit_R hy) w
      refine zf9 (s := do eqGuard op t x y (ρm x) (ρm y); binOp op t (ρm x) (ρm y)) rfl ⟨v', ?_, h2⟩
      rw [Sem.run_bind, eqGuard_int (evBin_shape hv (unbit_R hx) (unbit_R hy))]
      exact h1
    · split at h
      · unfold val at h
        split at h
        · rename_i vc v hv
          cases h
          exact zf9 (s := do eqGuard .eql t x y (ρm x) (ρm y); binOp .eql t (ρm x) (ρm y)) rfl (evEq_sound (neg := false) hv hvc hx hy w)
        · cases h
      · unfold val at h
        split at h
        · rename_i vc v hv
          cases h
          exact zf9 (s := do eqGuard .neq t x y (ρm x) (ρm y); binOp .neq t (ρm x) (ρm y)) rfl (evEq_sound (neg := true) hv hvc hx hy w)
        · cases h
      · cases h
  · rename_i op t x
    have hx := hes x (by simp [opnds])
    unfold val1 at h
    split at h
    · rename_i v hv
      cases h
      exact zf9 (s := Op.unary op (ρm x)) rfl (evUn_sound hv hx w)
    · cases h
  · rename_i s d x
    have hx := hes x (by simp [opnds])
    unfold val1 at h
    split at h
    · rename_i v hv
      cases h
      exact zf9 (s := convert s d (ρm x)) rfl (evConv_sound hv hx w)
    · cases h
  · rename_i t x
    have hx := hes x (by simp [opnds])
    unfold val at h
    split at h
    · rename_i vc v hv
      cases h
      exact zf9 (s := Instr.arrayAt t (ρm x)) rfl (evArrPtr_sound hv hvc hx w)
    · cases h
  · rename_i t x f
    have hx := hes x (by simp [opnds])
    unfold val1 at h
    split at h
    · rename_i v hv
      cases h
      exact zf9 (s := Instr.fieldAt t (ρm x) f) rfl (evFieldAddr_sound hv hx w)
    · cases h
  · rename_i t x f
    have hx := hes x (by simp [opnds])
    unfold val1 at h
    split at h
    · rename_i v hv
      cases h
      exact zf9 (s := Instr.field t (ρm x) f) rfl (evField_sound hv hx w)
    · cases h
  · rename_i t x i
    have hx := hes x (by simp [opnds])
    have hi := hes i (by simp [opnds])
    unfold val at h
    split at h
    · rename_i vc v hv
      cases h
      exact zf9 (s := Instr.indexAt t (ρm x) (ρm i)) rfl (evIndexAddr_sound hv hvc hx hi w)
    · cases h
  · rename_i t x i
    have hx := hes x (by simp [opnds])
    have hi := hes i (by simp [opnds])
    unfold val at h
    split at h
    · rename_i vc v hv
      cases h
      exact zf9 (s := Instr.index t (ρm x) (ρm i)) rfl (evIndex_sound hv hvc hx hi w)
    · cases h
  · rename_i x i
    have hx := hes x (by simp [opnds])
    unfold val1 at h
    split at h
    · rename_i v hv
      cases h
      exact zf9 (s := Instr.extract (ρm x) i) rfl (evExtract_sound hv hx w)
    · cases h
  · rename_i f first cap
    split at h
    · rename_i f hfirst
      cases h
      have hfi : first = #[] := by simpa using hfirst
      subst hfi
      refine zf9 (s := Instr.makeFunc (.func f) ((#[] : Array Operand).map ρm) (cap.map ρm)) rfl ⟨_, rfl, cap.map ρm, by simp, ?_⟩
      rw [Array.toList_map]
      exact ofL_l (VLs_map fun x hx => hes x (by simpa [opnds] using hx))
    · cases h
  · rename_i t x lo hi mx
    split at h
    · unfold val at h
      split at h
      · rename_i vc v hv
        cases h
        exact zf9 (s := Instr.sliceAt t (ρm x) (lo.map ρm) (hi.map ρm) none) rfl (evSlice_sound hv hvc (hes x (by simp [opnds]))
          (OptR_map fun y hy => hes y (by simp [opnds]; right; left; simpa using hy)) (OptR_map fun y hy => hes y (by simp [opnds]; right; right; simpa using hy)) w)
      · cases h
    · rename_i m
      split at h
      · rename_i hh
        unfold val at h
        split at h
        · rename_i vc v hv
          cases h
          exact zf9 (s := Instr.sliceAt t (ρm x) (lo.map ρm) (some (ρm hh)) (some (ρm m))) rfl (evSlice3_sound hv hvc (hes x (by simp [opnds]))
            (OptR_map fun y hy => hes y (by simp [opnds]; right; left; simpa using hy)) (hes hh (by simp [opnds])) (hes m (by simp [opnds])) w)
        · cases h
      · cases h
  · rename_i c
    obtain ⟨callee, args, argTypes⟩ := c
    simp only at h
    split at h
    · rename_i f
      have hfv := hes f (by simp [opnds])
      have hargs : VLs ρ (args.toList.map es) (args.toList.map ρm) := VLs_map fun x hx => hes x (by simp [opnds]; right; simpa using hx)
      split at h
      · rename_i fid cap he
        rw [he] at hfv
        obtain ⟨vs, hfe, hcap⟩ := hfv
        split at h
        · rename_i m hm
          have hd := (henv _ _ hm).lands _ _ _ h hvc ρ w _ hsim hf (VLs_append hargs (toL_VLs hcap))
          simp only [OpOK, execOp, resolve, hfe, Deferred.ofValue, Sem.run_bind, Sem.run_pure, Result.andThen_ok, invoke]
          have e : (#[] ++ args.map ρm ++ vs : Array Value) = (args.toList.map ρm ++ vs.toList).toArray := by
            apply Array.ext'
            simp
          rw [e]
          exact hd
        · cases h
      · cases h
    · rename_i b
      have hargs : VLs ρ (args.toList.map es) (args.toList.map ρm) := VLs_map fun x hx => hes x (by simpa [opnds] using hx)
      unfold evBuiltin at h
      split at h
      · rename_i t x htys hxs
        rw [hxs] at hargs
        obtain ⟨y, ys, e1, hy, e2⟩ := hargs
        obtain rfl : ys = [] := e2
        have ea : argTypes = #[t] := by apply Array.ext'; simpa using htys
        have eb : args.map ρm = #[y] := by apply Array.ext'; simpa using e1
        unfold val1 at h
        split at h
        · rename_i v hv
          cases h
          subst ea
          obtain ⟨v', h1, h2⟩ := evLen_sound (P := P) (ty := type) hv hy w
          simp only [OpOK, execOp, resolve, eb, Sem.run_bind, Sem.run_pure, Result.andThen_ok, invoke, builtin, h1, Lands]
          exact ⟨ρ, Post.pure h2 0⟩
        · cases h
      · rename_i t u s x htys hxs
        rw [hxs] at hargs
        obtain ⟨y, ys, e1, hy, z, zs, e2, hz, e3⟩ := hargs
        obtain rfl : zs = [] := e3
        subst e2
        have ea : argTypes = #[t, u] := by apply Array.ext'; simpa using htys
        have eb : args.map ρm = #[y, z] := by apply Array.ext'; simpa using e1
        subst ea
        obtain ⟨v', w', h1, h2⟩ := evAppend2_sound (ty := type) h hvc hy hz hsim hf
        simp only [OpOK, execOp, resolve, eb, Sem.run_bind, Sem.run_pure, Result.andThen_ok, invoke, builtin, h1, Lands]
        exact h2
      · rename_i t u s x htys hxs
        rw [hxs] at hargs
        obtain ⟨y, ys, e1, hy, z, zs, e2, hz, e3⟩ := hargs
        obtain rfl : zs = [] := e3
        subst e2
        have ea : argTypes = #[t, u] := by apply Array.ext'; simpa using htys
        have eb : args.map ρm = #[y, z] := by apply Array.ext'; simpa using e1
        subst ea
        obtain ⟨v', w', h1, h2⟩ := evCopy2_sound (u := u) (ty := type) h hvc hy hz hsim
        simp only [OpOK, execOp, resolve, eb, Sem.run_bind, Sem.run_pure, Result.andThen_ok, invoke, builtin, h1, Lands]
        exact h2
      · rename_i x y hxs
        rw [hxs] at hargs
        obtain ⟨x', ys, e1, hx, y', zs, e2, hy, e3⟩ := hargs
        obtain rfl : zs = [] := e3
        subst e2
        have eb : args.map ρm = #[x', y'] := by apply Array.ext'; simpa using e1
        unfold val1 at h
        split at h
        · rename_i v hv
          cases h
          obtain ⟨v', h1, h2⟩ := evMin_sound (P := P) (tys := argTypes) (ty := type) hv hx hy w
          simp only [OpOK, execOp, resolve, eb, Sem.run_bind, Sem.run_pure, Result.andThen_ok, invoke, builtin, h1, Lands]
          exact ⟨ρ, Post.pure h2 0⟩
        · cases h
      · cases h
    · cases h
  · rename_i t n ps
    obtain ⟨v', w', h1, h2⟩ := evBuildSlice2_sound (parts' := ps.map fun (i, x) => (i, ρm x)) (w := w) h hvc (fun j i x hj => by
      simp only [List.getElem?_map, Option.map_eq_some_iff] at hj
      obtain ⟨⟨a, b⟩, hj1, hj2⟩ := hj
      simp only [Prod.mk.injEq] at hj2
      obtain ⟨rfl, rfl⟩ := hj2
      refine ⟨ρm b, ?_, hes b ?_⟩
      · simp at hj1
        simp [hj1]
      · simp only [opnds, List.mem_map]
        exact ⟨_, List.mem_of_getElem? hj1, rfl⟩) (by simp) hf hsim.ro
    simp only [OpOK, execOp, Sem.run_bind, h1, Result.andThen_ok, Sem.run_pure, Lands]
    exact h2
  · rename_i t l c
    have hl := hes l (by simp [opnds])
    have hc := hes c (by simp [opnds])
    obtain ⟨v', w', h1, h2⟩ := evMake2_sound (w := w) h hvc hl hc hf hsim.ro
    simp only [OpOK, execOp, Sem.run_bind, h1, Result.andThen_ok, Sem.run_pure, Lands]
    exact h2
  · cases h
theorem ze6 {G : Heap} {x : Option (Bool × T)} {r : Res} (h : val G x = some r) : Stat G r := by
  unfold val at h
  split at h
  · cases h; exact Stat.pure _ _ _ _
  · cases h
theorem zf1 {G : Heap} {x : Option T} {r : Res} (h : val1 G x = some r) : Stat G r := by
  unfold val1 at h
  split at h
  · cases h; exact Stat.pure _ _ _ _
  · cases h
theorem evOp_stat {P : Program} {env : Env} (henv : EnvOK P env) {es : Operand → T} {G : Heap} {o : Op} {r : Res} (h : evOp P env es G o = some r) : Stat G r := by
  unfold evOp at h
  split at h
  · cases h; exact Stat.pure _ _ _ _
  · cases h; exact Stat.pure _ _ _ _
  · exact evAlloc_stat h
  · exact evBox_stat h
  · exact ze6 h
  · exact evLoad_stat h
  · exact evStore_stat h
  · split at h <;> first | (cases h; done) | (cases h; exact Stat.pure _ _ _ _)
  · split at h
    · exact ze6 h
    · split at h <;> first | (cases h; done) | exact ze6 h
  · exact zf1 h
  · exact zf1 h
  · exact ze6 h
  · exact zf1 h
  · exact zf1 h
  · exact ze6 h
  · exact ze6 h
  · exact zf1 h
  · split at h <;> first | (cases h; done) | (cases h; exact Stat.pure _ _ _ _)
  · split at h
    · exact ze6 h
    · split at h
      · exact ze6 h
      · cases h
  · split at h
    · split at h
      · split at h
        · rename_i m hm
          exact (henv _ _ hm).stat _ _ _ h
        · cases h
      · cases h
    · unfold evBuiltin at h
      split at h
      · exact zf1 h
      · exact evAppend2_stat h
      · exact evCopy2_stat h
      · exact zf1 h
      · cases h
    · cases h
  · exact evBuildSlice2_stat h
  · exact evMake2_stat h
  · cases h
end
end Go.AE
namespace Go.AE
open Go
noncomputable section
variable {P : Program}
def unnum : T → T
  | .num z => .int .i64 z
  | t => t
theorem unnum_R {ρ : Rho} {t : T} {x : Value} (h : (R ρ t).v x) : (R ρ (unnum t)).v x := by cases t <;> exact h
def in64 (z : Int) : Bool := decide (-9223372036854775808 ≤ z ∧ z ≤ 9223372036854775807)
theorem zk9 {z : Int} (h : in64 z = true) : IntKind.i64.wrap z = z := by
  simp only [in64, decide_eq_true_eq] at h
  rw [IntKind.wrap_i64]
  omega
def evNumI (op : BinOp) (a b : Int) : Option (Bool × T) :=
  match op with
  | .add => some (in64 (a + b), .num (a + b))
  | .sub => some (in64 (a - b), .num (a - b))
  | .mul => some (in64 (a * b), .num (a * b))
  | .quo => some (decide (0 ≤ a ∧ 0 < b) && in64 (a / b), .num (a / b))
  | .rem => some (decide (0 ≤ a ∧ 0 < b), .num (a % b))
  | .eql => some (true, .bool (a == b))
  | .neq => some (true, .bool (a != b))
  | .lss => some (true, .bool (decide (a < b)))
  | .leq => some (true, .bool (decide (a ≤ b)))
  | .gtr => some (true, .bool (decide (a > b)))
  | .geq => some (true, .bool (decide (a ≥ b)))
  | _ => none
def evNum (op : BinOp) (a : Int) (k : IntKind) (b : Int) : Option (Bool × T) :=
  match op with
  | .shl => some (decide (0 ≤ b ∧ b < 64) && in64 (a * 2 ^ b.toNat), .num (a * 2 ^ b.toNat))
  | .shr => some (decide (0 ≤ b ∧ b < 64), .num (a / 2 ^ b.toNat))
  | op => if k = .i64 then evNumI op a b else none
theorem evNumI_sound {op : BinOp} {a b : Int} {vc : Bool} {v : T} {ρ : Rho} {x' : Value} (h : evNumI op a b = some (vc, v)) (hvc : vc = true) : ∃ v2, evBin op (.int .i64 a) (.int .i64 b) = some (true, v2) ∧ ((R ρ v2).v x' → (R ρ v).v x') := by
  subst hvc
  cases op <;> simp only [evNumI, Option.some.injEq, Prod.mk.injEq, Bool.and_eq_true, decide_eq_true_eq, reduceCtorEq, true_and] at h
  · obtain ⟨h1, rfl⟩ := h
    exact ⟨_, rfl, fun hx => by rw [zk9 h1] at hx; exact hx⟩
  · obtain ⟨h1, rfl⟩ := h
    exact ⟨_, rfl, fun hx => by rw [zk9 h1] at hx; exact hx⟩
  · obtain ⟨h1, rfl⟩ := h
    exact ⟨_, rfl, fun hx => by rw [zk9 h1] at hx; exact hx⟩
  · obtain ⟨⟨⟨h0, h1⟩, h2⟩, rfl⟩ := h
    have hb : b ≠ 0 := by omega
    refine ⟨.int .i64 (IntKind.i64.wrap (a.tdiv b)), by simp [evBin, evInt, hb], fun hx => ?_⟩
    rw [Int.tdiv_eq_ediv_of_nonneg h0, zk9 h2] at hx
    exact hx
  · obtain ⟨⟨h0, h1⟩, rfl⟩ := h
    have hb : b ≠ 0 := by omega
    refine ⟨.int .i64 (a.tmod b), by simp [evBin, evInt, hb], fun hx => ?_⟩
    rw [Int.tmod_eq_emod_of_nonneg h0] at hx
    exact hx
  all_goals (subst h; exact ⟨_, rfl, fun hx => hx⟩)
theorem evNum_sound {op : BinOp} {a b : Int} {k : IntKind} {vc : Bool} {v : T} {t : TypeId} {ρ : Rho} {x' y' : Value} (h : evNum op a k b = some (vc, v)) (hvc : vc = true)
    (hx : x' = .int .i64 a) (hy : y' = .int k b) (w : World) : ∃ v', (binOp op t x' y').run P w = .ok v' w ∧ (R ρ v).v v' := by
  subst hvc hx hy
  unfold evNum at h
  split at h
  · simp only [Option.some.injEq, Prod.mk.injEq, Bool.and_eq_true, decide_eq_true_eq] at h
    obtain ⟨⟨⟨h0, h1⟩, h2⟩, rfl⟩ := h
    have e : evBin .shl (.int .i64 a) (.int k b) = some (true, .int .i64 (shlI .i64 a b)) := by simp [evBin, h0]
    obtain ⟨v', g1, g2⟩ := zr5 (P := P) (t := t) (ρ := ρ) e rfl rfl rfl w
    refine ⟨v', g1, ?_⟩
    have e2 : shlI .i64 a b = a * 2 ^ b.toNat := by
      unfold shlI
      have h64 : IntKind.i64.bits = 64 := rfl
      rw [h64, Nat.min_eq_left (by omega), zk9 h2]
    rw [e2] at g2
    exact g2
  · simp only [Option.some.injEq, Prod.mk.injEq, decide_eq_true_eq] at h
    obtain ⟨⟨h0, h1⟩, rfl⟩ := h
    have e : evBin .shr (.int .i64 a) (.int k b) = some (true, .int .i64 (shrI .i64 a b)) := by simp [evBin, h0]
    obtain ⟨v', g1, g2⟩ := zr5 (P := P) (t := t) (ρ := ρ) e rfl rfl rfl w
    refine ⟨v', g1, ?_⟩
    have e2 : shrI .i64 a b = a / 2 ^ b.toNat := by
      unfold shrI
      have h64 : IntKind.i64.bits = 64 := rfl
      rw [h64, Nat.min_eq_left (by omega), Int.fdiv_eq_ediv_of_nonneg _ (Int.le_of_lt (Int.pow_pos (by decide)))]
    rw [e2] at g2
    exact g2
  · split at h
    · rename_i hk
      subst hk
      have h0 : ∀ y, (R ρ v).v y ∨ True := fun _ => .inr trivial
      obtain ⟨v2, e, hR⟩ := evNumI_sound (ρ := ρ) (x' := undef) h rfl
      obtain ⟨v', g1, g2⟩ := zr5 (P := P) (t := t) (ρ := ρ) e rfl rfl rfl w
      obtain ⟨v3, e3, hR3⟩ := evNumI_sound (ρ := ρ) (x' := v') h rfl
      rw [e] at e3
      cases e3
      exact ⟨v', g1, hR3 g2⟩
    · cases h
def evIdxAddrF (P : Program) (t : TypeId) (x i : T) : Option (Bool × T) :=
  match x, i with
  | .fsi k n f _, .int _ z => match P.underlying t with
    | some (.slice e) => match szO P e with
      | some m => bif Nat.beq m 1 then some (decide (0 ≤ z ∧ z < n), .fp (.int k (f z.toNat))) else none
      | none => none
    | _ => none
  | .fsr q n f _, .int _ z => match P.underlying t with
    | some (.slice e) => match szO P e with
      | some m => bif Nat.beq m q then some (decide (0 ≤ z ∧ z < n), .fp (f z.toNat)) else none
      | none => none
    | _ => none
  | .fp u, .int _ z => match P.underlying t with
    | some (.array n e) => match szO P e with
      | some m => match stepT u (.idx z.toNat m) with
        | some u' => some (decide (0 ≤ z ∧ z < n) && zh6 u (.idx z.toNat m), .fp u')
        | none => none
      | none => none
    | _ => none
  | _, _ => none
theorem Frz.at {ro : Nat → Option (Array Value)} {m n : Nat} {q : Nat → List Value → Prop} {cap : Option Nat} {x : Value} (h : Frz ro m n q cap x) {i : Nat} (hi : i < n) :
    ∃ b off c cs, x = .slice (some ⟨b, off, none⟩) n c ∧ ro b = some cs ∧ off + i * m + m ≤ cs.size ∧ q i (cut cs.toList (off + i * m) m) := by
  obtain ⟨a, c, rfl, _, _, h4⟩ := h
  obtain ⟨b, off, cs, rfl, g1, g2, g3⟩ := h4 (by omega)
  have h2 : i * m + m ≤ n * m := by rw [← Nat.succ_mul]; exact Nat.mul_le_mul_right _ hi
  exact ⟨b, off, c, cs, rfl, g1, by omega, g3 i hi⟩
theorem evIdxAddrF_sound {t : TypeId} {x y v : T} {vc : Bool} {ρ : Rho} {x' y' : Value} (h : evIdxAddrF P t x y = some (vc, v)) (hvc : vc = true)
    (hx : (R ρ x).v x') (hy : (R ρ y).v y') (w : World) : ∃ v', (Instr.indexAt t x' y').run P w = .ok v' w ∧ (R ρ v).v v' := by
  subst hvc
  unfold evIdxAddrF at h
  split at h
  · rename_i k n f cap k' z
    obtain rfl : y' = _ := hy
    split at h
    · rename_i e hu
      split at h
      · rename_i m hm
        cases hb : Nat.beq m 1 with
        | false => rw [hb] at h; cases h
        | true =>
          rw [hb] at h
          have := Nat.eq_of_beq_eq_true hb
          subst this
          simp only [cond_true, Option.some.injEq, Prod.mk.injEq, decide_eq_true_eq] at h
          obtain ⟨h1, rfl⟩ := h
          have hx' : Frz ρ.ro 1 n (fun i cs => cs = [.int k (f i)]) cap x' := hx
          obtain ⟨b, off, c, cs, rfl, g1, g2, g3⟩ := hx'.at (i := z.toNat) (by omega)
          refine ⟨_, ?_, b, off + z.toNat * 1, cs, rfl, g1, g2, ?_⟩
          · simp [Instr.indexAt, asIntOf, run_underlying hu, h1, zd1 hm, zb8]
          · show (R ρ.bare (.int k (f z.toNat))).c (cut cs.toList (off + z.toNat * 1) 1)
            rw [g3]
            exact ⟨_, rfl, rfl⟩
      · cases h
    · cases h
  · rename_i q n f cap k' z
    obtain rfl : y' = _ := hy
    split at h
    · rename_i e hu
      split at h
      · rename_i m hm
        cases hb : Nat.beq m q with
        | false => rw [hb] at h; cases h
        | true =>
          rw [hb] at h
          have := Nat.eq_of_beq_eq_true hb
          subst this
          simp only [cond_true, Option.some.injEq, Prod.mk.injEq, decide_eq_true_eq] at h
          obtain ⟨h1, rfl⟩ := h
          have hx' : Frz ρ.ro m n (fun i cs => (R ρ.bare (f i)).c cs) cap x' := hx
          obtain ⟨b, off, c, cs, rfl, g1, g2, g3⟩ := hx'.at (i := z.toNat) (by omega)
          have hsz : (f z.toNat).size = m := by rw [← zh7 g3, zg7 (by simpa using g2)]
          refine ⟨_, ?_, b, off + z.toNat * m, cs, rfl, g1, by rw [hsz]; exact g2, by rw [hsz]; exact g3⟩
          simp [Instr.indexAt, asIntOf, run_underlying hu, h1, zd1 hm, zb8]
      · cases h
    · cases h
  · rename_i u k' z
    obtain rfl : y' = _ := hy
    split at h
    · rename_i n e hu
      split at h
      · rename_i m hm
        split at h
        · rename_i u' hs
          simp only [Option.some.injEq, Prod.mk.injEq, Bool.and_eq_true, decide_eq_true_eq] at h
          obtain ⟨⟨h1, h2⟩, rfl⟩ := h
          obtain ⟨b, off, cs, rfl, g1, g2, g3⟩ := hx
          obtain ⟨k1, k2⟩ := zf7 g3 hs h2
          rw [zg7 (by simpa using g2)] at k2
          simp only [Step.off] at k1 k2
          refine ⟨_, ?_, b, off + z.toNat * m, cs, rfl, g1, by omega, ?_⟩
          · simp [Instr.indexAt, asIntOf, run_underlying hu, Instr.sureAddr, h1, zd1 hm, zb8]
          · have e : cut (cut cs.toList off u.size) (z.toNat * m) u'.size = cut cs.toList (off + z.toNat * m) u'.size := by
              simp only [cut]
              rw [List.drop_take, List.take_take, Nat.min_eq_left (by omega), List.drop_drop]
            rw [← e]
            exact k1
        · cases h
      · cases h
    · cases h
  · cases h
def evFldAddrF (P : Program) (t : TypeId) (f : Nat) : T → Option T
  | .fp u => match P.underlying t with
    | some (.struct fs) => match fs.toList[f]? with
      | some fd => match szO P fd.type, nth u f fd.offset with
        | some n, some u' => bif Nat.beq n 0 then none else some (.fp u')
        | _, _ => none
      | none => none
    | _ => none
  | _ => none
theorem evFldAddrF_sound {t : TypeId} {f : Nat} {x v : T} {ρ : Rho} {x' : Value} (h : evFldAddrF P t f x = some v) (hx : (R ρ x).v x') (w : World) :
    ∃ v', (Instr.fieldAt t x' f).run P w = .ok v' w ∧ (R ρ v).v v' := by
  unfold evFldAddrF at h
  split at h
  · rename_i u
    obtain ⟨b, off, cs, rfl, g1, g2, g3⟩ := hx
    split at h
    · rename_i fs hu
      split at h
      · rename_i fd hfd
        split at h
        · rename_i n u' hn hs
          cases hz : Nat.beq n 0 with
          | true => rw [hz] at h; cases h
          | false =>
            rw [hz] at h
            cases h
            have hne : n ≠ 0 := fun e => by subst e; cases hz
            obtain ⟨k1, k2⟩ := zp6 g3 hs
            rw [zg7 (by simpa using g2)] at k2
            refine ⟨_, ?_, b, off + fd.offset, cs, rfl, g1, by omega, ?_⟩
            · have hfd' : fs[f]? = some fd := by simpa using hfd
              simp [Instr.fieldAt, run_underlying hu, hfd', Instr.sureAddr, fieldPlace, zd1 hn, hne, zb8]
            · have e : cut (cut cs.toList off u.size) fd.offset u'.size = cut cs.toList (off + fd.offset) u'.size := by
                simp only [cut]
                rw [List.drop_take, List.take_take, Nat.min_eq_left (by omega), List.drop_drop]
              rw [← e]
              exact k1
        · cases h
      · cases h
    · cases h
  · cases h
def evLoadF (P : Program) (G : Heap) (t : TypeId) : T → Option Res
  | .fp u => match szO P t with
    | some n => bif Nat.beq u.size n && aggIs P t u.isAgg then some (pureR G true u) else none
    | none => none
  | _ => none
theorem evLoadF_sound {G : Heap} {t : TypeId} {x : T} {r : Res} {ρ : Rho} {x' : Value} {w : World} (h : evLoadF P G t x = some r)
    (hx : (R ρ x).v x') (hro : RoOK ρ w) : ∃ v', (Instr.loadAt t x').run P w = .ok v' w ∧ ∃ ρ', Post ρ ρ' G w r v' w := by
  unfold evLoadF at h
  split at h
  · rename_i u
    obtain ⟨b, off, cs, rfl, g1, g2, g3⟩ := hx
    split at h
    · rename_i n hn
      cases hb : (Nat.beq u.size n && aggIs P t u.isAgg) with
      | false => rw [hb] at h; cases h
      | true =>
        rw [hb] at h
        cases h
        simp only [Bool.and_eq_true] at hb
        obtain ⟨ty, fr, hw⟩ := hro b cs g1
        obtain ⟨v', hv, hrv⟩ := zk4 (P := P) hw hn (Nat.eq_of_beq_eq_true hb.1) hb.2 (zr7 ρ.bare_ext g3) g2
        exact ⟨v', by simp [Instr.loadAt, Instr.sureAddr, hv], ρ, Post.pure hrv _⟩
    · cases h
  · cases h
theorem Frz.slice {ro : Nat → Option (Array Value)} {m n : Nat} {q : Nat → List Value → Prop} {cap : Option Nat} {x : Value} (h : Frz ro m n q cap x) {l hh : Nat} (h1 : l ≤ hh) (h2 : hh ≤ n) :
    ∃ a c, x = .slice a n c ∧ n ≤ c ∧ (∀ c', cap = some c' → c = c') ∧ ∀ mx, hh ≤ mx → mx ≤ c → ∀ cap' : Option Nat, (∀ c', cap' = some c' → mx - l = c') → Frz ro m (hh - l) (fun i => q (l + i)) cap' (.slice (if mx = l then a else a.map (·.add (l * m))) (hh - l) (mx - l)) := by
  have e0 : l + (hh - l) = hh := by omega
  obtain ⟨a, c, rfl, h3, h4, h5⟩ := h
  refine ⟨a, c, rfl, h3, h4, fun mx k1 k2 cap' k3 => ⟨if mx = l then a else a.map (·.add (l * m)), mx - l, rfl, by omega, k3, fun h0 => ?_⟩⟩
  have hn0 : 0 < n := by omega
  obtain ⟨b, off, cs, rfl, g1, g2, g3⟩ := h5 hn0
  have hne : ¬ mx = l := by omega
  have e1 : hh * m ≤ n * m := Nat.mul_le_mul_right _ h2
  have e2 : hh * m = l * m + (hh - l) * m := by rw [← Nat.add_mul, e0]
  have e3 : off + l * m + (hh - l) * m ≤ cs.size := by
    rw [Nat.add_assoc, ← e2]
    exact Nat.le_trans (Nat.add_le_add_left e1 off) g2
  refine ⟨b, off + l * m, cs, ?_, g1, e3, fun i hi => ?_⟩
  · simp [hne, zb8]
  · have := g3 (l + i) (by omega)
    rw [Nat.add_mul, ← Nat.add_assoc] at this
    exact this
def evSliceF (P : Program) (t : TypeId) (x : T) (lo hi : Option T) : Option (Bool × T) :=
  match P.underlying t, x with
  | some (.slice e), .fsi k n f cap => match szO P e, bndI 0 lo, bndI n hi with
    | some m, some l, some h => bif Nat.beq m 1 then some (decide (0 ≤ h ∧ h ≤ n) && decide (0 ≤ l ∧ l ≤ h), .fsi k (h.toNat - l.toNat) (fun j => f (l.toNat + j)) (cap.map (· - l.toNat))) else none
    | _, _, _ => none
  | some (.slice e), .fsr q n f cap => match szO P e, bndI 0 lo, bndI n hi with
    | some m, some l, some h => bif Nat.beq m q then some (decide (0 ≤ h ∧ h ≤ n) && decide (0 ≤ l ∧ l ≤ h), .fsr q (h.toNat - l.toNat) (fun j => f (l.toNat + j)) (cap.map (· - l.toNat))) else none
    | _, _, _ => none
  | _, _ => none
theorem capMap {cap : Option Nat} {c l : Nat} (h : ∀ c', cap = some c' → c = c') : ∀ c', cap.map (· - l) = some c' → c - l = c' := by
  intro c' hc
  cases cap with
  | none => cases hc
  | some d => cases hc; rw [h d rfl]
theorem evSliceF_sound {t : TypeId} {x : T} {lo hi : Option T} {vc : Bool} {v : T} {ρ : Rho} {x' : Value} {lo' hi' : Option Value} (h : evSliceF P t x lo hi = some (vc, v)) (hvc : vc = true)
    (hx : (R ρ x).v x') (hlo : OptR ρ lo lo') (hhi : OptR ρ hi hi') (w : World) : ∃ v', (Instr.sliceAt t x' lo' hi' none).run P w = .ok v' w ∧ (R ρ v).v v' := by
  subst hvc
  unfold evSliceF at h
  split at h
  · rename_i e k n f cap hu
    split at h
    · rename_i m l hh hm hl hhh
      cases hb0 : Nat.beq m 1 with
      | false => rw [hb0] at h; cases h
      | true =>
        rw [hb0] at h
        have := Nat.eq_of_beq_eq_true hb0
        subst this
        simp only [cond_true, Option.some.injEq, Prod.mk.injEq, Bool.and_eq_true, decide_eq_true_eq] at h
        obtain ⟨⟨h1, h2⟩, rfl⟩ := h
        have hx' : Frz ρ.ro 1 n (fun i cs => cs = [.int k (f i)]) cap x' := hx
        obtain ⟨a, c, rfl, h3, h4, h5⟩ := hx'.slice (l := l.toNat) (hh := hh.toNat) (by omega) (by omega)
        have hb := zg4 (P := P) (isS := true) (len := n) (cap := c) hl hhh hlo hhi (by omega) h2 w
        refine ⟨_, ?_, h5 c (by omega) (Nat.le_refl _) _ (capMap h4)⟩
        simp only [Instr.sliceAt, Instr.slice, Sem.run_bind, run_underlying hu, Result.andThen_ok, Sem.run_pure, hb, zd1 hm]
    · cases h
  · rename_i e q n f cap hu
    split at h
    · rename_i m l hh hm hl hhh
      cases hb0 : Nat.beq m q with
      | false => rw [hb0] at h; cases h
      | true =>
        rw [hb0] at h
        have := Nat.eq_of_beq_eq_true hb0
        subst this
        simp only [cond_true, Option.some.injEq, Prod.mk.injEq, Bool.and_eq_true, decide_eq_true_eq] at h
        obtain ⟨⟨h1, h2⟩, rfl⟩ := h
        have hx' : Frz ρ.ro m n (fun i cs => (R ρ.bare (f i)).c cs) cap x' := hx
        obtain ⟨a, c, rfl, h3, h4, h5⟩ := hx'.slice (l := l.toNat) (hh := hh.toNat) (by omega) (by omega)
        have hb := zg4 (P := P) (isS := true) (len := n) (cap := c) hl hhh hlo hhi (by omega) h2 w
        refine ⟨_, ?_, h5 c (by omega) (Nat.le_refl _) _ (capMap h4)⟩
        simp only [Instr.sliceAt, Instr.slice, Sem.run_bind, run_underlying hu, Result.andThen_ok, Sem.run_pure, hb, zd1 hm]
    · cases h
  · cases h
def evSlice3F (P : Program) (t : TypeId) (x : T) (lo : Option T) (hi mx : T) : Option (Bool × T) :=
  match bndI 0 lo, bndI 0 (some hi), bndI 0 (some mx) with
  | some l, some h, some m => match P.underlying t, x with
    | some (.slice e), .fsi k n f _ => match szO P e with
      | some q => bif Nat.beq q 1 then some (decide (m ≤ n) && decide (0 ≤ l ∧ l ≤ h ∧ h ≤ m), .fsi k (h.toNat - l.toNat) (fun j => f (l.toNat + j)) (some (m.toNat - l.toNat))) else none
      | none => none
    | some (.slice e), .fsr q' n f _ => match szO P e with
      | some q => bif Nat.beq q q' then some (decide (m ≤ n) && decide (0 ≤ l ∧ l ≤ h ∧ h ≤ m), .fsr q' (h.toNat - l.toNat) (fun j => f (l.toNat + j)) (some (m.toNat - l.toNat))) else none
      | none => none
    | _, _ => none
  | _, _, _ => none
theorem evSlice3F_sound {t : TypeId} {x : T} {lo : Option T} {hi mx : T} {vc : Bool} {v : T} {ρ : Rho} {x' : Value} {lo' : Option Value} {hi' mx' : Value} (h : evSlice3F P t x lo hi mx = some (vc, v)) (hvc : vc = true)
    (hx : (R ρ x).v x') (hlo : OptR ρ lo lo') (hhi : (R ρ hi).v hi') (hmx : (R ρ mx).v mx') (w : World) : ∃ v', (Instr.sliceAt t x' lo' (some hi') (some mx')).run P w = .ok v' w ∧ (R ρ v).v v' := by
  subst hvc
  unfold evSlice3F at h
  split at h
  · rename_i l hh m hl hhh hmm
    split at h
    · rename_i e k n f cap hu
      split at h
      · rename_i q hq
        cases hb0 : Nat.beq q 1 with
        | false => rw [hb0] at h; cases h
        | true =>
          rw [hb0] at h
          have := Nat.eq_of_beq_eq_true hb0
          subst this
          simp only [cond_true, Option.some.injEq, Prod.mk.injEq, Bool.and_eq_true, decide_eq_true_eq] at h
          obtain ⟨⟨h1, h2⟩, rfl⟩ := h
          have hx' : Frz ρ.ro 1 n (fun i cs => cs = [.int k (f i)]) cap x' := hx
          obtain ⟨a, c, rfl, h3, h4, h5⟩ := hx'.slice (l := l.toNat) (hh := hh.toNat) (by omega) (by omega)
          have hb := zm5 (P := P) (isS := true) (len := n) (cap := c) hl hhh hmm hlo hhi hmx (by omega) (by omega) (by omega) w
          refine ⟨_, ?_, h5 m.toNat (by omega) (by omega) _ (fun c' hc => by cases hc; rfl)⟩
          simp only [Instr.sliceAt, Instr.slice, Sem.run_bind, run_underlying hu, Result.andThen_ok, Sem.run_pure, hb, zd1 hq]
      · cases h
    · rename_i e q' n f cap hu
      split at h
      · rename_i q hq
        cases hb0 : Nat.beq q q' with
        | false => rw [hb0] at h; cases h
        | true =>
          rw [hb0] at h
          have := Nat.eq_of_beq_eq_true hb0
          subst this
          simp only [cond_true, Option.some.injEq, Prod.mk.injEq, Bool.and_eq_true, decide_eq_true_eq] at h
          obtain ⟨⟨h1, h2⟩, rfl⟩ := h
          have hx' : Frz ρ.ro q n (fun i cs => (R ρ.bare (f i)).c cs) cap x' := hx
          obtain ⟨a, c, rfl, h3, h4, h5⟩ := hx'.slice (l := l.toNat) (hh := hh.toNat) (by omega) (by omega)
          have hb := zm5 (P := P) (isS := true) (len := n) (cap := c) hl hhh hmm hlo hhi hmx (by omega) (by omega) (by omega) w
          refine ⟨_, ?_, h5 m.toNat (by omega) (by omega) _ (fun c' hc => by cases hc; rfl)⟩
          simp only [Instr.sliceAt, Instr.slice, Sem.run_bind, run_underlying hu, Result.andThen_ok, Sem.run_pure, hb, zd1 hq]
      · cases h
    · cases h
  · cases h
def evArrPtrF (P : Program) (t : TypeId) (x : T) : Option (Bool × T) :=
  match P.underlying t, x with
  | some (.array n _), .fsi k len f _ => bif Nat.blt 0 n then some (decide (n ≤ len), .fp (.ints k n f)) else none
  | _, _ => none
theorem evArrPtrF_sound {t : TypeId} {x v : T} {vc : Bool} {ρ : Rho} {x' : Value} (h : evArrPtrF P t x = some (vc, v)) (hvc : vc = true) (hx : (R ρ x).v x') (w : World) : ∃ v', (Instr.arrayAt t x').run P w = .ok v' w ∧ (R ρ v).v v' := by
  subst hvc
  unfold evArrPtrF at h
  split at h
  · rename_i n e k len f cap hu
    cases hb : Nat.blt 0 n with
    | false => rw [hb] at h; cases h
    | true =>
      rw [hb] at h
      have hn : 0 < n := by simpa using hb
      simp only [cond_true, Option.some.injEq, Prod.mk.injEq, decide_eq_true_eq] at h
      obtain ⟨h1, rfl⟩ := h
      obtain ⟨a, c, rfl, h3, h4, h5⟩ := hx
      obtain ⟨b, off, cs, rfl, g1, g2, g3⟩ := h5 (by omega)
      refine ⟨.pointer (some ⟨b, off, none⟩), ?_, b, off, cs, rfl, g1, by simp only [T.size]; omega, ?_⟩
      · have : ¬ len < n := by omega
        simp [Instr.arrayAt, run_underlying hu, this]
      · refine ⟨by rw [zg7 (by simp [T.size]; omega)]; rfl, fun i hi => ?_⟩
        have := g3 i (by omega)
        have h2 : (cut cs.toList (off + i * 1) 1)[0]? = cs.toList[off + i]? := by rw [zf0 (by omega)]; simp
        rw [this] at h2
        rw [zf0 (by simp only [T.size]; omega), ← h2]
        rfl
  · cases h
def bstr (n : Nat) (f : Nat → Int) : ByteArray := strOfNums ((List.range n).map f)
def strF (s : ByteArray) : Nat → Int := fun j => ((s.data.toList.getD j 0).toNat : Nat)
def isStr : T → Bool
  | .str _ => true
  | _ => false
theorem contI_shape {G : Heap} {x : T} {vc : Bool} {k : IntKind} {n : Nat} {f : Nat → Int} {tm : Nat} {ρ : Rho} {x' : Value} (h : contI G x = some (vc, k, n, f, tm)) (hs : isStr x = false) (hx : (R ρ x).v x') : ∃ a c, x' = .slice a n c := by
  unfold contI at h
  split at h
  · rename_i id path lo m len cap
    cases hm : Nat.beq m 1 with
    | false => rw [hm] at h; cases h
    | true =>
      rw [hm] at h
      simp only [cond_true] at h
      split at h
      · split at h
        · cases h
          rcases hx with ⟨b, sz, hr, hs⟩ | ⟨_, _, rfl, rfl⟩
          · cases cap with
            | some c => exact ⟨_, c, hs⟩
            | none =>
              obtain ⟨_, _, (⟨c, rfl, _⟩ | ⟨h0, a, rfl, _⟩)⟩ := hs
              · exact ⟨_, c, rfl⟩
              · exact ⟨a, 0, by rw [h0]⟩
          · exact ⟨_, _, rfl⟩
        · cases h
      · cases h
  · cases hs
  · cases h
    obtain ⟨a, c, rfl, _⟩ := hx
    exact ⟨a, c, rfl⟩
  · cases h
def evToStr (P : Program) (G : Heap) (s d : TypeId) (x : T) : Option Res :=
  match P.underlying s, P.underlying d with
  | some (.slice e), some .string => match P.underlying e with
    | some (.int .u8) => bif isStr x then none else match contI G x with
      | some (vc, .u8, n, f, tm) => some ⟨vc, .str (bstr n f), G, tm, 0⟩
      | _ => none
    | _ => none
  | _, _ => none
theorem evToStr_sound {G : Heap} {s d : TypeId} {x : T} {r : Res} {ρ : Rho} {x' : Value} {w : World} (h : evToStr P G s d x = some r) (hvc : r.vc = true) (hx : (R ρ x).v x') (hsim : Sim (bitK r.t) ρ G w) :
    ∃ v', (convert s d x').run P w = .ok v' w ∧ ∃ ρ', Post ρ ρ' G w r v' w := by
  unfold evToStr at h
  split at h
  · rename_i e hs hd
    split at h
    · rename_i he
      cases hst : isStr x with
      | true => rw [hst] at h; cases h
      | false =>
        rw [hst] at h
        simp only [cond_false] at h
        split at h
        · rename_i vc n f tm hc
          cases h
          obtain ⟨a, c, rfl⟩ := contI_shape hc hst hx
          obtain ⟨_, hh, _⟩ := zh4 (P := P) hc hvc hx (fun _ h => h) hsim
          refine ⟨.string (bstr n f), ?_, ρ, Post.pure (by exact rfl) _⟩
          rw [run_convert_bytes_string w s d e a n c hs he hd]
          have hcells : zb2 .u8 n f = ((List.range n).map f).map (Value.int .u8) := by simp [zb2]
          cases a with
          | none =>
            simp only [Builtin.firstCells, Sem.run_pure] at hh
            have : n = 0 := by
              have h1 := congrArg (fun r => match r with | Result.ok (v : Array Value) _ => v.size | _ => 0) hh
              simp [za5] at h1
              exact h1.symm
            subst this
            simp [Conv.bytesToString, bstr, strOfNums]
            rfl
          | some a =>
            simp only [Builtin.firstCells, Nat.mul_one] at hh
            rw [hcells] at hh
            rw [run_bytesToString w a n c _ hh, foldl_push_bytes]
            simp [bstr, strOfNums, ByteArray.empty, ByteArray.emptyWithCapacity]
            rfl
        · cases h
    · cases h
  · cases h
def evOfStr (P : Program) (G : Heap) (s d : TypeId) : T → Option Res
  | .str b => match P.underlying s, P.underlying d with
    | some .string, some (.slice e) => match P.underlying e with
      | some (.int .u8) => some ⟨true, .slice G.length [] 0 1 b.size none, G ++ [some (.ints .u8 b.size (strF b))], 0, 0⟩
      | _ => none
    | _, _ => none
  | _ => none
theorem evOfStr_sound {G : Heap} {s d : TypeId} {x : T} {r : Res} {ρ : Rho} {x' : Value} {w : World} (h : evOfStr P G s d x = some r) (hx : (R ρ x).v x') (hsim : Sim (bitK r.t) ρ G w) (hf : fresh ρ G.length r.G.length) :
    ∃ v' w', (convert s d x').run P w = .ok v' w' ∧ ∃ ρ', Post ρ ρ' G w r v' w' := by
  unfold evOfStr at h
  split at h
  · rename_i b
    obtain rfl : x' = _ := hx
    split at h
    · rename_i e hs hd
      split at h
      · rename_i he
        cases h
        have hr := run_bytes_of_string (P := P) w s d e b hs hd he
        have hge := grownCap_ge w b.size 0 e
        have hsz : (bytesRow b (grownCap w b.size 0 e)).size = grownCap w b.size 0 e := by
          unfold bytesRow
          rw [Array.size_append, Array.size_map, Array.size_replicate]
          have : b.data.size = b.size := rfl
          omega
        refine ⟨_, _, hr, ?_⟩
        refine Exists.imp (fun _ h => h.anyVc) (Post.allocF (w := w) (z := .ints .u8 b.size (strF b)) (v := .slice G.length [] 0 1 b.size none) (cs := bytesRow b (grownCap w b.size 0 e)) (ty := e)
          (fr := ((bytesRow b (grownCap w b.size 0 e)).size, (bytesRow b (grownCap w b.size 0 e)).size + 1)) ⟨fun i hi h => by simp only at h; omega, by simp⟩ (w.drew.alloc (.cells (bytesRow b (grownCap w b.size 0 e)) e ((bytesRow b (grownCap w b.size 0 e)).size, (bytesRow b (grownCap w b.size 0 e)).size + 1))) rfl rfl rfl rfl (hf G.length (Nat.le_refl _) (by simp)) hsim.ro ?_ ?_ ?_)
        · show b.size ≤ _
          rw [hsz]; exact hge
        · refine ⟨by simp only [T.size, List.length_take, Array.length_toList, hsz]; omega, fun j hj => ?_⟩
          have hj' : j < b.data.size := hj
          simp only [T.size]
          rw [List.getElem?_take_of_lt hj]
          simp only [bytesRow, Array.toList_append, Array.toList_map, Array.toList_replicate]
          rw [List.getElem?_append_left (by simpa using hj')]
          have e1 : b.data[j]? = some b.data[j] := Array.getElem?_eq_getElem hj'
          simp [strF, e1, List.getD_eq_getElem?_getD]
        · intro ρ' _ hn
          exact .inl ⟨_, _, hn, rfl, by decide, .inl ⟨grownCap w b.size 0 e, by simp, by rw [hsz]; simp, hge⟩⟩
      · cases h
    · cases h
  · cases h
def evMark (P : Program) (G : Heap) (s d : TypeId) : T → Option Res
  | .slice id path lo m len (some c) => match P.underlying s with
    | some (.slice e) => match P.underlying e with
      | some (.int .u8) => bif Nat.beq s d then match hget G id with
          | some tr => some ⟨true, .slice id path lo m len (some c), hset G id (some tr), 2 ^ id, 2 ^ id⟩
          | none => none
        else none
      | _ => none
    | _ => none
  | .slice id path lo m len none => match P.underlying s with
    | some (.slice e) => match P.underlying e with
      | some (.int .u8) => bif Nat.beq s d && Nat.blt 0 len then match hget G id with
          | some tr => some ⟨true, .slice id path lo m len none, hset G id (some tr), 2 ^ id, 2 ^ id⟩
          | none => none
        else none
      | _ => none
    | _ => none
  | _ => none
theorem mark_run {s e : TypeId} {w : World} {b off n c : Nat} {cs : Array Value} {ty : TypeId} {fr : Nat × Nat} (hs : P.underlying s = some (.slice e)) (he : P.underlying e = some (.int .u8)) (h : w.heap[b]? = some (.cells cs ty fr)) :
    (convert s s (.slice (some ⟨b, off, none⟩) n c)).run P w = .ok (.slice (some ⟨b, off, none⟩) n c) (w.freeze ⟨b, cs.size, none⟩ 1) := by
  have hsh : w.shape? b = some (ty, cs.size) := by
    unfold World.shape?
    rw [h]
  simp [convert, run_underlying hs, run_underlying he, markStringish, hsh]
theorem mark_heap {w : World} {b : Nat} {cs : Array Value} {ty : TypeId} {fr : Nat × Nat} (h : w.heap[b]? = some (.cells cs ty fr)) (h1 : ∀ i, i < cs.size → ¬(fr.1 ≤ i ∧ i < fr.2)) (h2 : fr.1 ≤ fr.2) :
    ∃ fr', (w.freeze ⟨b, cs.size, none⟩ 1).heap[b]? = some (.cells cs ty fr') ∧ (∀ i, i < cs.size → ¬(fr'.1 ≤ i ∧ i < fr'.2)) ∧ fr'.1 ≤ fr'.2 ∧ (∀ k, k ≠ b → (w.freeze ⟨b, cs.size, none⟩ 1).heap[k]? = w.heap[k]?) ∧
      (w.freeze ⟨b, cs.size, none⟩ 1).heap.size = w.heap.size := by
  obtain ⟨lo, hi⟩ := fr
  unfold World.freeze
  rw [if_neg (by decide)]
  refine ⟨if lo == hi then (cs.size, cs.size + 1) else (min lo cs.size, max hi (cs.size + 1)), ?_, ?_, ?_, ?_, ?_⟩
  · simp only [Array.getElem?_modify, if_true, h, Option.map_some]
  · intro i hi' hc
    by_cases e : lo = hi
    · simp only [e, beq_self_eq_true, if_true] at hc
      omega
    · have e' : (lo == hi) = false := by simpa using e
      simp only [e', Bool.false_eq_true, if_false] at hc
      have := h1 lo
      simp only at h2 this
      omega
  · by_cases e : lo = hi
    · simp [e]
    · have e' : (lo == hi) = false := by simpa using e
      simp only [e', Bool.false_eq_true, if_false]
      simp only at h2
      omega
  · intro k hk
    simp only [Array.getElem?_modify]
    rw [if_neg (fun e => hk e.symm)]
  · simp
theorem Post.marked {ρ : Rho} {G : Heap} {w w' : World} {v tr : T} {v' : Value} {id b sz : Nat} (hid : hget G id = some tr) (hr : ρ id = some (b, sz)) (hsim : Sim (bitK (2 ^ id)) ρ G w) (hblk : Blk ρ tr (b, sz) w') (hfr : ∀ k, k ≠ b → w'.heap[k]? = w.heap[k]?) (hs : w'.heap.size = w.heap.size)
    (ho : w'.os = w.os) (ht : w'.tape = w.tape) (hu : w'.output = w.output) (hv : (R ρ v).v v') (vc : Bool) : Post ρ ρ G w ⟨vc, v, hset G id (some tr), 2 ^ id, 2 ^ id⟩ v' w' where
  ext := Rho.Ext.refl ρ
  dom := fun _ _ => rfl
  val := hv
  sim := fun k t p hk hg hp => by
    rcases hk with hk | hk
    · have := za7 hg
      simp only [zb7] at this
      omega
    · have := tb_eq hk
      subst this
      rw [zc8 _ (za7 hid)] at hg
      cases hg
      rw [hr] at hp
      cases hp
      exact hblk
  vac := fun k t hk hg hp => by
    rcases hk with hk | hk
    · have := za7 hg
      simp only [zb7] at this
      omega
    · have := tb_eq hk
      subst this
      rw [hr] at hp
      cases hp
  new := fun k t p hk hg => by
    have := za7 hg
    simp only [zb7] at this
    omega
  inj := fun k k' t t' p p' hk _ hg => by
    have := za7 hg
    simp only [zb7] at this
    omega
  ro := fun _ _ h => .inl h
  dis := fun k t p hk hg hp => by
    rcases hk with hk | hk
    · have := za7 hg
      simp only [zb7] at this
      omega
    · have := tb_eq hk
      subst this
      exact hsim.dis _ tr p (zf6 _) hid hp
  frame := fun b' _ hne => hfr b' (fun e => hne id _ (za7 hid) (zf6 id) hr e.symm)
  size := by rw [hs]; exact Nat.le_refl _
  os := ho
  tape := ht
  output := hu
theorem evMark_sound {G : Heap} {s d : TypeId} {x : T} {r : Res} {ρ : Rho} {x' : Value} {w : World} (h : evMark P G s d x = some r) (hx : (R ρ x).v x') (hsim : Sim (bitK r.t) ρ G w) :
    ∃ v' w', (convert s d x').run P w = .ok v' w' ∧ ∃ ρ', Post ρ ρ' G w r v' w' := by
  have key : ∀ {id b off n c sz : Nat} {e : TypeId} {tr : T} {v : T}, P.underlying s = some (.slice e) → P.underlying e = some (.int .u8) → s = d → hget G id = some tr → ρ id = some (b, sz) → Sim (bitK (2 ^ id)) ρ G w → (R ρ v).v (.slice (some ⟨b, off, none⟩) n c) →
      ∃ v' w', (convert s d (.slice (some ⟨b, off, none⟩) n c)).run P w = .ok v' w' ∧ ∃ ρ', Post ρ ρ' G w ⟨true, v, hset G id (some tr), 2 ^ id, 2 ^ id⟩ v' w' := by
    intro id b off n c sz e tr v hs he hsd hid hr hsim hv
    subst hsd
    obtain ⟨cs, ty, fr, g1, g2, g3, g4, g5, g6⟩ := hsim.blk id tr _ (zf6 id) hid hr
    obtain ⟨fr', a1, a2, a3, a4, a5⟩ := mark_heap g1 g5 g6
    have hos : ∀ (a : Addr) (k : Nat), (w.freeze a k).os = w.os ∧ (w.freeze a k).tape = w.tape ∧ (w.freeze a k).output = w.output := fun a k => by
      unfold World.freeze
      split <;> exact ⟨rfl, rfl, rfl⟩
    obtain ⟨o1, o2, o3⟩ := hos ⟨b, cs.size, none⟩ 1
    exact ⟨_, _, mark_run hs he g1, ρ, Post.marked hid hr hsim ⟨cs, ty, fr', a1, g2, g3, g4, a2, a3⟩ a4 a5 o1 o2 o3 hv true⟩
  unfold evMark at h
  split at h
  · rename_i id path lo m len c
    split at h
    · rename_i e hs
      split at h
      · rename_i he
        cases hb : Nat.beq s d with
        | false => rw [hb] at h; cases h
        | true =>
          rw [hb] at h
          have hsd := Nat.eq_of_beq_eq_true hb
          simp only [cond_true] at h
          split at h
          · rename_i tr hid
            cases h
            have hx2 := hx
            obtain ⟨b, sz, hr, hq⟩ := zd8 hx
            simp only [zc7] at hq
            subst hq
            exact key hs he hsd hid hr hsim hx2
          · cases h
      · cases h
    · cases h
  · rename_i id path lo m len
    split at h
    · rename_i e hs
      split at h
      · rename_i he
        cases hb : (Nat.beq s d && Nat.blt 0 len) with
        | false => rw [hb] at h; cases h
        | true =>
          rw [hb] at h
          simp only [Bool.and_eq_true] at hb
          have hsd := Nat.eq_of_beq_eq_true hb.1
          have hlen : 0 < len := by simpa using hb.2
          simp only [cond_true] at h
          split at h
          · rename_i tr hid
            cases h
            have hx2 := hx
            rcases hx with ⟨b, sz, hr, _, _, (⟨c, rfl, _⟩ | ⟨h0, _⟩)⟩ | ⟨_, _, h0, _⟩
            · exact key hs he hsd hid hr hsim hx2
            · omega
            · omega
          · cases h
      · cases h
    · cases h
  · cases h
def evLenF : T → Option T
  | .fsi _ n _ _ => some (.num n)
  | .fsr _ n _ _ => some (.num n)
  | .str s => some (.num s.size)
  | .slen n => some (.num n)
  | _ => none
theorem evLenF_sound {t ty : TypeId} {x v : T} {ρ : Rho} {x' : Value} (hu : (∃ e, P.underlying t = some (.slice e)) ∨ P.underlying t = some .string) (hk : isStr x = true ↔ P.underlying t = some .string) (h : evLenF x = some v) (hx : (R ρ x).v x') (w : World) :
    ∃ v', (Builtin.len_ #[t] ty #[x']).run P w = .ok v' w ∧ (R ρ v).v v' := by
  unfold evLenF at h
  split at h
  · cases h
    obtain ⟨a, c, rfl, _⟩ := hx
    rcases hu with ⟨e, hu⟩ | hu
    · exact ⟨_, by simp [Builtin.len_, run_underlying hu, goInt], rfl⟩
    · exact absurd (hk.2 hu) (by simp [isStr])
  · cases h
    obtain ⟨a, c, rfl, _⟩ := hx
    rcases hu with ⟨e, hu⟩ | hu
    · exact ⟨_, by simp [Builtin.len_, run_underlying hu, goInt], rfl⟩
    · exact absurd (hk.2 hu) (by simp [isStr])
  · cases h
    obtain rfl : x' = _ := hx
    have hu := hk.1 rfl
    exact ⟨_, by simp [Builtin.len_, run_underlying hu, goInt], rfl⟩
  · cases h
    obtain ⟨a, l, c, rfl, rfl⟩ := hx
    rcases hu with ⟨e, hu⟩ | hu
    · exact ⟨_, by simp [Builtin.len_, run_underlying hu, goInt], rfl⟩
    · exact absurd (hk.2 hu) (by simp [isStr])
  · cases h
def isStrTy (P : Program) (t : TypeId) : Option Bool :=
  match P.underlying t with
  | some (.slice _) => some false
  | some .string => some true
  | _ => none
def evLen2 (P : Program) (t : TypeId) (x : T) : Option T :=
  match isStrTy P t with
  | some b => bif b == isStr x then evLenF x else none
  | none => none
theorem evLen2_sound {t ty : TypeId} {x v : T} {ρ : Rho} {x' : Value} (h : evLen2 P t x = some v) (hx : (R ρ x).v x') (w : World) : ∃ v', (Builtin.len_ #[t] ty #[x']).run P w = .ok v' w ∧ (R ρ v).v v' := by
  unfold evLen2 at h
  split at h
  · rename_i b hb
    cases hk : (b == isStr x) with
    | false => rw [hk] at h; cases h
    | true =>
      rw [hk] at h
      have hk := eq_of_beq hk
      simp only [cond_true] at h
      unfold isStrTy at hb
      split at hb
      · rename_i e hu
        cases hb
        exact evLenF_sound (.inl ⟨e, hu⟩) ⟨fun h => (by rw [← hk] at h; cases h), fun h => (by rw [hu] at h; cases h)⟩ h hx w
      · rename_i hu
        cases hb
        exact evLenF_sound (.inr hu) ⟨fun _ => hu, fun _ => hk.symm⟩ h hx w
      · cases hb
  · cases h
def evCap2 (P : Program) (t : TypeId) (x : T) : Option T :=
  match P.underlying t, x with
  | some (.slice _), .fsi _ _ _ (some c) => some (.num c)
  | some (.slice _), .fsr _ _ _ (some c) => some (.num c)
  | some (.slice _), .slice _ _ _ _ _ (some c) => some (.num c)
  | some (.slice _), .nilslice => some (.num 0)
  | _, _ => none
theorem evCap2_sound {t ty : TypeId} {x v : T} {ρ : Rho} {x' : Value} (h : evCap2 P t x = some v) (hx : (R ρ x).v x') (w : World) : ∃ v', (Builtin.cap_ #[t] ty #[x']).run P w = .ok v' w ∧ (R ρ v).v v' := by
  unfold evCap2 at h
  split at h
  · rename_i hu
    cases h
    obtain ⟨a, c, rfl, _, h1, _⟩ := hx
    rw [← h1 _ rfl]
    exact ⟨_, by simp [Builtin.cap_, run_underlying hu, goInt], rfl⟩
  · rename_i hu
    cases h
    obtain ⟨a, c, rfl, _, h1, _⟩ := hx
    rw [← h1 _ rfl]
    exact ⟨_, by simp [Builtin.cap_, run_underlying hu, goInt], rfl⟩
  · rename_i hu
    cases h
    obtain ⟨b, sz, hr, hq⟩ := zd8 hx
    simp only [zc7] at hq
    subst hq
    exact ⟨_, by simp [Builtin.cap_, run_underlying hu, goInt], rfl⟩
  · rename_i hu
    cases h
    obtain rfl : x' = _ := hx
    exact ⟨.int .i64 0, by simp [Builtin.cap_, run_underlying hu, goInt], rfl⟩
  · cases h
def evMM (mx : Bool) : T → T → Option T
  | .num x, .num y => some (.num (bif mx then max x y else min x y))
  | .num x, .int .i64 y => some (.num (bif mx then max x y else min x y))
  | .int .i64 x, .num y => some (.num (bif mx then max x y else min x y))
  | .int k x, .int _ y => bif mx then some (.int k (if y > x then y else x)) else none
  | _, _ => none
theorem evMM_min {x y v : T} {ρ : Rho} {x' y' : Value} {tys : Array TypeId} {ty : TypeId} (h : evMM false x y = some v) (hx : (R ρ x).v x') (hy : (R ρ y).v y') (w : World) : ∃ v', (Builtin.min_ tys ty #[x', y']).run P w = .ok v' w ∧ (R ρ v).v v' := by
  have key : ∀ (x y : Int), ∃ v', (Builtin.min_ tys ty #[.int .i64 x, .int .i64 y]).run P w = .ok v' w ∧ (R ρ (.num (bif false then max x y else min x y))).v v' := fun x y => by
    refine ⟨.int .i64 (if y < x then y else x), by simp [Builtin.min_, Builtin.min2], ?_⟩
    show Value.int _ _ = Value.int _ _
    simp only [cond_false]
    congr 1
    by_cases h : y < x
    · rw [if_pos h]; omega
    · rw [if_neg h]; omega
  unfold evMM at h
  split at h
  · cases h; obtain rfl : x' = _ := hx; obtain rfl : y' = _ := hy; exact key _ _
  · cases h; obtain rfl : x' = _ := hx; obtain rfl : y' = _ := hy; exact key _ _
  · cases h; obtain rfl : x' = _ := hx; obtain rfl : y' = _ := hy; exact key _ _
  · cases h
  · cases h
theorem evMM_max {x y v : T} {ρ : Rho} {x' y' : Value} {tys : Array TypeId} {ty : TypeId} (h : evMM true x y = some v) (hx : (R ρ x).v x') (hy : (R ρ y).v y') (w : World) : ∃ v', (Builtin.max_ tys ty #[x', y']).run P w = .ok v' w ∧ (R ρ v).v v' := by
  have key : ∀ (x y : Int), ∃ v', (Builtin.max_ tys ty #[.int .i64 x, .int .i64 y]).run P w = .ok v' w ∧ (R ρ (.num (bif true then max x y else min x y))).v v' := fun x y => by
    refine ⟨.int .i64 (if y > x then y else x), by simp [Builtin.max_, Builtin.max2], ?_⟩
    show Value.int _ _ = Value.int _ _
    simp only [cond_true]
    congr 1
    by_cases h : y > x
    · rw [if_pos h]; omega
    · rw [if_neg h]; omega
  unfold evMM at h
  split at h
  · cases h; obtain rfl : x' = _ := hx; obtain rfl : y' = _ := hy; exact key _ _
  · cases h; obtain rfl : x' = _ := hx; obtain rfl : y' = _ := hy; exact key _ _
  · cases h; obtain rfl : x' = _ := hx; obtain rfl : y' = _ := hy; exact key _ _
  · simp only [cond_true, Option.some.injEq] at h
    subst h
    obtain rfl : x' = _ := hx
    obtain rfl : y' = _ := hy
    exact ⟨_, by simp [Builtin.max_, Builtin.max2], rfl⟩
  · cases h
def evAppF (P : Program) (G : Heap) (t u : TypeId) (s x : T) : Option Res :=
  match elemO P t with
  | none => none
  | some (_, i, z) => bif !(isRow P u && Nat.beq i.size 1 && Nat.beq z.cells.size 1) then none else
    match contI G x, s with
    | some (vc, k, m, g, tm), .fsi k' n f (some c) => bif decide (k = k') then some ⟨vc && (decide (c < n + m) && sizeB i (n + m)), .slice G.length [] 0 1 (n + m) none, G ++ [some (.ints k (n + m) (catF n f g))], tm, 0⟩ else none
    | _, _ => none
theorem evAppF_sound {G : Heap} {t u : TypeId} {s x : T} {r : Res} {ρ : Rho} {s' x' : Value} {w : World} {ty : TypeId} (h : evAppF P G t u s x = some r) (hvc : r.vc = true) (hs : (R ρ s).v s') (hx : (R ρ x).v x') (hsim : Sim (bitK r.t) ρ G w) (hf : fresh ρ G.length r.G.length) :
    ∃ v' w', (Builtin.append_ #[t, u] ty #[s', x']).run P w = .ok v' w' ∧ ∃ ρ', Post ρ ρ' G w r v' w' := by
  unfold evAppF at h
  split at h
  · cases h
  · rename_i e i z he
    cases hk : (isRow P u && Nat.beq i.size 1 && Nat.beq z.cells.size 1) with
    | false => rw [hk] at h; cases h
    | true =>
      rw [hk] at h
      simp only [Bool.not_true, cond_false] at h
      simp only [Bool.and_eq_true] at hk
      obtain ⟨⟨hu, hs1⟩, hz1⟩ := hk
      have hs1 := Nat.eq_of_beq_eq_true hs1
      have hz1 := Nat.eq_of_beq_eq_true hz1
      split at h
      · rename_i vc k m g tm k' n f c hc
        cases hkk : decide (k = k') with
        | false => rw [hkk] at h; cases h
        | true =>
          rw [hkk] at h
          simp only [decide_eq_true_eq] at hkk
          subst hkk
          cases h
          simp only [Bool.and_eq_true, decide_eq_true_eq] at hvc
          obtain ⟨hv1, hv2, hv3⟩ := hvc
          obtain ⟨hb1, hb2⟩ := zi7 hv3
          have hh := zh4 (P := P) hc hv1 hx (fun _ h => h) hsim
          have hs' : Frz ρ.ro 1 n (fun i cs => cs = [.int k (f i)]) (some c) s' := hs
          obtain ⟨a, c', cs, rfl, h1, h2, h3, h4, h5⟩ := Frz.first (P := P) hs' hsim.ro
          have hcc : c' = c := h2 c rfl
          subst hcc
          have e1 := Frz.ints h3 h4
          subst e1
          have hr := app_grow (P := P) (ty := ty) he hu hs1 (h5 w.drew rfl) hh hv2 hb1 hb2
          have hge := grownCap_ge w (n + m) c' e
          have hfr : ρ G.length = none := hf G.length (Nat.le_refl _) (by simp)
          have hsz : ((zb2 k n f).toArray ++ (zb2 k m g).toArray ++ Builtin.zeroCells z.cells (grownCap w (n + m) c' e - (n + m))).size = grownCap w (n + m) c' e := zq8 hz1 (za5 _ _ _) (za5 _ _ _) hge
          refine ⟨_, _, hr, ?_⟩
          refine Exists.imp (fun _ h => h.anyVc) (Post.alloc (w := w) (z := .ints k (n + m) (catF n f g)) (v := .slice G.length [] 0 1 (n + m) none) (ty := e) (w.drew.alloc (.cells _ e)) rfl rfl rfl rfl hfr hsim.ro ?_ ?_ ?_)
          · show n + m ≤ _
            rw [hsz]; exact hge
          · show (R ρ (.ints k (n + m) (catF n f g))).c (List.take (n + m) _)
            simp only [Array.toList_append]
            rw [← zq3, List.take_append_of_le_length (by rw [za5]; exact Nat.le_refl _), List.take_of_length_le (by rw [za5]; exact Nat.le_refl _)]
            exact zn2 _ _ _
          · intro ρ' _ hn'
            exact .inl ⟨_, _, hn', rfl, by decide, .inl ⟨grownCap w (n + m) c' e, by simp, by rw [hsz, Nat.zero_add, Nat.mul_one], hge⟩⟩
      · cases h
def evAppF2 (P : Program) (G : Heap) (t u : TypeId) (s x : T) : Option Res :=
  match evAppF P G t u s x with
  | some r => some r
  | none => zs4 P G t u s x
theorem evAppF2_sound {G : Heap} {t u : TypeId} {s x : T} {r : Res} {ρ : Rho} {s' x' : Value} {w : World} {ty : TypeId} (h : evAppF2 P G t u s x = some r) (hvc : r.vc = true) (hs : (R ρ s).v s') (hx : (R ρ x).v x') (hsim : Sim (bitK r.t) ρ G w) (hf : fresh ρ G.length r.G.length) :
    ∃ v' w', (Builtin.append_ #[t, u] ty #[s', x']).run P w = .ok v' w' ∧ ∃ ρ', Post ρ ρ' G w r v' w' := by
  unfold evAppF2 at h
  split at h
  · rename_i r' h1
    cases h
    exact evAppF_sound h1 hvc hs hx hsim hf
  · exact evAppendZ_sound h hvc hs hx hsim hf
def evBuiltinF (P : Program) (G : Heap) (b : Builtin) (tys : List TypeId) (args : List T) : Option Res :=
  match b, tys, args with
  | .len, [t], [x] => val1 G (evLen2 P t x)
  | .cap, [t], [x] => val1 G (evCap2 P t x)
  | .append, [t, u], [s, x] => evAppF2 P G t u s x
  | .min, _, [x, y] => val1 G (evMM false x y)
  | .max, _, [x, y] => val1 G (evMM true x y)
  | _, _, _ => none
def evOpF (P : Program) (es : Operand → T) (G : Heap) (o : Op) : Option Res :=
  match o with
  | .load t a => evLoadF P G t (es a)
  | .nilCheck x => match es x with
    | .fp u => some (pureR G true (.fp u))
    | _ => none
  | .binOp op _ x y _ => match es x, es y with
    | .num a, .num b => val G (evNum op a .i64 b)
    | .num a, .int k b => val G (evNum op a k b)
    | .int .i64 a, .num b => val G (evNum op a .i64 b)
    | _, _ => none
  | .unOp .neg _ x => match es x with
    | .num z => some (pureR G (in64 (0 - z)) (.num (0 - z)))
    | _ => none
  | .convert s d x => match es x with
    | .num z => match P.underlying s, P.underlying d with
      | some _, some (.int .i64) => some (pureR G (in64 z) (.num z))
      | _, _ => none
    | .str b => evOfStr P G s d (.str b)
    | x => match evMark P G s d x with
      | some r => some r
      | none => evToStr P G s d x
  | .fieldAddr t x f => val1 G (evFldAddrF P t f (es x))
  | .indexAddr t x i => val G (evIdxAddrF P t (es x) (unnum (es i)))
  | .slice t x lo hi mx => match mx with
    | none => val G (evSliceF P t (es x) (lo.map fun x => unnum (es x)) (hi.map fun x => unnum (es x)))
    | some m => match hi with
      | some h => val G (evSlice3F P t (es x) (lo.map fun x => unnum (es x)) (unnum (es h)) (unnum (es m)))
      | none => none
  | .sliceToArrayPointer t x => val G (evArrPtrF P t (es x))
  | .call c => match c.callee with
    | .builtin b => evBuiltinF P G b c.argTypes.toList (c.args.toList.map es)
    | _ => none
  | _ => none
theorem evOpF_sound {es : Operand → T} {ρm : Operand → Value} {G : Heap} {o : Oper} {r : Res} {ρ : Rho} {w : World}
    (h : evOpF P es G o.op = some r) (hvc : r.vc = true) (hes : ∀ x ∈ opnds o.op, (R ρ (es x)).v (ρm x)) (hsim : Sim (bitK r.t) ρ G w) (hf : fresh ρ G.length r.G.length) :
    OpOK P ρm o ρ G w r := by
  obtain ⟨dst, op, type, pos, after, guard⟩ := o
  simp only at h hes
  unfold evOpF at h
  split at h
  · rename_i t a
    obtain ⟨v', h1, h2⟩ := evLoadF_sound h (hes a (by simp [opnds])) hsim.ro
    simp only [OpOK, execOp, Sem.run_bind, h1, Result.andThen_ok, Sem.run_pure, Lands]
    exact h2
  · rename_i x
    have hx := hes x (by simp [opnds])
    split at h
    · rename_i u he
      cases h
      rw [he] at hx
      have hx2 := hx
      obtain ⟨b, off, cs, hxe, _⟩ := hx
      rw [hxe] at hx2
      simp only [OpOK, execOp, hxe, Sem.run_pure, Lands]
      exact ⟨ρ, Post.pure hx2 0⟩
    · cases h
  · rename_i op t x y yt
    have hx := hes x (by simp [opnds])
    have hy := hes y (by simp [opnds])
    have key : ∀ {a b : Int} {k : IntKind}, ρm x = .int .i64 a → ρm y = .int k b → val G (evNum op a k b) = some r → OpOK P ρm ⟨dst, .binOp op t x y yt, type, pos, after, guard⟩ ρ G w r := by
      intro a b k ha hb h
      unfold val at h
      split at h
      · rename_i vc v hv
        cases h
        obtain ⟨v', h1, h2⟩ := evNum_sound (P := P) (t := t) (ρ := ρ) hv hvc ha hb w
        refine zf9 (s := do eqGuard op t x y (ρm x) (ρm y); binOp op t (ρm x) (ρm y)) rfl ⟨v', ?_, h2⟩
        rw [Sem.run_bind, eqGuard_int (.inl ⟨_, _, _, _, ha, hb⟩)]
        exact h1
      · cases h
    split at h
    · rename_i a b hxe hye
      rw [hxe] at hx
      rw [hye] at hy
      exact key hx hy h
    · rename_i a k b hxe hye
      rw [hxe] at hx
      rw [hye] at hy
      exact key hx hy h
    · rename_i a b hxe hye
      rw [hxe] at hx
      rw [hye] at hy
      exact key hx hy h
    · cases h
  · rename_i t x
    have hx := hes x (by simp [opnds])
    split at h
    · rename_i z he
      cases h
      rw [he] at hx
      have hx' : ρm x = .int .i64 z := hx
      obtain ⟨v', h1, h2⟩ := evUn_sound (P := P) (op := .neg) (x := .int .i64 z) (ρ := ρ) rfl hx' w
      refine zf9 (s := Op.unary .neg (ρm x)) rfl ⟨v', h1, ?_⟩
      rw [zk9 hvc] at h2
      exact h2
    · cases h
  · rename_i s d x
    have hx := hes x (by simp [opnds])
    split at h
    · rename_i z he
      rw [he] at hx
      have hx' : ρm x = .int .i64 z := hx
      split at h
      · rename_i u hs hd
        cases h
        have e : evConv P s d (.int .i64 z) = some (.int .i64 (IntKind.i64.wrap z)) := by simp [evConv, hs, hd]
        obtain ⟨v', h1, h2⟩ := evConv_sound (P := P) (ρ := ρ) e hx' w
        refine zf9 (s := convert s d (ρm x)) rfl ⟨v', h1, ?_⟩
        rw [zk9 hvc] at h2
        exact h2
      · cases h
    · rename_i b he
      rw [he] at hx
      obtain ⟨v', w', h1, h2⟩ := evOfStr_sound h hx hsim hf
      simp only [OpOK, execOp, Sem.run_bind, h1, Result.andThen_ok, Sem.run_pure, Lands]
      exact h2
    · split at h
      · rename_i hm
        cases h
        obtain ⟨v', w', h1, h2⟩ := evMark_sound hm hx hsim
        simp only [OpOK, execOp, Sem.run_bind, h1, Result.andThen_ok, Sem.run_pure, Lands]
        exact h2
      · obtain ⟨v', h1, h2⟩ := evToStr_sound h hvc hx hsim
        simp only [OpOK, execOp, Sem.run_bind, h1, Result.andThen_ok, Sem.run_pure, Lands]
        exact h2
  · rename_i t x f
    have hx := hes x (by simp [opnds])
    unfold val1 at h
    split at h
    · rename_i v hv
      cases h
      exact zf9 (s := Instr.fieldAt t (ρm x) f) rfl (evFldAddrF_sound hv hx w)
    · cases h
  · rename_i t x i
    have hx := hes x (by simp [opnds])
    have hi := hes i (by simp [opnds])
    unfold val at h
    split at h
    · rename_i vc v hv
      cases h
      exact zf9 (s := Instr.indexAt t (ρm x) (ρm i)) rfl (evIdxAddrF_sound hv hvc hx (unnum_R hi) w)
    · cases h
  · rename_i t x lo hi mx
    split at h
    · unfold val at h
      split at h
      · rename_i vc v hv
        cases h
        exact zf9 (s := Instr.sliceAt t (ρm x) (lo.map ρm) (hi.map ρm) none) rfl (evSliceF_sound hv hvc (hes x (by simp [opnds]))
          (OptR_map fun y hy => unnum_R (hes y (by simp [opnds]; right; left; simpa using hy))) (OptR_map fun y hy => unnum_R (hes y (by simp [opnds]; right; right; simpa using hy))) w)
      · cases h
    · rename_i m
      split at h
      · rename_i hh
        unfold val at h
        split at h
        · rename_i vc v hv
          cases h
          exact zf9 (s := Instr.sliceAt t (ρm x) (lo.map ρm) (some (ρm hh)) (some (ρm m))) rfl (evSlice3F_sound hv hvc (hes x (by simp [opnds]))
            (OptR_map fun y hy => unnum_R (hes y (by simp [opnds]; right; left; simpa using hy))) (unnum_R (hes hh (by simp [opnds]))) (unnum_R (hes m (by simp [opnds]))) w)
        · cases h
      · cases h
  · rename_i t x
    have hx := hes x (by simp [opnds])
    unfold val at h
    split at h
    · rename_i vc v hv
      cases h
      exact zf9 (s := Instr.arrayAt t (ρm x)) rfl (evArrPtrF_sound hv hvc hx w)
    · cases h
  · rename_i c
    obtain ⟨callee, args, argTypes⟩ := c
    simp only at h
    split at h
    · rename_i b
      have hargs : VLs ρ (args.toList.map es) (args.toList.map ρm) := VLs_map fun x hx => hes x (by simpa [opnds] using hx)
      have one1 : ∀ {t : TypeId} {x : T}, argTypes.toList = [t] → args.toList.map es = [x] → ∃ y, argTypes = #[t] ∧ args.map ρm = #[y] ∧ (R ρ x).v y := by
        intro t x htys hxs
        rw [hxs] at hargs
        obtain ⟨y, ys, e1, hy, e2⟩ := hargs
        obtain rfl : ys = [] := e2
        exact ⟨y, by apply Array.ext'; simpa using htys, by apply Array.ext'; simpa using e1, hy⟩
      have two : ∀ {x x2 : T}, args.toList.map es = [x, x2] → ∃ y y2, args.map ρm = #[y, y2] ∧ (R ρ x).v y ∧ (R ρ x2).v y2 := by
        intro x x2 hxs
        rw [hxs] at hargs
        obtain ⟨y, ys, e1, hy, z, zs, e2, hz, e3⟩ := hargs
        obtain rfl : zs = [] := e3
        subst e2
        exact ⟨y, z, by apply Array.ext'; simpa using e1, hy, hz⟩
      unfold evBuiltinF at h
      split at h
      · rename_i t x htys hxs
        obtain ⟨y, ea, eb, hy⟩ := one1 htys hxs
        unfold val1 at h
        split at h
        · rename_i v hv
          cases h
          subst ea
          obtain ⟨v', h1, h2⟩ := evLen2_sound (P := P) (ty := type) hv hy w
          simp only [OpOK, execOp, resolve, eb, Sem.run_bind, Sem.run_pure, Result.andThen_ok, invoke, builtin, h1, Lands]
          exact ⟨ρ, Post.pure h2 0⟩
        · cases h
      · rename_i t x htys hxs
        obtain ⟨y, ea, eb, hy⟩ := one1 htys hxs
        unfold val1 at h
        split at h
        · rename_i v hv
          cases h
          subst ea
          obtain ⟨v', h1, h2⟩ := evCap2_sound (P := P) (ty := type) hv hy w
          simp only [OpOK, execOp, resolve, eb, Sem.run_bind, Sem.run_pure, Result.andThen_ok, invoke, builtin, h1, Lands]
          exact ⟨ρ, Post.pure h2 0⟩
        · cases h
      · rename_i t u s x htys hxs
        obtain ⟨y, z, eb, hy, hz⟩ := two hxs
        have ea : argTypes = #[t, u] := by apply Array.ext'; simpa using htys
        subst ea
        obtain ⟨v', w', h1, h2⟩ := evAppF2_sound (ty := type) h hvc hy hz hsim hf
        simp only [OpOK, execOp, resolve, eb, Sem.run_bind, Sem.run_pure, Result.andThen_ok, invoke, builtin, h1, Lands]
        exact h2
      · rename_i x y hxs
        obtain ⟨x', y', eb, hx, hy⟩ := two hxs
        unfold val1 at h
        split at h
        · rename_i v hv
          cases h
          obtain ⟨v', h1, h2⟩ := evMM_min (P := P) (tys := argTypes) (ty := type) hv hx hy w
          simp only [OpOK, execOp, resolve, eb, Sem.run_bind, Sem.run_pure, Result.andThen_ok, invoke, builtin, h1, Lands]
          exact ⟨ρ, Post.pure h2 0⟩
        · cases h
      · rename_i x y hxs
        obtain ⟨x', y', eb, hx, hy⟩ := two hxs
        unfold val1 at h
        split at h
        · rename_i v hv
          cases h
          obtain ⟨v', h1, h2⟩ := evMM_max (P := P) (tys := argTypes) (ty := type) hv hx hy w
          simp only [OpOK, execOp, resolve, eb, Sem.run_bind, Sem.run_pure, Result.andThen_ok, invoke, builtin, h1, Lands]
          exact ⟨ρ, Post.pure h2 0⟩
        · cases h
      · cases h
    · cases h
  · cases h
theorem hset_get {G : Heap} {id k : Nat} {tr : T} (h : hget G id = some tr) : hget (hset G id (some tr)) k = hget G k := by
  by_cases e : k = id
  · subst e
    rw [zc8 _ (za7 h), h]
  · exact zj4 _ e
theorem evOpF_stat {es : Operand → T} {G : Heap} {o : Op} {r : Res} (h : evOpF P es G o = some r) : Stat G r := by
  have mk : ∀ {s d : TypeId} {x : T}, evMark P G s d x = some r → Stat G r := by
    intro s d x h
    have key : ∀ {id : Nat} {tr v : T}, hget G id = some tr → Stat G ⟨true, v, hset G id (some tr), 2 ^ id, 2 ^ id⟩ := fun {id tr v} hid =>
      ⟨by simp [zb7], fun k _ hb => ⟨hb, by have := tb_eq hb; subst this; exact ⟨tr, hid⟩⟩, fun k _ _ => hset_get hid⟩
    unfold evMark at h
    split at h
    · split at h
      · split at h
        · rename_i he
          cases hb : Nat.beq s d with
          | false => rw [hb] at h; cases h
          | true =>
            rw [hb] at h
            simp only [cond_true] at h
            split at h
            · rename_i tr hid
              cases h
              exact key hid
            · cases h
        · cases h
      · cases h
    · rename_i id path lo m len
      split at h
      · split at h
        · cases hb : (Nat.beq s d && Nat.blt 0 len) with
          | false => rw [hb] at h; cases h
          | true =>
            rw [hb] at h
            simp only [cond_true] at h
            split at h
            · rename_i tr hid
              cases h
              exact key hid
            · cases h
        · cases h
      · cases h
    · cases h
  have ts : ∀ {s d : TypeId} {x : T}, evToStr P G s d x = some r → Stat G r := by
    intro s d x h
    unfold evToStr at h
    split at h
    · split at h
      · cases hst : isStr x with
        | true => rw [hst] at h; cases h
        | false =>
          rw [hst] at h
          simp only [cond_false] at h
          split at h
          · cases h; exact Stat.pure _ _ _ _
          · cases h
      · cases h
    · cases h
  have new : ∀ {vc : Bool} {v z : T} {t : Nat}, Stat G ⟨vc, v, G ++ [some z], t, 0⟩ := fun {vc v z t} =>
    ⟨by simp, fun k _ h => by simp at h, fun k hk _ => za6 hk⟩
  unfold evOpF at h
  split at h
  · unfold evLoadF at h
    split at h
    · rename_i u _
      split at h
      · rename_i n hn
        cases hb : (Nat.beq u.size n && aggIs P _ u.isAgg) with
        | false => rw [hb] at h; cases h
        | true => rw [hb] at h; cases h; exact Stat.pure _ _ _ _
      · cases h
    · cases h
  · split at h
    · cases h; exact Stat.pure _ _ _ _
    · cases h
  · split at h
    · exact ze6 h
    · exact ze6 h
    · exact ze6 h
    · cases h
  · split at h
    · cases h; exact Stat.pure _ _ _ _
    · cases h
  · split at h
    · split at h
      · cases h; exact Stat.pure _ _ _ _
      · cases h
    · unfold evOfStr at h
      simp only at h
      split at h
      · split at h
        · cases h
          exact new
        · cases h
      · cases h
    · split at h
      · rename_i hm
        cases h
        exact mk hm
      · exact ts h
  · exact zf1 h
  · exact ze6 h
  · split at h
    · exact ze6 h
    · split at h
      · exact ze6 h
      · cases h
  · exact ze6 h
  · split at h
    · unfold evBuiltinF at h
      split at h
      · exact zf1 h
      · exact zf1 h
      · unfold evAppF2 at h
        split at h
        · rename_i r' h1
          cases h
          unfold evAppF at h1
          split at h1
          · cases h1
          · rename_i e i z he
            cases hk : (isRow P _ && Nat.beq i.size 1 && Nat.beq z.cells.size 1) with
            | false => rw [hk] at h1; cases h1
            | true =>
              rw [hk] at h1
              simp only [Bool.not_true, cond_false] at h1
              split at h1
              · rename_i vc k m g tm k' n f c hc _
                cases hkk : decide (k = k') with
                | false => rw [hkk] at h1; cases h1
                | true =>
                  rw [hkk] at h1
                  cases h1
                  exact new
              · cases h1
        · exact evAppendZ_stat h
      · exact zf1 h
      · exact zf1 h
      · cases h
    · cases h
  · cases h
def numOp : Op → Bool
  | .indexAddr .. | .index .. | .slice .. | .makeSlice .. | .binOp .. | .unOp .. | .convert .. | .call _ => true
  | _ => false
def evOp2 (P : Program) (env : Env) (es : Operand → T) (G : Heap) (o : Op) : Option Res :=
  match evOpF P es G o with
  | some r => some r
  | none => bif numOp o then evOp P env (fun x => unnum (es x)) G o else evOp P env es G o
theorem evOp2_sound {env : Env} (henv : EnvOK P env) {es : Operand → T} {ρm : Operand → Value} {G : Heap} {o : Oper} {r : Res} {ρ : Rho} {w : World}
    (h : evOp2 P env es G o.op = some r) (hvc : r.vc = true) (hes : ∀ x ∈ opnds o.op, (R ρ (es x)).v (ρm x)) (hsim : Sim (bitK r.t) ρ G w) (hf : fresh ρ G.length r.G.length) :
    OpOK P ρm o ρ G w r := by
  unfold evOp2 at h
  split at h
  · rename_i hF
    cases h
    exact evOpF_sound hF hvc hes hsim hf
  · cases hn : numOp o.op with
    | true =>
      rw [hn] at h
      exact evOp_sound henv h hvc (fun x hx => unnum_R (hes x hx)) hsim hf
    | false =>
      rw [hn] at h
      exact evOp_sound henv h hvc hes hsim hf
theorem evOp2_stat {env : Env} (henv : EnvOK P env) {es : Operand → T} {G : Heap} {o : Op} {r : Res} (h : evOp2 P env es G o = some r) : Stat G r := by
  unfold evOp2 at h
  split at h
  · rename_i hF
    cases h
    exact evOpF_stat hF
  · cases hn : numOp o with
    | true => rw [hn] at h; exact evOp_stat henv h
    | false => rw [hn] at h; exact evOp_stat henv h
end
end Go.AE
namespace Go.AE
open Go
noncomputable section
def tget : List T → Nat → T
  | [], _ => .any
  | x :: _, 0 => x
  | _ :: r, n + 1 => tget r n
def tset : List T → Nat → T → List T
  | [], _, _ => []
  | _ :: r, 0, y => y :: r
  | x :: r, n + 1, y => x :: tset r n y
theorem tset_len (l : List T) (i : Nat) (y : T) : (tset l i y).length = l.length := by
  induction l generalizing i with
  | nil => rfl
  | cons x r ih => cases i <;> simp [tset, ih]
theorem tget_tset_ne {l : List T} {i j : Nat} (y : T) (h : j ≠ i) : tget (tset l i y) j = tget l j := by
  induction l generalizing i j with
  | nil => rfl
  | cons x r ih => cases i with
    | zero => cases j with
      | zero => exact absurd rfl h
      | succ j => rfl
    | succ i => cases j with
      | zero => rfl
      | succ j => simp only [tset, tget]; exact ih (by omega)
theorem tget_tset_same {l : List T} {i : Nat} (y : T) (h : i < l.length) : tget (tset l i y) i = y := by
  induction l generalizing i with
  | nil => simp at h
  | cons x r ih => cases i with
    | zero => rfl
    | succ i => simp only [tset, tget]; exact ih (by simpa using h)
theorem tget_out {l : List T} {i : Nat} (h : l.length ≤ i) : tget l i = .any := by
  induction l generalizing i with
  | nil => rfl
  | cons x r ih => cases i with
    | zero => simp at h
    | succ i => simp only [tget]; exact ih (by simpa using h)
def setD (tm : List T) : Option Tmp → T → List T
  | some d, v => tset tm d v
  | none, _ => tm
theorem setD_len (tm : List T) (d : Option Tmp) (v : T) : (setD tm d v).length = tm.length := by cases d <;> simp [setD, tset_len]
def ev (tm : List T) : Operand → T
  | .tmp t => tget tm t
  | .const v => constT v
  | .global _ => .any
  | .func f => .fn (.func f) .nil
def zj8 : T → Bool
  | .opt g _ => g
  | _ => true
def stripV : T → T
  | .opt _ v => v
  | t => t
theorem strip_R {ρ : Rho} {t : T} {x : Value} (h : (R ρ t).v x) (hg : zj8 t = true) : (R ρ (stripV t)).v x := by
  cases t <;> first | exact h | exact h.1 hg
def allG (e : Operand → T) : List Operand → Bool
  | [] => true
  | x :: r => zj8 (e x) && allG e r
theorem allG_spec {e : Operand → T} : ∀ {l : List Operand}, allG e l = true → ∀ x ∈ l, zj8 (e x) = true
  | y :: r, h, x, hx => by
    simp only [allG, Bool.and_eq_true] at h
    rcases List.mem_cons.1 hx with rfl | hx
    · exact h.1
    · exact allG_spec h.2 x hx
def mergeT (t : Bool) : T → T → Option T
  | .int k x, .int k' y => if k = k' then some (.int k (bif t then x else y)) else none
  | .bool x, .bool y => some (.bool (bif t then x else y))
  | .str x, .str y => some (.str (bif t then x else y))
  | .num x, .num y => some (.num (bif t then x else y))
  | .num x, .int .i64 y => some (.num (bif t then x else y))
  | .int .i64 x, .num y => some (.num (bif t then x else y))
  | _, _ => none
def evPick (c a b : T) : Option (Bool × T) :=
  match stripV c with
  | .bool t => match mergeT t (stripV a) (stripV b) with
    | some v => some (zj8 c && (!t || zj8 a) && (t || zj8 b), v)
    | none => none
  | _ => none
def opRes (P : Program) (env : Env) (e : Operand → T) (G : Heap) (o : Op) : Option Res :=
  match o with
  | .pick c a b => val G (evPick (e c) (e a) (e b))
  | op => match evOp2 P env (fun x => stripV (e x)) G op with
    | some r => some ⟨allG e (opnds op) && r.vc, r.v, r.G, r.t, r.w⟩
    | none => none
def allOps : Op → List Operand
  | .pick c a b => [c, a, b]
  | op => opnds op
theorem mergeT_sound {ρ : Rho} {t : Bool} {a b v : T} {a' b' : Value} (h : mergeT t a b = some v) (ha : t = true → (R ρ a).v a') (hb : t = false → (R ρ b).v b') :
    (R ρ v).v (if t = true then a' else b') := by
  unfold mergeT at h
  split at h
  · split at h
    · rename_i hk
      subst hk
      cases h
      cases t
      · obtain rfl : b' = _ := hb rfl
        rfl
      · obtain rfl : a' = _ := ha rfl
        rfl
    · cases h
  iterate 5
    · cases h
      cases t
      · obtain rfl : b' = _ := hb rfl
        rfl
      · obtain rfl : a' = _ := ha rfl
        rfl
  · cases h
theorem opRes_sound {P : Program} {env : Env} (henv : EnvOK P env) {e : Operand → T} {ρm : Operand → Value} {G : Heap} {o : Oper} {r : Res} {ρ : Rho} {w : World}
    (h : opRes P env e G o.op = some r) (hvc : r.vc = true) (he : ∀ x ∈ allOps o.op, (R ρ (e x)).v (ρm x)) (hsim : Sim (bitK r.t) ρ G w) (hf : fresh ρ G.length r.G.length) :
    OpOK P ρm o ρ G w r := by
  obtain ⟨dst, op, type, pos, after, guard⟩ := o
  simp only at h he
  unfold opRes at h
  split at h
  · rename_i c a b
    unfold val at h
    split at h
    · rename_i vc v hv
      cases h
      unfold evPick at hv
      split at hv
      · rename_i t ht
        split at hv
        · rename_i v' hm
          simp only [Option.some.injEq, Prod.mk.injEq] at hv
          obtain ⟨h1, rfl⟩ := hv
          simp only [pureR] at hvc
          subst hvc
          simp only [Bool.and_eq_true, Bool.or_eq_true, Bool.not_eq_true'] at h1
          have hc := strip_R (he c (by simp [allOps])) h1.1.1
          rw [ht] at hc
          have hcv : ρm c = .bool t := hc
          have := mergeT_sound (a' := ρm a) (b' := ρm b) hm (fun e => strip_R (he a (by simp [allOps])) (h1.1.2.resolve_left (by simp [e])))
            (fun e => strip_R (he b (by simp [allOps])) (h1.2.resolve_left (by simp [e])))
          simp only [OpOK, execOp, hcv, asBool, Sem.run_bind, Sem.run_pure, Result.andThen_ok, Lands]
          exact ⟨ρ, Post.pure this 0⟩
        · cases hv
      · cases hv
    · cases h
  · rename_i op' hnp
    split at h
    · rename_i r' hr
      cases h
      simp only [Bool.and_eq_true] at hvc
      have hops : allOps op = opnds op := by
        cases op <;> first | rfl | exact (hnp _ _ _ rfl).elim
      rw [hops] at he
      have := evOp2_sound (o := ⟨dst, op, type, pos, after, guard⟩) (r := r') henv hr hvc.2 (fun x hx => strip_R (he x hx) (allG_spec hvc.1 x hx)) hsim hf
      unfold OpOK at this ⊢
      refine Lands.mono ?_ this
      rintro v' w' ⟨ρ', hp⟩
      exact ⟨ρ', ⟨hp.ext, hp.dom, hp.val, hp.sim, hp.vac, hp.new, hp.inj, hp.frame, hp.size, hp.os, hp.tape, hp.output, hp.ro, hp.dis⟩⟩
    · cases h
theorem opRes_stat {P : Program} {env : Env} (henv : EnvOK P env) {e : Operand → T} {G : Heap} {o : Op} {r : Res} (h : opRes P env e G o = some r) : Stat G r := by
  unfold opRes at h
  split at h
  · exact ze6 h
  · split at h
    · rename_i r' hr
      cases h
      have := evOp2_stat henv hr
      exact ⟨this.len, this.wt, this.old⟩
    · cases h
def allN (f : Nat → Bool) : Nat → Bool
  | 0 => true
  | n + 1 => f n && allN f n
theorem zg9 {f : Nat → Bool} : ∀ {n : Nat}, allN f n = true → ∀ i, i < n → f i = true
  | n + 1, h, i, hi => by
    simp only [allN, Bool.and_eq_true] at h
    by_cases e : i = n
    · rw [e]; exact h.1
    · exact zg9 h.2 i (by omega)
def noPtr : T → Bool
  | .ptr .. | .slice .. => false
  | .fn _ c => noPtr c
  | .opt _ t => noPtr t
  | .tup t => noPtr t
  | .cons h t => noPtr h && noPtr t
  | .rows n _ f => allN (fun i => noPtr (f i)) n
  | _ => true
theorem noPtr_R {t : T} (h : noPtr t = true) (ρ ρ' : Rho) (hro : ∀ b cs, ρ.ro b = some cs → ρ'.ro b = some cs) : (∀ cs, (R ρ t).c cs → (R ρ' t).c cs) ∧ (∀ x, (R ρ t).v x → (R ρ' t).v x) ∧ (∀ xs, (R ρ t).l xs → (R ρ' t).l xs) := by
  induction t with
  | ptr => cases h
  | slice => cases h
  | fn f cap ih =>
    have ih := ih h
    have hp : ∀ x, (∃ vs, x = Value.func f #[] vs ∧ (R ρ cap).l vs.toList) → (∃ vs, x = Value.func f #[] vs ∧ (R ρ' cap).l vs.toList) := by
      rintro x ⟨vs, hx, hl⟩; exact ⟨vs, hx, ih.2.2 _ hl⟩
    refine ⟨?_, hp, fun _ h => h⟩
    rintro cs ⟨x, hcs, hx⟩; exact ⟨x, hcs, hp x hx⟩
  | opt g t ih => exact ⟨fun _ h => h, fun x hx => ⟨fun hg => (ih h).2.1 _ (hx.1 hg), hx.2⟩, fun _ h => h⟩
  | tup t ih => exact ⟨fun _ h => h, fun x ⟨vs, hx, hl⟩ => ⟨vs, hx, (ih h).2.2 _ hl⟩, fun _ h => h⟩
  | cons a b iha ihb =>
    simp only [noPtr, Bool.and_eq_true] at h
    have iha := iha h.1
    have ihb := ihb h.2
    refine ⟨?_, ?_, ?_⟩
    · rintro cs ⟨x, y, e, hx, hy⟩; exact ⟨x, y, e, iha.1 _ hx, ihb.1 _ hy⟩
    · rintro v ⟨cs, hv, x, y, e, hx, hy⟩; exact ⟨cs, hv, x, y, e, iha.1 _ hx, ihb.1 _ hy⟩
    · rintro xs ⟨y, ys, e, hy, hys⟩; exact ⟨y, ys, e, iha.2.1 _ hy, ihb.2.2 _ hys⟩
  | rows n m f ih =>
    have h' := zg9 h
    refine ⟨?_, ?_, fun _ h => h⟩
    · rintro cs ⟨e, hx⟩; exact ⟨e, fun i hi => (ih i (h' i hi)).1 _ (hx i hi)⟩
    · rintro v ⟨cs, hv, e, hx⟩; exact ⟨cs, hv, e, fun i hi => (ih i (h' i hi)).1 _ (hx i hi)⟩
  | fsi k n f cap =>
    have hp : ∀ x, (R ρ (.fsi k n f cap)).v x → (R ρ' (.fsi k n f cap)).v x := fun x hx => Frz.mono (m := 1) (n := n) (q := fun i cs => cs = [.int k (f i)]) (cap := cap) hro (fun _ _ _ h => h) hx
    exact ⟨fun cs ⟨x, e, hx⟩ => ⟨x, e, hp x hx⟩, hp, fun _ h => h⟩
  | fsr m n f cap ih =>
    have hp : ∀ x, (R ρ (.fsr m n f cap)).v x → (R ρ' (.fsr m n f cap)).v x := fun x hx => Frz.mono (m := m) (n := n) (q := fun i cs => (R ρ.bare (f i)).c cs) (cap := cap) hro (fun i _ _ h' => (zt1 (Rho.Ext.bare hro) (f i)).1 _ h') hx
    exact ⟨fun cs ⟨x, e, hx⟩ => ⟨x, e, hp x hx⟩, hp, fun _ h => h⟩
  | fp t ih =>
    have hp : ∀ x, (R ρ (.fp t)).v x → (R ρ' (.fp t)).v x := fun x hx => FrzP.mono (m := t.size) (q := (R ρ.bare t).c) hro (fun _ h' => (zt1 (Rho.Ext.bare hro) t).1 _ h') hx
    exact ⟨fun cs ⟨x, e, hx⟩ => ⟨x, e, hp x hx⟩, hp, fun _ h => h⟩
  | _ => exact ⟨fun _ h => h, fun _ h => h, fun _ h => h⟩
def Rho.keep (ρ ρ' : Rho) : Rho := ⟨ρ.ids, ρ'.ro⟩
theorem Post.drop {ρ ρ' : Rho} {G : Heap} {w w' : World} {r : Res} {v' : Value} (hp : Post ρ ρ' G w r v' w') (hw : r.w = 0) (hv : r.G.length = G.length ∨ noPtr r.v = true) (vc : Bool) (t : Nat) :
    Post ρ (ρ.keep ρ') G w ⟨vc, r.v, G, t, 0⟩ v' w' where
  ext := ⟨fun _ _ h => h, hp.ext.ro⟩
  dom _ _ := rfl
  val := by
    rcases hv with hv | hv
    · have : ρ' = ρ.keep ρ' := by
        have h1 : ρ'.ids = ρ.ids := funext fun k => hp.dom k (by rw [hv]; omega)
        unfold Rho.keep
        rw [← h1]
      rw [← this]; exact hp.val
    · exact (noPtr_R hv ρ' (ρ.keep ρ') (fun _ _ h => h)).2.1 _ hp.val
  sim k t p hk hg := by
    rcases hk with hk | hk
    · have : k < G.length := za7 hg
      omega
    · simp at hk
  vac k t hk hg := by
    rcases hk with hk | hk
    · have : k < G.length := za7 hg
      omega
    · simp at hk
  new k t p hk hg := by
    have : k < G.length := za7 hg
    omega
  inj k k' t t' p p' hk _ hg := by
    have : k < G.length := za7 hg
    omega
  frame b hb _ := hp.frame b hb (fun k p _ hk => by rw [hw] at hk; simp at hk)
  size := hp.size
  os := hp.os
  tape := hp.tape
  output := hp.output
  ro := hp.ro
  dis k t p hk hg := by
    rcases hk with hk | hk
    · have : k < G.length := za7 hg
      omega
    · simp at hk
def guardOf (ops : List Oper) (tm : List T) : Option (Nat × Bool) → Option (Option Bool)
  | none => some none
  | some (j, want) => match ops[j]? with
    | some oj => match oj.dst with
      | some d => match tget tm d with
        | .bool b => some (some (b == want))
        | .opt g (.bool b) => some (some (g && (b == want)))
        | _ => none
      | none => none
    | none => none
def guardTmp (ops : List Oper) : Option (Nat × Bool) → List Tmp
  | none => []
  | some (j, _) => match ops[j]? with
    | some oj => oj.dst.toList
    | none => []
def stepRes0 (P : Program) (env : Env) (ops : List Oper) (tm : List T) (G : Heap) (o : Oper) : Option Res :=
  match guardOf ops tm o.guard with
  | none => none
  | some none => opRes P env (ev tm) G o.op
  | some (some gd) => match opRes P env (ev tm) G o.op with
    | some r => bif Nat.beq r.w 0 && Nat.beq r.G.length G.length then some ⟨!gd || r.vc, .opt gd r.v, G, r.t, 0⟩ else bif gd then some r else some ⟨true, .opt false (.bool false), G, 0, 0⟩
    | none => bif gd then none else some ⟨true, .opt false (.bool false), G, 0, 0⟩
def tmpsOf : List Operand → List Tmp
  | [] => []
  | .tmp t :: r => t :: tmpsOf r
  | _ :: r => tmpsOf r
theorem mem_tmpsOf {t : Tmp} : ∀ {l : List Operand}, .tmp t ∈ l → t ∈ tmpsOf l
  | x :: r, h => by
    rcases List.mem_cons.1 h with rfl | h
    · simp [tmpsOf]
    · have := mem_tmpsOf h
      cases x <;> simp [tmpsOf, this]
def reads (ops : List Oper) (o : Oper) : List Tmp := guardTmp ops o.guard ++ tmpsOf (allOps o.op)
theorem Act.eval_ev {ρ : Rho} {tm : List T} {a : Act} {x : Operand} (h : ∀ t, x = .tmp t → (R ρ (tget tm t)).v (a.tmps.getD t undef)) : (R ρ (ev tm x)).v (a.eval x) := by
  cases x with
  | tmp t => exact h t rfl
  | const v => exact constT_v ρ v
  | global g => trivial
  | func f => exact ⟨#[], rfl, rfl⟩
theorem wanted_of {ρ : Rho} {ops : Array Oper} {tm : List T} {a : Act} {o : Oper} {g : Option Bool} (h : guardOf ops.toList tm o.guard = some g)
    (hr : ∀ t ∈ guardTmp ops.toList o.guard, (R ρ (tget tm t)).v (a.tmps.getD t undef)) : Region.wanted o (yielded ops a.tmps) = g.getD true := by
  unfold Region.wanted
  cases hg : o.guard with
  | none => rw [hg] at h; cases h; rfl
  | some jw =>
    obtain ⟨j, want⟩ := jw
    rw [hg] at h hr
    simp only [guardOf] at h
    split at h
    · rename_i oj hoj
      split at h
      · rename_i d hd
        have hd' := hr d (by simp [guardTmp, hoj, hd])
        have hoj' : ops[j]? = some oj := by simpa using hoj
        have hy : yielded ops a.tmps j = match a.tmps.getD d undef with | .bool b => some b | _ => none := by
          unfold yielded
          simp only [hoj', Option.bind_some, hd]
          cases he : a.tmps[d]? with
          | none =>
            have : a.tmps.getD d undef = undef := by simp [he]
            rw [this]; rfl
          | some x =>
            have : a.tmps.getD d undef = x := by simp [he]
            rw [this]
            cases x <;> rfl
        split at h
        · rename_i b hb
          rw [hb] at hd'
          have hd'' : a.tmps.getD d undef = .bool b := hd'
          cases h
          simp only [hy, hd'', Option.getD_some]
          cases b <;> cases want <;> rfl
        · rename_i gg b hb
          rw [hb] at hd'
          cases h
          simp only [Option.getD_some, hy]
          cases gg with
          | true =>
            have hd'' : a.tmps.getD d undef = .bool b := hd'.1 rfl
            simp only [hd'', Bool.true_and]
            cases b <;> cases want <;> rfl
          | false =>
            have hd'' : a.tmps.getD d undef = undef := hd'.2 rfl
            simp only [hd'', Bool.false_and]
            rfl
        · cases h
      · cases h
    · cases h
theorem stepRes0_sound {P : Program} {env : Env} (henv : EnvOK P env) {ops : Array Oper} {tm : List T} {G : Heap} {o : Oper} {r : Res} {ρ : Rho} {a : Act} {w : World}
    (h : stepRes0 P env ops.toList tm G o = some r) (hvc : r.vc = true) (hr : ∀ t ∈ reads ops.toList o, (R ρ (tget tm t)).v (a.tmps.getD t undef))
    (hsim : Sim (bitK r.t) ρ G w) (hf : fresh ρ G.length r.G.length) :
    (Region.wanted o (yielded ops a.tmps) = true ∧ OpOK P a.eval o ρ G w r) ∨ (Region.wanted o (yielded ops a.tmps) = false ∧ ∃ ρ', Post ρ ρ' G w r undef w) := by
  have hops : ∀ x ∈ allOps o.op, (R ρ (ev tm x)).v (a.eval x) := fun x hx => Act.eval_ev fun t ht => hr t (by
    subst ht
    exact List.mem_append_right _ (mem_tmpsOf hx))
  have hg : ∀ t ∈ guardTmp ops.toList o.guard, (R ρ (tget tm t)).v (a.tmps.getD t undef) := fun t ht => hr t (List.mem_append_left _ ht)
  unfold stepRes0 at h
  split at h
  · cases h
  · rename_i hgo
    have hw := wanted_of hgo hg
    exact .inl ⟨hw, opRes_sound henv h hvc hops hsim hf⟩
  · rename_i gd hgo
    have hw := wanted_of hgo hg
    simp only [Option.getD_some] at hw
    split at h
    · rename_i r' hr'
      cases hb : (Nat.beq r'.w 0 && Nat.beq r'.G.length G.length) with
      | false =>
        rw [hb] at h
        cases gd with
        | false =>
          cases h
          refine .inr ⟨hw, ρ, ?_⟩
          have hv : (R ρ (.opt false (.bool false))).v undef := ⟨fun e => (by cases e), fun _ => rfl⟩
          exact Post.pure hv _
        | true =>
          cases h
          exact .inl ⟨hw, opRes_sound henv hr' hvc hops hsim hf⟩
      | true =>
        rw [hb] at h
        cases h
        simp only [Bool.and_eq_true] at hb
        have hlen := Nat.eq_of_beq_eq_true hb.2
        cases gd with
        | false =>
          refine .inr ⟨hw, ρ, ?_⟩
          have hv : (R ρ (.opt false r'.v)).v undef := ⟨fun e => (by cases e), fun _ => rfl⟩
          exact Post.pure hv _
        | true =>
          refine .inl ⟨hw, ?_⟩
          have h1 := opRes_sound henv hr' (by simpa using hvc) hops hsim (fun k h1 h2 => by omega)
          unfold OpOK at h1 ⊢
          refine Lands.mono ?_ h1
          rintro v' w' ⟨ρ', hp⟩
          refine ⟨ρ.keep ρ', ?_⟩
          have hd := hp.drop (Nat.eq_of_beq_eq_true hb.1) (.inl hlen) true r'.t
          have hv : (R (ρ.keep ρ') (.opt true r'.v)).v v' := ⟨fun _ => hd.val, fun e => by cases e⟩
          exact ⟨hd.ext, hd.dom, hv, hd.sim, hd.vac, hd.new, hd.inj, hd.frame, hd.size, hd.os, hd.tape, hd.output, hd.ro, hd.dis⟩
    · cases gd with
      | true => cases h
      | false =>
        cases h
        refine .inr ⟨hw, ρ, ?_⟩
        have hv : (R ρ (.opt false (.bool false))).v undef := ⟨fun e => (by cases e), fun _ => rfl⟩
        exact Post.pure hv _
theorem stepRes0_stat {P : Program} {env : Env} (henv : EnvOK P env) {ops : List Oper} {tm : List T} {G : Heap} {o : Oper} {r : Res} (h : stepRes0 P env ops tm G o = some r) : Stat G r := by
  unfold stepRes0 at h
  split at h
  · cases h
  · exact opRes_stat henv h
  · rename_i gd _
    split at h
    · rename_i r' hr'
      cases hb : (Nat.beq r'.w 0 && Nat.beq r'.G.length G.length) with
      | false =>
        rw [hb] at h
        cases gd <;> cases h
        · exact Stat.pure _ _ _ _
        · exact opRes_stat henv hr'
      | true =>
        rw [hb] at h
        cases h
        exact Stat.pure _ _ _ _
    · cases gd with
      | true => cases h
      | false =>
        cases h
        exact Stat.pure _ _ _ _
def symOf : List (Nat × Bool) → Operand → Option Bool
  | (t, b) :: r, .tmp t' => bif Nat.beq t t' then some b else symOf r (.tmp t')
  | _, _ => none
def symD (sy : List (Nat × Bool)) : Option Tmp → Option Bool
  | some d => symOf sy (.tmp d)
  | none => none
def assumeT (sy : List (Nat × Bool)) (d : Option Tmp) (r : Res) : Option Res :=
  match symD sy d with
  | none => some r
  | some b => match r.v with
    | .bool t => some ⟨r.vc && (t == b), .bool b, r.G, r.t, r.w⟩
    | .opt g (.bool t) => some ⟨r.vc && ((t == b) || !g), .opt g (.bool b), r.G, r.t, r.w⟩
    | _ => none
theorem assumeT_spec {sy : List (Nat × Bool)} {d : Option Tmp} {r r' : Res} (h : assumeT sy d r = some r') : r'.G = r.G ∧ r'.t = r.t ∧ r'.w = r.w ∧ (r'.vc = true → r.vc = true ∧ ∀ ρ x, (R ρ r.v).v x → (R ρ r'.v).v x) := by
  unfold assumeT at h
  split at h
  · cases h; exact ⟨rfl, rfl, rfl, fun h => ⟨h, fun _ _ h => h⟩⟩
  · rename_i b hb
    split at h
    · rename_i t ht
      cases h
      refine ⟨rfl, rfl, rfl, fun hv => ?_⟩
      simp only [Bool.and_eq_true, beq_iff_eq] at hv
      obtain ⟨h1, rfl⟩ := hv
      exact ⟨h1, fun ρ x hx => by rw [ht] at hx; exact hx⟩
    · rename_i g t ht
      cases h
      refine ⟨rfl, rfl, rfl, fun hv => ?_⟩
      simp only [Bool.and_eq_true, Bool.or_eq_true, beq_iff_eq, Bool.not_eq_true'] at hv
      obtain ⟨h1, h2⟩ := hv
      refine ⟨h1, fun ρ x hx => ?_⟩
      rw [ht] at hx
      rcases h2 with rfl | rfl
      · exact hx
      · exact ⟨fun e => (by cases e), hx.2⟩
    · cases h
def stepRes (P : Program) (env : Env) (sy : List (Nat × Bool)) (ops : List Oper) (tm : List T) (G : Heap) (o : Oper) : Option Res :=
  match stepRes0 P env ops tm G o with
  | some r => assumeT sy o.dst r
  | none => none
theorem stepRes_sound {P : Program} {env : Env} (henv : EnvOK P env) {sy : List (Nat × Bool)} {ops : Array Oper} {tm : List T} {G : Heap} {o : Oper} {r : Res} {ρ : Rho} {a : Act} {w : World}
    (h : stepRes P env sy ops.toList tm G o = some r) (hvc : r.vc = true) (hr : ∀ t ∈ reads ops.toList o, (R ρ (tget tm t)).v (a.tmps.getD t undef))
    (hsim : Sim (bitK r.t) ρ G w) (hf : fresh ρ G.length r.G.length) :
    (Region.wanted o (yielded ops a.tmps) = true ∧ OpOK P a.eval o ρ G w r) ∨ (Region.wanted o (yielded ops a.tmps) = false ∧ ∃ ρ', Post ρ ρ' G w r undef w) := by
  unfold stepRes at h
  split at h
  · rename_i r0 h0
    obtain ⟨e1, e2, e3, h2⟩ := assumeT_spec h
    obtain ⟨hv0, hR⟩ := h2 hvc
    have conv : ∀ {ρ' : Rho} {v' : Value} {w' : World}, Post ρ ρ' G w r0 v' w' → Post ρ ρ' G w r v' w' := fun hp =>
      ⟨hp.ext, by rw [e1]; exact hp.dom, hR _ _ hp.val, by rw [e1, e3]; exact hp.sim, by rw [e1, e3]; exact hp.vac, by rw [e1, e3]; exact hp.new, by rw [e1]; exact hp.inj, by rw [e3]; exact hp.frame, hp.size, hp.os, hp.tape, hp.output, hp.ro, by rw [e1, e3]; exact hp.dis⟩
    rcases stepRes0_sound henv h0 hv0 hr (by rw [← e2]; exact hsim) (by rw [← e1]; exact hf) with ⟨hw, hok⟩ | ⟨hw, ρ', hp⟩
    · refine .inl ⟨hw, ?_⟩
      unfold OpOK at hok ⊢
      exact Lands.mono (fun v' w' ⟨ρ', hp⟩ => ⟨ρ', conv hp⟩) hok
    · exact .inr ⟨hw, ρ', conv hp⟩
  · cases h
theorem stepRes_stat {P : Program} {env : Env} (henv : EnvOK P env) {sy : List (Nat × Bool)} {ops : List Oper} {tm : List T} {G : Heap} {o : Oper} {r : Res} (h : stepRes P env sy ops tm G o = some r) : Stat G r := by
  unfold stepRes at h
  split at h
  · rename_i r0 h0
    obtain ⟨e1, e2, e3, _⟩ := assumeT_spec h
    have := stepRes0_stat henv h0
    exact ⟨by rw [e1]; exact this.len, by rw [e2, e3]; exact this.wt, by rw [e1, e3]; exact this.old⟩
  · cases h
end
end Go.AE
namespace Go.AE
open Go
noncomputable section
def evOps (P : Program) (env : Env) (sy : List (Nat × Bool)) (ops : List Oper) : List Oper → List T → Heap → Option (List Res)
  | [], _, _ => some []
  | o :: os, tm, G => match stepRes P env sy ops tm G o with
    | none => none
    | some r => match evOps P env sy ops os (setD tm o.dst r.v) r.G with
      | none => none
      | some l => some (r :: l)
def stTm : List Oper → List Res → List T → Nat → List T
  | o :: os, r :: rs, tm, i + 1 => stTm os rs (setD tm o.dst r.v) i
  | _, _, tm, _ => tm
def stG : List Res → Heap → Nat → Heap
  | r :: rs, _, i + 1 => stG rs r.G i
  | _, G, _ => G
theorem evOps_len {P : Program} {env : Env} {sy : List (Nat × Bool)} {ops : List Oper} : ∀ {os : List Oper} {tm : List T} {G : Heap} {rs : List Res}, evOps P env sy ops os tm G = some rs → rs.length = os.length
  | [], _, _, _, h => by cases h; rfl
  | o :: os, tm, G, rs, h => by
    simp only [evOps] at h
    split at h
    · cases h
    · split at h
      · cases h
      · rename_i l hl
        cases h
        simp [evOps_len hl]
theorem evOps_at {P : Program} {env : Env} {sy : List (Nat × Bool)} {ops : List Oper} : ∀ {os : List Oper} {tm : List T} {G : Heap} {rs : List Res}, evOps P env sy ops os tm G = some rs → ∀ (i : Nat) (o : Oper), os[i]? = some o →
    ∃ r, rs[i]? = some r ∧ stepRes P env sy ops (stTm os rs tm i) (stG rs G i) o = some r ∧ stTm os rs tm (i + 1) = setD (stTm os rs tm i) o.dst r.v ∧ stG rs G (i + 1) = r.G
  | [], _, _, _, _, i, o, ho => by simp at ho
  | o' :: os, tm, G, rs, h, i, o, ho => by
    simp only [evOps] at h
    split at h
    · cases h
    · rename_i r hr
      split at h
      · cases h
      · rename_i l hl
        cases h
        cases i with
        | zero =>
          simp at ho
          subst ho
          refine ⟨r, rfl, hr, ?_, ?_⟩
          · cases os <;> cases l <;> rfl
          · cases l <;> rfl
        | succ i =>
          obtain ⟨r', h1, h2, h3, h4⟩ := evOps_at hl i o (by simpa using ho)
          exact ⟨r', by simpa using h1, h2, h3, h4⟩
section last
variable {α : Type} (C : Nat → Nat → α) (Wr : Nat → Nat → Prop) [∀ i l, Decidable (Wr i l)]
def lastW (L : Nat → Bool) (l : Nat) : Nat → Nat
  | 0 => 0
  | i + 1 => if L i = true ∧ Wr i l then i + 1 else lastW L l i
def cont (L : Nat → Bool) (n l : Nat) : α := C (lastW Wr L l n) l
variable {C Wr}
theorem cont_read (hC : ∀ j l, ¬Wr j l → C (j + 1) l = C j l) {L : Nat → Bool} {l i n : Nat} (h1 : ∀ j, j < i → Wr j l → L j = true) (h2 : ∀ j, i ≤ j → j < n → L j = true → ¬Wr j l) (hi : i ≤ n) :
    cont C Wr L n l = C i l := by
  have low : ∀ m, m ≤ i → cont C Wr L m l = C m l := by
    intro m
    induction m with
    | zero => intro _; rfl
    | succ m ih =>
      intro hm
      unfold cont
      simp only [lastW]
      by_cases hw : Wr m l
      · rw [if_pos ⟨h1 m (by omega) hw, hw⟩]
      · rw [if_neg (fun e => hw e.2), hC m l hw]
        exact ih (by omega)
  have high : ∀ d, i + d ≤ n → cont C Wr L (i + d) l = cont C Wr L i l := by
    intro d
    induction d with
    | zero => intro _; rfl
    | succ d ih =>
      intro hd
      rw [← ih (by omega)]
      unfold cont
      rw [show i + (d + 1) = i + d + 1 by omega]
      simp only [lastW]
      rw [if_neg (fun e => h2 (i + d) (by omega) (by omega) e.1 e.2)]
  have := high (n - i) (by omega)
  rw [show i + (n - i) = n by omega] at this
  rw [this, low i (Nat.le_refl _)]
theorem cont_other {L L' : Nat → Bool} {l n : Nat} (h : ∀ j, j < n → Wr j l → L' j = L j) : cont C Wr L' n l = cont C Wr L n l := by
  have : lastW Wr L' l n = lastW Wr L l n := by
    induction n with
    | zero => rfl
    | succ n ih =>
      simp only [lastW]
      rw [ih (fun j hj hw => h j (by omega) hw)]
      by_cases hw : Wr n l
      · rw [h n (by omega) hw]
      · rw [if_neg (fun e => hw e.2), if_neg (fun e => hw e.2)]
  unfold cont
  rw [this]
theorem cont_new {L : Nat → Bool} {l i n : Nat} (hi : i < n) (hL : L i = true) (hw : Wr i l) (h : ∀ j, i < j → j < n → L j = true → ¬Wr j l) : cont C Wr L n l = C (i + 1) l := by
  have high : ∀ d, i + 1 + d ≤ n → lastW Wr L l (i + 1 + d) = i + 1 := by
    intro d
    induction d with
    | zero => intro _; simp only [Nat.add_zero, lastW]; rw [if_pos ⟨hL, hw⟩]
    | succ d ih =>
      intro hd
      rw [show i + 1 + (d + 1) = i + 1 + d + 1 by omega]
      simp only [lastW]
      rw [if_neg (fun e => h (i + 1 + d) (by omega) (by omega) e.1 e.2)]
      exact ih (by omega)
  have := high (n - (i + 1)) (by omega)
  rw [show i + 1 + (n - (i + 1)) = n by omega] at this
  unfold cont
  rw [this]
end last
structure Run (P : Program) (env : Env) where
  sy : List (Nat × Bool)
  ops : Array Oper
  tm0 : List T
  G0 : Heap
  rs : List Res
  ok : evOps P env sy ops.toList ops.toList tm0 G0 = some rs
variable {P : Program} {env : Env}
def Run.n (U : Run P env) : Nat := U.ops.toList.length
def Run.Tm (U : Run P env) (i t : Nat) : T := tget (stTm U.ops.toList U.rs U.tm0 i) t
def Run.G (U : Run P env) (i : Nat) : Heap := stG U.rs U.G0 i
def Run.H (U : Run P env) (i k : Nat) : Option T := hget (U.G i) k
def Run.r (U : Run P env) (i : Nat) : Res := U.rs.getD i ⟨true, .any, U.G i, 0, 0⟩
def Run.wT (U : Run P env) (i t : Nat) : Prop := (U.ops.toList[i]?).bind (·.dst) = some t
def Run.wH (U : Run P env) (i k : Nat) : Prop := i < U.n ∧ ((k < (U.G i).length ∧ (U.r i).w.testBit k = true) ∨ ((U.G i).length ≤ k ∧ k < (U.G (i + 1)).length))
def Run.rT (U : Run P env) (i t : Nat) : Prop := ∃ o, U.ops.toList[i]? = some o ∧ t ∈ reads U.ops.toList o
instance (U : Run P env) (i t : Nat) : Decidable (U.wT i t) := by unfold Run.wT; infer_instance
instance (U : Run P env) (i t : Nat) : Decidable (U.wH i t) := by unfold Run.wH; infer_instance
theorem Run.at (U : Run P env) {i : Nat} {o : Oper} (h : U.ops.toList[i]? = some o) :
    stepRes P env U.sy U.ops.toList (stTm U.ops.toList U.rs U.tm0 i) (U.G i) o = some (U.r i) ∧ stTm U.ops.toList U.rs U.tm0 (i + 1) = setD (stTm U.ops.toList U.rs U.tm0 i) o.dst (U.r i).v ∧ U.G (i + 1) = (U.r i).G := by
  obtain ⟨r, h1, h2, h3, h4⟩ := evOps_at U.ok i o h
  have : U.r i = r := by simp [Run.r, h1]
  rw [this]
  exact ⟨h2, h3, h4⟩
theorem Run.stat (henv : EnvOK P env) (U : Run P env) {i : Nat} (hi : i < U.n) : Stat (U.G i) (U.r i) := by
  obtain ⟨o, ho⟩ : ∃ o, U.ops.toList[i]? = some o := ⟨_, List.getElem?_eq_getElem hi⟩
  exact stepRes_stat henv (U.at ho).1
theorem Run.G_succ (U : Run P env) {i : Nat} (hi : i < U.n) : U.G (i + 1) = (U.r i).G := by
  obtain ⟨o, ho⟩ : ∃ o, U.ops.toList[i]? = some o := ⟨_, List.getElem?_eq_getElem hi⟩
  exact (U.at ho).2.2
theorem stG_end : ∀ (rs : List Res) (G : Heap) (i : Nat), rs.length ≤ i → stG rs G (i + 1) = stG rs G i
  | [], _, i, _ => by cases i <;> rfl
  | r :: rs, G, 0, h => by simp at h
  | r :: rs, G, i + 1, h => by simp only [stG]; exact stG_end rs r.G i (by simpa using h)
theorem stTm_end : ∀ (os : List Oper) (rs : List Res) (tm : List T) (i : Nat), os.length ≤ i → stTm os rs tm (i + 1) = stTm os rs tm i
  | [], _, _, i, _ => by cases i <;> rfl
  | o :: os, [], _, i, _ => by cases i <;> rfl
  | o :: os, r :: rs, tm, 0, h => by simp at h
  | o :: os, r :: rs, tm, i + 1, h => by simp only [stTm]; exact stTm_end os rs _ i (by simpa using h)
theorem Run.rs_len (U : Run P env) : U.rs.length = U.n := evOps_len U.ok
theorem Run.len_mono (henv : EnvOK P env) (U : Run P env) (i : Nat) : (U.G i).length ≤ (U.G (i + 1)).length := by
  by_cases hi : i < U.n
  · rw [U.G_succ hi]; exact (U.stat henv hi).len
  · unfold Run.G; rw [stG_end _ _ _ (by rw [U.rs_len]; omega)]; exact Nat.le_refl _
theorem Run.len_le (henv : EnvOK P env) (U : Run P env) {i j : Nat} (h : i ≤ j) : (U.G i).length ≤ (U.G j).length := by
  induction h with
  | refl => exact Nat.le_refl _
  | step _ ih => exact Nat.le_trans ih (U.len_mono henv _)
theorem Run.H_keep (henv : EnvOK P env) (U : Run P env) (j k : Nat) (h : ¬U.wH j k) : U.H (j + 1) k = U.H j k := by
  by_cases hi : j < U.n
  · have hs := U.stat henv hi
    unfold Run.H
    rw [U.G_succ hi]
    by_cases hk : k < (U.G j).length
    · refine hs.old k hk ?_
      cases hb : (U.r j).w.testBit k
      · rfl
      · exact absurd ⟨hi, .inl ⟨hk, hb⟩⟩ h
    · have hk' : (U.G (j + 1)).length ≤ k := by
        rcases Nat.lt_or_ge k (U.G (j + 1)).length with h1 | h1
        · exact absurd ⟨hi, .inr ⟨by omega, h1⟩⟩ h
        · exact h1
      rw [U.G_succ hi] at hk'
      have e1 : hget (U.r j).G k = none := by
        cases he : hget (U.r j).G k with
        | none => rfl
        | some t => have := za7 he; omega
      have e2 : hget (U.G j) k = none := by
        cases he : hget (U.G j) k with
        | none => rfl
        | some t => have := za7 he; omega
      rw [e1, e2]
  · unfold Run.H Run.G
    rw [stG_end _ _ _ (by rw [U.rs_len]; omega)]
theorem Run.Tm_keep (U : Run P env) (j t : Nat) (h : ¬U.wT j t) : U.Tm (j + 1) t = U.Tm j t := by
  unfold Run.Tm
  cases ho : U.ops.toList[j]? with
  | none =>
    rw [stTm_end _ _ _ _ (by simpa using ho)]
  | some o =>
    rw [(U.at ho).2.1]
    cases hd : o.dst with
    | none => rfl
    | some d =>
      have : t ≠ d := fun e => h (by unfold Run.wT; rw [ho]; simp [hd, e])
      exact tget_tset_ne _ this
theorem stTm_len : ∀ (os : List Oper) (rs : List Res) (tm : List T) (i : Nat), (stTm os rs tm i).length = tm.length
  | [], _, _, i => by cases i <;> rfl
  | _ :: _, [], _, i => by cases i <;> rfl
  | o :: os, r :: rs, tm, 0 => rfl
  | o :: os, r :: rs, tm, i + 1 => by simp only [stTm]; rw [stTm_len os rs _ i, setD_len]
structure Apart (U : Run P env) (i j : Nat) : Prop where
  rt : ∀ t, U.rT i t → ¬U.wT j t
  wt : ∀ t, U.wT i t → ¬U.wT j t
  rh : ∀ k, (U.r i).t.testBit k = true → ¬U.wH j k
  wh : ∀ k, U.wH i k → ¬U.wH j k
structure Inv (U : Run P env) (K : Nat → Prop) (ρS : Rho) (wS : World) (dS : List Deferred) (m : Nat) (L : Nat → Bool) (ρ : Rho) (a : Act) (w : World) : Prop where
  sz : a.tmps.size = m
  dfr : a.defers = dS
  tm : ∀ t, (R ρ (cont U.Tm U.wT L U.n t)).v (a.tmps.getD t undef)
  ext : ρS.Ext ρ
  dom : ∀ k, ρ k = ρS k ∨ ∃ i, L i = true ∧ i < U.n ∧ (U.G i).length ≤ k ∧ k < (U.G (i + 1)).length
  blk : ∀ k t p, K k ∨ U.G0.length ≤ k → cont U.H U.wH L U.n k = some t → ρ k = some p → Blk ρ t p w
  vac : ∀ k t, K k ∨ U.G0.length ≤ k → cont U.H U.wH L U.n k = some t → ρ k = none → t.size = 0
  inj : ∀ k k' t t' p p', K k ∨ U.G0.length ≤ k → K k' ∨ U.G0.length ≤ k' → cont U.H U.wH L U.n k = some t → cont U.H U.wH L U.n k' = some t' → ρ k = some p → ρ k' = some p' → p.1 = p'.1 → k = k'
  frame : ∀ b, b < wS.heap.size → (∀ k p i, k < U.G0.length → L i = true → U.wH i k → ρS k = some p → p.1 ≠ b) → w.heap[b]? = wS.heap[b]?
  new : ∀ k t p, U.G0.length ≤ k → cont U.H U.wH L U.n k = some t → ρ k = some p → wS.heap.size ≤ p.1 ∨ ∃ j q i, j < U.G0.length ∧ L i = true ∧ U.wH i j ∧ cont U.H U.wH L U.n j = none ∧ ρS j = some q ∧ q.1 = p.1
  size : wS.heap.size ≤ w.heap.size
  os : w.os = wS.os
  tape : w.tape = wS.tape
  output : w.output = wS.output
  ro : RoOK ρ w
  ron : ∀ b cs, ρ.ro b = some cs → ρS.ro b = some cs ∨ wS.heap.size ≤ b
  dis : ∀ k t p, K k ∨ U.G0.length ≤ k → cont U.H U.wH L U.n k = some t → ρ k = some p → ρ.ro p.1 = none
def add (L : Nat → Bool) (i : Nat) : Nat → Bool := fun j => if j = i then true else L j
theorem getD_put {a : Act} {d : Tmp} {v : Value} (t : Nat) : (a.put (some d) v).tmps.getD t undef = if t = d ∧ d < a.tmps.size then v else a.tmps.getD t undef := by
  simp only [Act.put, Array.getD_eq_getD_getElem?, Array.getElem?_setIfInBounds]
  by_cases h1 : d = t
  · subst h1
    by_cases h2 : d < a.tmps.size
    · simp [h2]
    · simp [h2]
  · have : ¬ t = d := fun e => h1 e.symm
    simp [h1, this]
theorem Inv.step (henv : EnvOK P env) {U : Run P env} {K : Nat → Prop} {ρS : Rho} {wS : World} {dS : List Deferred} {L : Nat → Bool} {ρ : Rho} {a : Act} {w : World} {i : Nat} {o : Oper}
    (ho : U.ops.toList[i]? = some o) (hL : L i = false) (hsafe1 : ∀ j, j < i → L j = false → Apart U i j) (hsafe2 : ∀ j, i < j → j < U.n → L j = true → Apart U i j)
    (hvc : (U.r i).vc = true) (hK : ∀ k, k < U.G0.length → (U.r i).t.testBit k = true → K k) (hfr : ∀ k, U.G0.length ≤ k → k < (U.G U.n).length → ρS k = none)
    (hI : Inv U K ρS wS dS U.tm0.length L ρ a w) {Kt : Act → World → Prop} {Q : Exit → Act → World → Prop}
    (next : ∀ ρ' a' w', Inv U K ρS wS dS U.tm0.length (add L i) ρ' a' w' → Kt a' w') :
    wpOp P U.ops Q i Kt a w := by
  have hi : i < U.n := (List.getElem?_eq_some_iff.1 ho).1
  obtain ⟨hst, htm, hG⟩ := U.at ho
  have hstat := U.stat henv hi
  have hmono := U.len_mono henv i
  have h0 : U.G0.length ≤ (U.G i).length := by
    have e : U.G 0 = U.G0 := by unfold Run.G; cases U.rs <;> rfl
    rw [← e]; exact U.len_le henv (Nat.zero_le _)
  have hn : (U.G (i + 1)).length ≤ (U.G U.n).length := U.len_le henv hi
  have notself : ∀ j, i ≤ j → j < U.n → L j = true → i < j := fun j h1 _ h2 => by
    rcases Nat.lt_or_ge i j with h | h
    · exact h
    · have : j = i := by omega
      rw [this, hL] at h2; cases h2
  -- what it reads is as the text has it
  have hreadT : ∀ t, U.rT i t → cont U.Tm U.wT L U.n t = U.Tm i t := fun t ht =>
    cont_read (fun j l h => U.Tm_keep j l h) (fun j hj hw => by
      cases e : L j
      · exact absurd hw ((hsafe1 j hj e).rt t ht)
      · rfl) (fun j h1 h2 h3 => (hsafe2 j (notself j h1 h2 h3) h2 h3).rt t ht) (Nat.le_of_lt hi)
  have hreadH : ∀ k, (U.r i).t.testBit k = true → cont U.H U.wH L U.n k = U.H i k := fun k hk =>
    cont_read (fun j l h => U.H_keep henv j l h) (fun j hj hw => by
      cases e : L j
      · exact absurd hw ((hsafe1 j hj e).rh k hk)
      · rfl) (fun j h1 h2 h3 => (hsafe2 j (notself j h1 h2 h3) h2 h3).rh k hk) (Nat.le_of_lt hi)
  have hin : ∀ k, (U.r i).t.testBit k = true → K k ∨ U.G0.length ≤ k := fun k hk => by
    rcases Nat.lt_or_ge k U.G0.length with h | h
    · exact .inl (hK k h hk)
    · exact .inr h
  have hsim : Sim (bitK (U.r i).t) ρ (U.G i) w := {
    blk := fun k t p hk hg => hI.blk k t p (hin k hk) ((hreadH k hk).trans hg)
    vac := fun k t hk hg => hI.vac k t (hin k hk) ((hreadH k hk).trans hg)
    inj := fun k k' t t' p p' hk hk' hg hg' => hI.inj k k' t t' p p' (hin k hk) (hin k' hk') ((hreadH k hk).trans hg) ((hreadH k' hk').trans hg')
    ro := hI.ro
    dis := fun k t p hk hg hp => hI.dis k t p (hin k hk) ((hreadH k hk).trans hg) hp }
  have hfresh : fresh ρ (U.G i).length (U.r i).G.length := fun k h1 h2 => by
    rw [← hG] at h2
    rcases hI.dom k with e | ⟨j, hj, hjn, h3, h4⟩
    · rw [e]; exact hfr k (by omega) (by omega)
    · exfalso
      have hne : j ≠ i := fun e => by rw [e, hL] at hj; cases hj
      rcases Nat.lt_or_gt_of_ne hne with h | h
      · have := U.len_le henv (show j + 1 ≤ i by omega); omega
      · have := U.len_le henv (show i + 1 ≤ j by omega); omega
  have hw_live : ∀ k, k < (U.G i).length → (U.r i).w.testBit k = true → (U.r i).t.testBit k = true ∧ ∃ t, cont U.H U.wH L U.n k = some t := fun k hk hb => by
    obtain ⟨h1, t, h2⟩ := hstat.wt k hk hb
    exact ⟨h1, t, (hreadH k h1).trans h2⟩
  -- the new state
  have key : ∀ v' w' ρ', Post ρ ρ' (U.G i) w (U.r i) v' w' → Inv U K ρS wS dS U.tm0.length (add L i) ρ' (a.put o.dst v') w' := by
    intro v' w' ρ' hp
    have hLi : add L i i = true := by simp [add]
    have hLj : ∀ j, j ≠ i → add L i j = L j := fun j hj => by simp [add, hj]
    have contT : ∀ t, ¬U.wT i t → cont U.Tm U.wT (add L i) U.n t = cont U.Tm U.wT L U.n t := fun t ht =>
      cont_other fun j _ hw => hLj j fun e => ht (e ▸ hw)
    have contH : ∀ k, ¬U.wH i k → cont U.H U.wH (add L i) U.n k = cont U.H U.wH L U.n k := fun t ht =>
      cont_other fun j _ hw => hLj j fun e => ht (e ▸ hw)
    have contT' : ∀ t, U.wT i t → cont U.Tm U.wT (add L i) U.n t = U.Tm (i + 1) t := fun t ht =>
      cont_new hi hLi ht fun j h1 h2 h3 hw => by
        rw [hLj j (by omega)] at h3
        exact (hsafe2 j h1 h2 h3).wt t ht hw
    have contH' : ∀ k, U.wH i k → cont U.H U.wH (add L i) U.n k = hget (U.r i).G k := fun k hk => by
      rw [cont_new hi hLi hk fun j h1 h2 h3 hw => by
        rw [hLj j (by omega)] at h3
        exact (hsafe2 j h1 h2 h3).wh k hk hw]
      unfold Run.H
      rw [hG]
    have hext : ρS.Ext ρ' := hI.ext.trans hp.ext
    have hd2 : ∀ k, ¬U.wH i k → ρ' k = ρ k := fun k hk => by
      rcases Nat.lt_or_ge k (U.G i).length with h | h
      · exact hp.dom k (.inl h)
      · rcases Nat.lt_or_ge k (U.G (i + 1)).length with h' | h'
        · exact absurd ⟨hi, .inr ⟨h, h'⟩⟩ hk
        · exact hp.dom k (.inr (by rw [← hG]; exact h'))
    have back : ∀ k p, k < (U.G i).length ∨ ¬U.wH i k → ρ' k = some p → ρ k = some p := fun k p hk h => by
      rcases hk with hk | hk
      · rw [← hp.dom k (.inl hk)]; exact h
      · rw [← hd2 k hk]; exact h
    -- a block that was there, and that this operation does not write, is as it was
    have hkeep : ∀ k t p, K k ∨ U.G0.length ≤ k → ¬U.wH i k → cont U.H U.wH L U.n k = some t → ρ k = some p → w'.heap[p.1]? = w.heap[p.1]? := by
      intro k t p hin' hnw hg hr
      have hb := hI.blk k t p hin' hg hr
      refine hp.frame p.1 hb.lt fun k2 p2 h1 h2 h3 h4 => ?_
      obtain ⟨h5, t2, h6⟩ := hw_live k2 h1 h2
      have := hI.inj k2 k t2 t p2 p (hin k2 h5) hin' h6 hg h3 hr h4
      subst this
      exact hnw ⟨hi, .inl ⟨h1, h2⟩⟩
    have hwor : ∀ k, U.wH i k → (U.G i).length ≤ k ∨ (U.r i).w.testBit k = true := fun k hk => by
      rcases hk.2 with h | h
      · exact .inr h.2
      · exact .inl h.1
    refine {
      sz := ?_, dfr := ?_, tm := ?_, ext := hext, dom := ?_, blk := ?_, vac := ?_, inj := ?_, frame := ?_, new := ?_, size := Nat.le_trans hI.size hp.size,
      os := hp.os.trans hI.os, tape := hp.tape.trans hI.tape, output := hp.output.trans hI.output
      ro := hp.roOK hstat hsim (fun _ _ h => h)
      ron := fun b cs hb => by
        rcases hp.ro b cs hb with h | ⟨h, _⟩
        · exact hI.ron b cs h
        · exact .inr (Nat.le_trans hI.size h)
      dis := fun k t p hin' hg hr => by
        by_cases hw : U.wH i k
        · rw [contH' k hw] at hg
          refine hp.dis k t p ?_ hg hr
          rcases hw.2 with h | h
          · exact .inr h.2
          · exact .inl h.1
        · rw [contH k hw] at hg
          have hq := back k p (.inr hw) hr
          have hb := hI.blk k t p hin' hg hq
          cases e : ρ'.ro p.1 with
          | none => rfl
          | some cs =>
            rcases hp.ro _ cs e with h | ⟨h, _⟩
            · rw [hI.dis k t p hin' hg hq] at h; cases h
            · have := hb.lt; omega }
    · cases o.dst <;> simp [Act.put, hI.sz]
    · cases o.dst <;> simp [Act.put, hI.dfr]
    · intro t
      by_cases hw : U.wT i t
      · rw [contT' t hw]
        have hd : o.dst = some t := by unfold Run.wT at hw; rw [ho] at hw; simpa using hw
        unfold Run.Tm
        rw [htm, hd]
        simp only [setD]
        rw [getD_put]
        by_cases hlt : t < U.tm0.length
        · rw [tget_tset_same _ (by rw [stTm_len]; exact hlt), if_pos ⟨rfl, by rw [hI.sz]; exact hlt⟩]
          exact hp.val
        · rw [tget_out (by rw [tset_len, stTm_len]; omega)]
          trivial
      · rw [contT t hw]
        have : (a.put o.dst v').tmps.getD t undef = a.tmps.getD t undef := by
          cases hd : o.dst with
          | none => rfl
          | some d =>
            rw [getD_put, if_neg]
            rintro ⟨e, _⟩
            exact hw (by unfold Run.wT; rw [ho]; simp [hd, e])
        rw [this]
        exact R_v_mono hp.ext (hI.tm t)
    · intro k
      rcases Nat.lt_or_ge k (U.G i).length with h | h
      · rw [hp.dom k (.inl h)]
        rcases hI.dom k with e | ⟨j, hj, h'⟩
        · exact .inl e
        · exact .inr ⟨j, by rw [hLj j (fun e => by rw [e, hL] at hj; cases hj)]; exact hj, h'⟩
      · rcases Nat.lt_or_ge k (U.G (i + 1)).length with h' | h'
        · exact .inr ⟨i, hLi, hi, h, h'⟩
        · rw [hp.dom k (.inr (by rw [← hG]; exact h'))]
          rcases hI.dom k with e | ⟨j, hj, h'⟩
          · exact .inl e
          · exact .inr ⟨j, by rw [hLj j (fun e => by rw [e, hL] at hj; cases hj)]; exact hj, h'⟩
    · intro k t p hin' hg hr
      by_cases hw : U.wH i k
      · rw [contH' k hw] at hg
        exact hp.sim k t p (hwor k hw) hg hr
      · rw [contH k hw] at hg
        have hq := back k p (.inr hw) hr
        exact ((hI.blk k t p hin' hg hq).mono hp.ext).same (hkeep k t p hin' hw hg hq)
    · intro k t hin' hg hr
      by_cases hw : U.wH i k
      · rw [contH' k hw] at hg
        exact hp.vac k t (hwor k hw) hg hr
      · rw [contH k hw] at hg
        rw [hd2 k hw] at hr
        exact hI.vac k t hin' hg hr
    · -- no two stand for one block
      have mixed : ∀ k k' t t' p p', K k ∨ U.G0.length ≤ k → K k' ∨ U.G0.length ≤ k' → U.wH i k → ¬U.wH i k' → hget (U.r i).G k = some t → cont U.H U.wH L U.n k' = some t' → ρ' k = some p → ρ' k' = some p' → p.1 = p'.1 → k = k' := by
        intro k k' t t' p p' hin1 hin2 hw hnw hg hg' hr hr' he
        have hq' := back k' p' (.inr hnw) hr'
        have hb' := hI.blk k' t' p' hin2 hg' hq'
        rcases hw.2 with h | h
        · obtain ⟨h5, t2, h6⟩ := hw_live k h.1 h.2
          have hq := back k p (.inl h.1) hr
          exact hI.inj k k' t2 t' p p' (hin k h5) hin2 h6 hg' hq hq' he
        · rcases hp.new k t p h.1 hg hr with h7 | ⟨j, q, hj1, hj2, hj3, hj4, hj5⟩
          · have := hb'.lt; omega
          · exfalso
            obtain ⟨h5, t2, h6⟩ := hw_live j hj1 hj2
            have := hI.inj j k' t2 t' q p' (hin j h5) hin2 h6 hg' hj4 hq' (hj5.trans he)
            subst this
            exact hnw ⟨hi, .inl ⟨hj1, hj2⟩⟩
      intro k k' t t' p p' hin1 hin2 hg hg' hr hr' he
      by_cases hw : U.wH i k
      · rw [contH' k hw] at hg
        by_cases hw' : U.wH i k'
        · rw [contH' k' hw'] at hg'
          rcases hw.2 with h | h <;> rcases hw'.2 with h' | h'
          · obtain ⟨h5, t2, h6⟩ := hw_live k h.1 h.2
            obtain ⟨h5', t2', h6'⟩ := hw_live k' h'.1 h'.2
            have hq := back k p (.inl h.1) hr
            have hq' := back k' p' (.inl h'.1) hr'
            exact hI.inj k k' t2 t2' p p' (hin k h5) (hin k' h5') h6 h6' hq hq' he
          · obtain ⟨h5, t2, h6⟩ := hw_live k h.1 h.2
            have hq := back k p (.inl h.1) hr
            have hb := hI.blk k t2 p (hin k h5) h6 hq
            rcases hp.new k' t' p' h'.1 hg' hr' with h7 | ⟨j, q, hj1, hj2, hj3, hj4, hj5⟩
            · have := hb.lt; omega
            · exfalso
              obtain ⟨h8, t3, h9⟩ := hw_live j hj1 hj2
              have := hI.inj k j t2 t3 p q (hin k h5) (hin j h8) h6 h9 hq hj4 (he.trans hj5.symm)
              subst this
              rw [hj3] at hg; cases hg
          · obtain ⟨h5, t2, h6⟩ := hw_live k' h'.1 h'.2
            have hq := back k' p' (.inl h'.1) hr'
            have hb := hI.blk k' t2 p' (hin k' h5) h6 hq
            rcases hp.new k t p h.1 hg hr with h7 | ⟨j, q, hj1, hj2, hj3, hj4, hj5⟩
            · have := hb.lt; omega
            · exfalso
              obtain ⟨h8, t3, h9⟩ := hw_live j hj1 hj2
              have := hI.inj k' j t2 t3 p' q (hin k' h5) (hin j h8) h6 h9 hq hj4 (he.symm.trans hj5.symm)
              subst this
              rw [hj3] at hg'; cases hg'
          · exact hp.inj k k' t t' p p' h.1 h'.1 hg hg' hr hr' he
        · rw [contH k' hw'] at hg'
          exact mixed k k' t t' p p' hin1 hin2 hw hw' hg hg' hr hr' he
      · rw [contH k hw] at hg
        by_cases hw' : U.wH i k'
        · rw [contH' k' hw'] at hg'
          exact (mixed k' k t' t p' p hin2 hin1 hw' hw hg' hg hr' hr he.symm).symm
        · rw [contH k' hw'] at hg'
          have hq := back k p (.inr hw) hr
          have hq' := back k' p' (.inr hw') hr'
          exact hI.inj k k' t t' p p' hin1 hin2 hg hg' hq hq' he
    · intro b hb hne
      rw [← hI.frame b hb fun k p j h1 h2 h3 h4 => hne k p j h1 (by
        by_cases e : j = i
        · rw [e]; exact hLi
        · rw [hLj j e]; exact h2) h3 h4]
      refine hp.frame b (Nat.lt_of_lt_of_le hb hI.size) fun k p h1 h2 h3 h4 => ?_
      obtain ⟨h5, t2, h6⟩ := hw_live k h1 h2
      rcases Nat.lt_or_ge k U.G0.length with hk | hk
      · have hρ : ρS k = some p := by
          rcases hI.dom k with e | ⟨j, _, _, h7, _⟩
          · rw [← e]; exact h3
          · have : U.G0.length ≤ (U.G j).length := by
              have e : U.G 0 = U.G0 := by unfold Run.G; cases U.rs <;> rfl
              rw [← e]; exact U.len_le henv (Nat.zero_le _)
            omega
        exact hne k p i hk hLi ⟨hi, .inl ⟨h1, h2⟩⟩ hρ h4
      · rcases hI.new k t2 p hk h6 h3 with h7 | ⟨j, q, i', hj1, hj2, hj3, hj4, hj5, hj6⟩
        · omega
        · exact hne j q i' hj1 (by
            by_cases e : i' = i
            · rw [e]; exact hLi
            · rw [hLj i' e]; exact hj2) hj3 hj5 (hj6.trans h4)
    · intro k t p hk hg hr
      -- dead ones stay dead
      have dead : ∀ j, j < U.G0.length → (∃ i', L i' = true ∧ U.wH i' j) → cont U.H U.wH L U.n j = none → cont U.H U.wH (add L i) U.n j = none := by
        intro j _ _ hd
        by_cases hw : U.wH i j
        · exfalso
          rcases hw.2 with h | h
          · obtain ⟨_, t2, h6⟩ := hw_live j h.1 h.2
            rw [h6] at hd; cases hd
          · omega
        · rw [contH j hw]; exact hd
      have up : ∀ i', L i' = true → add L i i' = true := fun i' h => by
        by_cases e : i' = i
        · rw [e]; exact hLi
        · rw [hLj i' e]; exact h
      by_cases hw : U.wH i k
      · rw [contH' k hw] at hg
        rcases hw.2 with h | h
        · obtain ⟨h5, t2, h6⟩ := hw_live k h.1 h.2
          have hq := back k p (.inl h.1) hr
          rcases hI.new k t2 p hk h6 hq with h7 | ⟨j, q, i', hj1, hj2, hj3, hj4, hj5, hj6⟩
          · exact .inl h7
          · exact .inr ⟨j, q, i', hj1, up i' hj2, hj3, dead j hj1 ⟨i', hj2, hj3⟩ hj4, hj5, hj6⟩
        · rcases hp.new k t p h.1 hg hr with h7 | ⟨j, q, hj1, hj2, hj3, hj4, hj5⟩
          · exact .inl (Nat.le_trans hI.size h7)
          · obtain ⟨h5, t2, h6⟩ := hw_live j hj1 hj2
            have hwj : U.wH i j := ⟨hi, .inl ⟨hj1, hj2⟩⟩
            rcases Nat.lt_or_ge j U.G0.length with hj0 | hj0
            · have hρ : ρS j = some q := by
                rcases hI.dom j with e | ⟨j', _, _, h7, _⟩
                · rw [← e]; exact hj4
                · have : U.G0.length ≤ (U.G j').length := by
                    have e : U.G 0 = U.G0 := by unfold Run.G; cases U.rs <;> rfl
                    rw [← e]; exact U.len_le henv (Nat.zero_le _)
                  omega
              exact .inr ⟨j, q, i, hj0, hLi, hwj, by rw [contH' j hwj]; exact hj3, hρ, hj5⟩
            · rcases hI.new j t2 q hj0 h6 hj4 with h7 | ⟨j2, q2, i2, hj21, hj22, hj23, hj24, hj25, hj26⟩
              · exact .inl (by omega)
              · exact .inr ⟨j2, q2, i2, hj21, up i2 hj22, hj23, dead j2 hj21 ⟨i2, hj22, hj23⟩ hj24, hj25, hj26.trans hj5⟩
      · rw [contH k hw] at hg
        have hq := back k p (.inr hw) hr
        rcases hI.new k t p hk hg hq with h7 | ⟨j, q, i', hj1, hj2, hj3, hj4, hj5, hj6⟩
        · exact .inl h7
        · exact .inr ⟨j, q, i', hj1, up i' hj2, hj3, dead j hj1 ⟨i', hj2, hj3⟩ hj4, hj5, hj6⟩
  have hreads : ∀ t ∈ reads U.ops.toList o, (R ρ (tget (stTm U.ops.toList U.rs U.tm0 i) t)).v (a.tmps.getD t undef) := fun t ht => by
    have := hI.tm t
    rw [hreadT t ⟨o, ho, ht⟩] at this
    exact this
  have ho' : U.ops[i]? = some o := by simpa using ho
  unfold wpOp
  simp only [ho']
  rcases stepRes_sound henv (a := a) hst hvc hreads hsim hfresh with ⟨hw, hok⟩ | ⟨hw, ρ', hp⟩
  · rw [if_pos hw]
    refine .inl ?_
    unfold Oper.wp
    unfold OpOK at hok
    generalize (execOp a.eval o).run P w = res at hok
    unfold Lands at hok
    unfold Oper.upon
    split at hok
    · obtain ⟨ρ', hp⟩ := hok
      exact next ρ' _ _ (key _ _ _ hp)
    · obtain ⟨ρ', hp⟩ := hok
      exact next ρ' _ _ (key _ _ _ hp)
    · refine Calls.mono hok ?_
      rintro e w'' ⟨v, rfl, ρ', hp⟩
      exact next ρ' _ _ (key _ _ _ hp)
    · exact hok.elim
  · rw [if_neg (by simp [hw])]
    exact next ρ' _ _ (key _ _ _ hp)
end
end Go.AE
namespace Go.AE
open Go
noncomputable section
variable {P : Program} {env : Env}
theorem wpOps_range (U : Run P env) {Q : Exit → Act → World → Prop} (I : (Nat → Bool) → Act → World → Prop)
    (step : ∀ i L a w (Kt : Act → World → Prop), i < U.n → (∀ j, L j = decide (j < i)) → I L a w → (∀ a' w', I (add L i) a' w' → Kt a' w') → wpOp P U.ops Q i Kt a w)
    (fin : ∀ L a w, (∀ j, j < U.n → L j = true) → I L a w → Q .normal a w) :
    ∀ d i L a w, i + d = U.n → (∀ j, L j = decide (j < i)) → I L a w → wpOps P U.ops Q ((List.range U.n).drop i) a w := by
  intro d
  induction d with
  | zero =>
    intro i L a w hd hL hI
    rw [List.drop_eq_nil_of_le (by simp; omega)]
    exact fin L a w (fun j hj => by rw [hL]; simp; omega) hI
  | succ d ih =>
    intro i L a w hd hL hI
    have : (List.range U.n).drop i = i :: (List.range U.n).drop (i + 1) := by
      rw [List.drop_eq_getElem_cons (by simp; omega)]
      simp
    rw [this, wpOps_cons]
    exact step i L a w _ (by omega) hL hI fun a' w' hI' => ih (i + 1) (add L i) a' w' (by omega) (fun j => by
      simp only [add]
      split
      · simp; omega
      · rw [hL]; simp only [decide_eq_decide]; omega) hI'
def idle : Nat → Bool := fun _ => false
theorem Inv.init {U : Run P env} {K : Nat → Prop} {ρ : Rho} {a : Act} {w : World} (hsz : a.tmps.size = U.tm0.length) (htm : ∀ t, (R ρ (tget U.tm0 t)).v (a.tmps.getD t undef)) (hsim : Sim (fun k => K k ∨ U.G0.length ≤ k) ρ U.G0 w) :
    Inv U K ρ w a.defers U.tm0.length idle ρ a w := by
  have hlast : ∀ (Wr : Nat → Nat → Prop) [∀ i l, Decidable (Wr i l)] l n, lastW Wr idle l n = 0 := by
    intro Wr _ l n
    induction n with
    | zero => rfl
    | succ n ih => simp only [lastW]; rw [if_neg (by simp [idle])]; exact ih
  have hT : ∀ t, cont U.Tm U.wT idle U.n t = tget U.tm0 t := fun t => by
    unfold cont; rw [hlast]
    unfold Run.Tm
    cases U.ops.toList <;> cases U.rs <;> rfl
  have hH : ∀ k, cont U.H U.wH idle U.n k = hget U.G0 k := fun k => by
    unfold cont; rw [hlast]
    unfold Run.H Run.G
    cases U.rs <;> rfl
  exact {
    sz := hsz
    dfr := rfl
    tm := fun t => by rw [hT]; exact htm t
    ext := Rho.Ext.refl ρ
    dom := fun k => .inl rfl
    blk := fun k t p hk hg => hsim.blk k t p hk (by rw [← hH]; exact hg)
    vac := fun k t hk hg => hsim.vac k t hk (by rw [← hH]; exact hg)
    inj := fun k k' t t' p p' hk hk' hg hg' => hsim.inj k k' t t' p p' hk hk' (by rw [← hH]; exact hg) (by rw [← hH]; exact hg')
    frame := fun _ _ _ => rfl
    new := fun k t p hk hg => by
      rw [hH] at hg
      have := za7 hg
      omega
    size := Nat.le_refl _
    os := rfl
    tape := rfl
    output := rfl
    ro := hsim.ro
    ron := fun _ _ h => .inl h
    dis := fun k t p hk hg hp => hsim.dis k t p hk (by rw [← hH]; exact hg) hp }
def vcAll : List Res → Bool
  | [] => true
  | r :: rs => r.vc && vcAll rs
def tAll : List Res → Nat
  | [] => 0
  | r :: rs => r.t ||| tAll rs
def wAll : List Res → Nat
  | [] => 0
  | r :: rs => r.w ||| wAll rs
theorem vcAll_at : ∀ {rs : List Res}, vcAll rs = true → ∀ (i : Nat) (r : Res), rs[i]? = some r → r.vc = true
  | r :: rs, h, 0, r', hr => by simp at hr; subst hr; simp only [vcAll, Bool.and_eq_true] at h; exact h.1
  | r :: rs, h, i + 1, r', hr => by simp only [vcAll, Bool.and_eq_true] at h; exact vcAll_at h.2 i r' (by simpa using hr)
theorem tAll_at : ∀ {rs : List Res} (i : Nat) (r : Res), rs[i]? = some r → ∀ k, r.t.testBit k = true → (tAll rs).testBit k = true
  | r :: rs, 0, r', hr, k, h => by simp at hr; subst hr; simp [tAll, Nat.testBit_or, h]
  | r :: rs, i + 1, r', hr, k, h => by simp [tAll, Nat.testBit_or, tAll_at i r' (by simpa using hr) k h]
theorem wAll_at : ∀ {rs : List Res} (i : Nat) (r : Res), rs[i]? = some r → ∀ k, r.w.testBit k = true → (wAll rs).testBit k = true
  | r :: rs, 0, r', hr, k, h => by simp at hr; subst hr; simp [wAll, Nat.testBit_or, h]
  | r :: rs, i + 1, r', hr, k, h => by simp [wAll, Nat.testBit_or, wAll_at i r' (by simpa using hr) k h]
theorem wAll_back : ∀ {rs : List Res} {k : Nat}, (wAll rs).testBit k = true → ∃ (i : Nat) (r : Res), rs[i]? = some r ∧ r.w.testBit k = true
  | [], k, h => by simp [wAll] at h
  | r :: rs, k, h => by
    simp only [wAll, Nat.testBit_or, Bool.or_eq_true] at h
    rcases h with h | h
    · exact ⟨0, r, rfl, h⟩
    · obtain ⟨i, r', h1, h2⟩ := wAll_back h
      exact ⟨i + 1, r', by simpa using h1, h2⟩
theorem Run.r_at (U : Run P env) {i : Nat} (hi : i < U.n) : U.rs[i]? = some (U.r i) := by
  have : i < U.rs.length := by rw [U.rs_len]; exact hi
  simp [Run.r, this]
structure Out where
  tm : List T
  G : Heap
  vc : Bool
  t : Nat
  w : Nat
def Run.out (U : Run P env) : Out := ⟨stTm U.ops.toList U.rs U.tm0 U.n, stG U.rs U.G0 U.n, vcAll U.rs, tAll U.rs, wAll U.rs⟩
structure OutOK (K : Nat → Prop) (ρ : Rho) (G0 : Heap) (w : World) (dS : List Deferred) (m : Nat) (u : Out) (a' : Act) (w' : World) : Prop where
  ex : ∃ ρ', Post ρ ρ' G0 w ⟨true, .any, u.G, u.t, u.w⟩ undef w' ∧ (∀ t, (R ρ' (tget u.tm t)).v (a'.tmps.getD t undef)) ∧ Sim (fun k => K k ∨ G0.length ≤ k) ρ' u.G w'
  sz : a'.tmps.size = m
  dfr : a'.defers = dS
theorem Run.out_stat (henv : EnvOK P env) (U : Run P env) : Stat U.G0 ⟨U.out.vc, .any, U.out.G, U.out.t, U.out.w⟩ := by
  have e0 : U.G 0 = U.G0 := by unfold Run.G; cases U.rs <;> rfl
  have key : ∀ i, i ≤ U.n → (∀ k, k < U.G0.length → (∀ j, j < i → (U.r j).w.testBit k = false) → hget (U.G i) k = hget U.G0 k) := by
    intro i
    induction i with
    | zero => intro _ k _ _; rw [e0]
    | succ i ih =>
      intro hi k hk h
      have hs := U.stat henv (show i < U.n by omega)
      rw [U.G_succ (show i < U.n by omega), hs.old k (by have := U.len_le henv (Nat.zero_le i); rw [e0] at this; omega) (h i (by omega))]
      exact ih (by omega) k hk (fun j hj => h j (by omega))
  have back : ∀ i, i ≤ U.n → ∀ k, k < U.G0.length → (∃ t, hget (U.G i) k = some t) → ∃ t, hget U.G0 k = some t := by
    intro i
    induction i with
    | zero => intro _ k _ h; rw [e0] at h; exact h
    | succ i ih =>
      rintro hi k hk ⟨t, ht⟩
      have hs := U.stat henv (show i < U.n by omega)
      rw [U.G_succ (show i < U.n by omega)] at ht
      have hlen : k < (U.G i).length := by have := U.len_le henv (Nat.zero_le i); rw [e0] at this; omega
      cases hb : (U.r i).w.testBit k with
      | true => exact ih (by omega) k hk (hs.wt k hlen hb).2
      | false => exact ih (by omega) k hk ⟨t, by rw [← hs.old k hlen hb]; exact ht⟩
  refine ⟨?_, ?_, ?_⟩
  · show U.G0.length ≤ (U.G U.n).length
    rw [← e0]; exact U.len_le henv (Nat.zero_le _)
  · intro k hk hw
    obtain ⟨i, r, hr, hb⟩ := wAll_back hw
    have hi : i < U.n := by rw [← U.rs_len]; exact (List.getElem?_eq_some_iff.1 hr).1
    have : r = U.r i := by have := U.r_at hi; rw [hr] at this; exact Option.some.inj this
    subst this
    have hs := U.stat henv hi
    have hlen : k < (U.G i).length := by have := U.len_le henv (Nat.zero_le i); rw [e0] at this; omega
    obtain ⟨h1, h2⟩ := hs.wt k hlen hb
    exact ⟨tAll_at i _ hr k h1, back i (by omega) k hk h2⟩
  · intro k hk hw
    exact key U.n (Nat.le_refl _) k hk fun j hj => by
      cases hb : (U.r j).w.testBit k with
      | false => rfl
      | true => have := wAll_at j _ (U.r_at hj) k hb; rw [show (wAll U.rs).testBit k = false from hw] at this; cases this
theorem Inv.fin (henv : EnvOK P env) {U : Run P env} {K : Nat → Prop} {ρS ρ : Rho} {wS w : World} {dS : List Deferred} {L : Nat → Bool} {a : Act} (hL : ∀ j, j < U.n → L j = true) (hI : Inv U K ρS wS dS U.tm0.length L ρ a w)
    (hK : ∀ k, k < U.G0.length → (tAll U.rs).testBit k = true → K k) : OutOK K ρS U.G0 wS dS U.tm0.length U.out a w := by
  have e0 : U.G 0 = U.G0 := by unfold Run.G; cases U.rs <;> rfl
  have hT : ∀ t, cont U.Tm U.wT L U.n t = U.Tm U.n t := fun t => cont_read (fun j l h => U.Tm_keep j l h) (fun j hj _ => hL j hj) (fun j h1 h2 => by omega) (Nat.le_refl _)
  have hH : ∀ k, cont U.H U.wH L U.n k = hget (U.G U.n) k := fun k => cont_read (fun j l h => U.H_keep henv j l h) (fun j hj _ => hL j hj) (fun j h1 h2 => by omega) (Nat.le_refl _)
  have hst := U.out_stat henv
  have hwK : ∀ k, k < U.G0.length → (wAll U.rs).testBit k = true → K k := fun k hk h => hK k hk (hst.wt k hk h).1
  have wb : ∀ i k, k < U.G0.length → U.wH i k → (wAll U.rs).testBit k = true := fun i k hk h => by
    rcases h.2 with h' | h'
    · exact wAll_at i _ (U.r_at h.1) k h'.2
    · have := U.len_le henv (Nat.zero_le i); rw [e0] at this; omega
  have wf : ∀ k, k < U.G0.length → (wAll U.rs).testBit k = true → ∃ i, i < U.n ∧ U.wH i k := fun k hk h => by
    obtain ⟨i, r, hr, hb⟩ := wAll_back h
    have hi : i < U.n := by rw [← U.rs_len]; exact (List.getElem?_eq_some_iff.1 hr).1
    have : r = U.r i := by have := U.r_at hi; rw [hr] at this; exact Option.some.inj this
    subst this
    exact ⟨i, hi, hi, .inl ⟨by have := U.len_le henv (Nat.zero_le i); rw [e0] at this; omega, hb⟩⟩
  refine ⟨⟨ρ, ?_, fun t => (by have := hI.tm t; rw [hT] at this; exact this), ⟨fun k t p hk hg => hI.blk k t p hk (by rw [hH]; exact hg), fun k t hk hg => hI.vac k t hk (by rw [hH]; exact hg), fun k k' t t' p p' hk hk' hg hg' => hI.inj k k' t t' p p' hk hk' (by rw [hH]; exact hg) (by rw [hH]; exact hg'), hI.ro, fun k t p hk hg hp => hI.dis k t p hk (by rw [hH]; exact hg) hp⟩⟩, hI.sz, hI.dfr⟩
  exact {
    ext := hI.ext
    dom := fun k hk => by
      rcases hI.dom k with e | ⟨i, _, hin, h1, h2⟩
      · exact e
      · exfalso
        have h3 := U.len_le henv (Nat.zero_le i)
        rw [e0] at h3
        have h4 : (U.G (i + 1)).length ≤ (U.G U.n).length := U.len_le henv hin
        rcases hk with hk | hk
        · omega
        · have : (U.G U.n).length ≤ k := hk
          omega
    val := trivial
    sim := fun k t p hk hg => hI.blk k t p (by
        rcases hk with hk | hk
        · exact .inr hk
        · rcases Nat.lt_or_ge k U.G0.length with h | h
          · exact .inl (hwK k h hk)
          · exact .inr h) (by rw [hH]; exact hg)
    vac := fun k t hk hg => hI.vac k t (by
        rcases hk with hk | hk
        · exact .inr hk
        · rcases Nat.lt_or_ge k U.G0.length with h | h
          · exact .inl (hwK k h hk)
          · exact .inr h) (by rw [hH]; exact hg)
    new := fun k t p hk hg hr => by
      rcases hI.new k t p hk (by rw [hH]; exact hg) hr with h | ⟨j, q, i, hj1, hj2, hj3, hj4, hj5, hj6⟩
      · exact .inl h
      · exact .inr ⟨j, q, hj1, wb i j hj1 hj3, by rw [hH] at hj4; exact hj4, hj5, hj6⟩
    inj := fun k k' t t' p p' hk hk' hg hg' => hI.inj k k' t t' p p' (.inr hk) (.inr hk') (by rw [hH]; exact hg) (by rw [hH]; exact hg')
    frame := fun b hb hne => hI.frame b hb fun k p i h1 _ h3 h4 => hne k p h1 (wb i k h1 h3) h4
    size := hI.size
    os := hI.os
    tape := hI.tape
    output := hI.output
    ro := fun b cs hb => by
      rcases hI.ron b cs hb with h | h
      · exact .inl h
      · exact .inr ⟨h, hI.ro b cs hb⟩
    dis := fun k t p hk hg hp => hI.dis k t p (by
        rcases hk with hk | hk
        · exact .inr hk
        · rcases Nat.lt_or_ge k U.G0.length with h | h
          · exact .inl (hwK k h hk)
          · exact .inr h) (by rw [hH]; exact hg) hp }
theorem region_seq (henv : EnvOK P env) (U : Run P env) {K : Nat → Prop} {ρ : Rho} {a : Act} {w : World} {id : Nat} (hvc : U.out.vc = true) (hK : ∀ k, k < U.G0.length → U.out.t.testBit k = true → K k)
    (hfr : ∀ k, U.G0.length ≤ k → k < U.out.G.length → ρ k = none) (hsz : a.tmps.size = U.tm0.length) (htm : ∀ t, (R ρ (tget U.tm0 t)).v (a.tmps.getD t undef)) (hsim : Sim (fun k => K k ∨ U.G0.length ≤ k) ρ U.G0 w)
    {Q : Exit → Act → World → Prop} (hQ : ∀ a' w', OutOK K ρ U.G0 w a.defers U.tm0.length U.out a' w' → Q .normal a' w') : (Code.region id U.ops false).wp P Q a w := by
  refine wp_region ?_
  have h := wpOps_range U (Q := Q) (I := fun L a' w' => ∃ ρ', Inv U K ρ w a.defers U.tm0.length L ρ' a' w') (fun i L a' w' Kt hi hL ⟨ρ', hI⟩ next => by
      obtain ⟨o, ho⟩ : ∃ o, U.ops.toList[i]? = some o := ⟨_, List.getElem?_eq_getElem hi⟩
      exact hI.step henv ho (by rw [hL]; simp) (fun j hj h => by rw [hL] at h; simp [hj] at h) (fun j hj _ h => by rw [hL] at h; simp at h; omega)
        (vcAll_at hvc i _ (U.r_at hi)) (fun k hk h => hK k hk (tAll_at i _ (U.r_at hi) k h)) hfr (fun ρ'' a'' w'' h => next a'' w'' ⟨ρ'', h⟩))
    (fun L a' w' hL ⟨ρ', hI⟩ => hQ _ _ (hI.fin henv hL hK)) U.n 0 idle a w (by simp) (fun j => by simp [idle]) ⟨ρ, Inv.init hsz htm hsim⟩
  have hn : U.n = U.ops.size := by simp [Run.n]
  simp only [List.drop_zero, hn] at h
  exact h
def za2 : List Nat → Nat
  | [] => 0
  | t :: r => 2 ^ t ||| za2 r
theorem maskOf_mem {t : Nat} : ∀ {l : List Nat}, t ∈ l → (za2 l).testBit t = true
  | x :: r, h => by
    simp only [za2, Nat.testBit_or, Bool.or_eq_true]
    rcases List.mem_cons.1 h with rfl | h
    · left; simp
    · right; exact maskOf_mem h
def newMask (a b : Nat) : Nat := (2 ^ (b - a) - 1) <<< a
theorem newMask_bit {a b k : Nat} (h1 : a ≤ k) (h2 : k < b) : (newMask a b).testBit k = true := by
  simp only [newMask, Nat.testBit_shiftLeft, Nat.testBit_two_pow_sub_one, Bool.and_eq_true, decide_eq_true_eq]
  omega
structure Lg where
  rt : Nat
  wt : Nat
  t : Nat
  w : Nat
  pre : Nat
def edgeMask (pres : List Nat) (i : Nat) : List Edge → Option Nat
  | [] => some 0
  | e :: r => match edgeMask pres i r with
    | none => none
    | some m => bif Region.binds .any e then (bif Nat.blt e.on i then some (2 ^ e.on ||| pres.getD e.on 0 ||| m) else none) else some m
def lgs (ops : List Oper) : List Oper → List Res → Nat → Nat → List Nat → Option (List Lg)
  | o :: os, r :: rs, i, len, pres => match edgeMask pres i o.after.toList with
    | none => none
    | some pre => match lgs ops os rs (i + 1) r.G.length (pres ++ [pre]) with
      | none => none
      | some l => some (⟨za2 (reads ops o), za2 o.dst.toList, r.t, r.w ||| newMask len r.G.length, pre⟩ :: l)
  | [], _, _, _, _ => some []
  | _, [], _, _, _ => none
def Lg.apart (a b : Lg) : Bool :=
  Nat.beq (a.rt &&& b.wt) 0 && Nat.beq (a.wt &&& b.rt) 0 && Nat.beq (a.wt &&& b.wt) 0 && Nat.beq (a.t &&& b.w) 0 && Nat.beq (a.w &&& b.t) 0 && Nat.beq (a.w &&& b.w) 0
def apartAll (i : Nat) (a : Lg) : List Lg → Bool
  | [] => true
  | b :: r => (b.pre.testBit i || a.apart b) && apartAll i a r
def pairsOK : Nat → List Lg → Bool
  | _, [] => true
  | i, a :: r => apartAll i a r && pairsOK (i + 1) r
theorem apartAll_at {i : Nat} {a : Lg} : ∀ {l : List Lg}, apartAll i a l = true → ∀ (j : Nat) (b : Lg), l[j]? = some b → b.pre.testBit i = true ∨ a.apart b = true
  | b :: r, h, 0, b', hb => by simp at hb; subst hb; simp only [apartAll, Bool.and_eq_true, Bool.or_eq_true] at h; exact h.1
  | b :: r, h, j + 1, b', hb => by simp only [apartAll, Bool.and_eq_true] at h; exact apartAll_at h.2 j b' (by simpa using hb)
theorem pairsOK_at : ∀ {l : List Lg} {i0 : Nat}, pairsOK i0 l = true → ∀ (i j : Nat) (a b : Lg), i < j → l[i]? = some a → l[j]? = some b → b.pre.testBit (i0 + i) = true ∨ a.apart b = true
  | x :: r, i0, h, 0, j + 1, a, b, _, ha, hb => by
    simp at ha; subst ha
    simp only [pairsOK, Bool.and_eq_true] at h
    exact apartAll_at h.1 j b (by simpa using hb)
  | x :: r, i0, h, i + 1, j + 1, a, b, hij, ha, hb => by
    simp only [pairsOK, Bool.and_eq_true] at h
    have := pairsOK_at h.2 i j a b (by omega) (by simpa using ha) (by simpa using hb)
    rwa [show i0 + 1 + i = i0 + (i + 1) by omega] at this
theorem and_zero {a b k : Nat} (h : Nat.beq (a &&& b) 0 = true) (ha : a.testBit k = true) : b.testBit k = false := by
  have := Nat.eq_of_beq_eq_true h
  have h2 : (a &&& b).testBit k = false := by rw [this]; simp
  rw [Nat.testBit_and, ha, Bool.true_and] at h2
  exact h2
theorem zk1 {pres : List Nat} {i : Nat} : ∀ {es : List Edge} {m : Nat}, edgeMask pres i es = some m →
    (∀ e ∈ es, Region.binds .any e = true → e.on < i) ∧ ∀ j, m.testBit j = true → ∃ e ∈ es, Region.binds .any e = true ∧ (j = e.on ∨ (pres.getD e.on 0).testBit j = true)
  | [], m, h => by cases h; exact ⟨fun e he => (by cases he), fun j hj => (by simp at hj)⟩
  | e :: r, m, h => by
    simp only [edgeMask] at h
    split at h
    · cases h
    · rename_i m' hm'
      obtain ⟨h1, h2⟩ := zk1 hm'
      cases hb : Region.binds .any e with
      | false =>
        rw [hb] at h
        cases h
        refine ⟨fun e' he' hb' => ?_, fun j hj => ?_⟩
        · rcases List.mem_cons.1 he' with rfl | he'
          · rw [hb] at hb'; cases hb'
          · exact h1 e' he' hb'
        · obtain ⟨e', he', h3⟩ := h2 j hj
          exact ⟨e', List.mem_cons_of_mem _ he', h3⟩
      | true =>
        rw [hb] at h
        cases hl : Nat.blt e.on i with
        | false => rw [hl] at h; cases h
        | true =>
          rw [hl] at h
          cases h
          refine ⟨fun e' he' hb' => ?_, fun j hj => ?_⟩
          · rcases List.mem_cons.1 he' with rfl | he'
            · have : e'.on + 1 ≤ i := Nat.le_of_ble_eq_true hl
              omega
            · exact h1 e' he' hb'
          · simp only [Nat.testBit_or, Bool.or_eq_true, Nat.testBit_two_pow, decide_eq_true_eq] at hj
            rcases hj with (hj | hj) | hj
            · exact ⟨e, by simp, hb, .inl hj.symm⟩
            · exact ⟨e, by simp, hb, .inr hj⟩
            · obtain ⟨e', he', h3⟩ := h2 j hj
              exact ⟨e', List.mem_cons_of_mem _ he', h3⟩
theorem lgs_at {ops : List Oper} : ∀ {os : List Oper} {rs : List Res} {i0 : Nat} {G : Heap} {pres : List Nat} {l : List Lg}, lgs ops os rs i0 G.length pres = some l → pres.length = i0 →
    l.length = os.length ∧ ∀ (i : Nat) (o : Oper), os[i]? = some o → ∃ r b, rs[i]? = some r ∧ l[i]? = some b ∧ b.rt = za2 (reads ops o) ∧ b.wt = za2 o.dst.toList ∧ b.t = r.t ∧
      b.w = r.w ||| newMask (stG rs G i).length r.G.length ∧ edgeMask (pres ++ (l.take i).map (·.pre)) (i0 + i) o.after.toList = some b.pre
  | [], rs, i0, G, pres, l, h, _ => by
    have : l = [] := by
      cases rs
      · simp only [lgs] at h; cases h; rfl
      · simp only [lgs] at h; cases h; rfl
    subst this
    refine ⟨rfl, ?_⟩
    intro i o ho
    simp at ho
  | o :: os, [], i0, G, pres, l, h, _ => by simp [lgs] at h
  | o :: os, r :: rs, i0, G, pres, l, h, hp => by
    simp only [lgs] at h
    split at h
    · cases h
    · rename_i pre hpre
      split at h
      · cases h
      · rename_i l' hl'
        cases h
        obtain ⟨h1, h2⟩ := lgs_at (G := r.G) hl' (by simp [hp])
        refine ⟨by simp [h1], fun i o' ho' => ?_⟩
        cases i with
        | zero =>
          simp at ho'; subst ho'
          exact ⟨r, _, rfl, rfl, rfl, rfl, rfl, rfl, by simpa using hpre⟩
        | succ i =>
          obtain ⟨r', b, h3, h4, h5, h6, h7, h8, h9⟩ := h2 i o' (by simpa using ho')
          refine ⟨r', b, by simpa using h3, by simpa using h4, h5, h6, h7, h8, ?_⟩
          rw [show i0 + (i + 1) = i0 + 1 + i by omega]
          simpa [List.append_assoc] using h9
def logsOK (ops : List Oper) (rs : List Res) (len : Nat) : Bool :=
  match lgs ops ops rs 0 len [] with
  | some l => pairsOK 0 l
  | none => false
theorem region_any (henv : EnvOK P env) (hmix : P.follows .mixedOrders = true) (U : Run P env) {K : Nat → Prop} {ρ : Rho} {a : Act} {w : World} {id : Nat} (hvc : U.out.vc = true) (hlog : logsOK U.ops.toList U.rs U.G0.length = true)
    (hK : ∀ k, k < U.G0.length → U.out.t.testBit k = true → K k)
    (hfr : ∀ k, U.G0.length ≤ k → k < U.out.G.length → ρ k = none) (hsz : a.tmps.size = U.tm0.length) (htm : ∀ t, (R ρ (tget U.tm0 t)).v (a.tmps.getD t undef)) (hsim : Sim (fun k => K k ∨ U.G0.length ≤ k) ρ U.G0 w)
    {Q : Exit → Act → World → Prop} (hQ : ∀ a' w' dw, dw.heap = w.heap → dw.os = w.os → dw.tape = w.tape → dw.output = w.output → OutOK K ρ U.G0 dw a.defers U.tm0.length U.out a' w' → Q .normal a' w') : (Code.region id U.ops true).wp P Q a w := by
  refine wp_region_any hmix ?_
  unfold logsOK at hlog
  split at hlog
  case h_2 => cases hlog
  rename_i l hl
  obtain ⟨hlen, hat⟩ := lgs_at (G := U.G0) hl rfl
  have hn : U.n = U.ops.size := by simp [Run.n]
  -- what the looks say of two operations
  have lg : ∀ i, i < U.n → ∃ o b, U.ops.toList[i]? = some o ∧ l[i]? = some b ∧ b.rt = za2 (reads U.ops.toList o) ∧ b.wt = za2 o.dst.toList ∧ b.t = (U.r i).t ∧
      b.w = (U.r i).w ||| newMask (U.G i).length (U.r i).G.length ∧ edgeMask ((l.take i).map (·.pre)) i o.after.toList = some b.pre := by
    intro i hi
    obtain ⟨o, ho⟩ : ∃ o, U.ops.toList[i]? = some o := ⟨_, List.getElem?_eq_getElem hi⟩
    obtain ⟨r, b, h1, h2, h3, h4, h5, h6, h7⟩ := hat i o ho
    have : r = U.r i := by have := U.r_at hi; rw [h1] at this; exact Option.some.inj this
    subst this
    exact ⟨o, b, ho, h2, h3, h4, h5, h6, by simpa using h7⟩
  have rT : ∀ i b, i < U.n → l[i]? = some b → ∀ t, U.rT i t → b.rt.testBit t = true := by
    rintro i b hi hb t ⟨o, ho, ht⟩
    obtain ⟨o', b', h1, h2, h3, _⟩ := lg i hi
    rw [hb] at h2; cases h2
    rw [ho] at h1; cases h1
    rw [h3]; exact maskOf_mem ht
  have wT : ∀ i b, i < U.n → l[i]? = some b → ∀ t, U.wT i t → b.wt.testBit t = true := by
    intro i b hi hb t ht
    obtain ⟨o', b', h1, h2, _, h4, _⟩ := lg i hi
    rw [hb] at h2; cases h2
    unfold Run.wT at ht
    rw [h1] at ht
    have : o'.dst = some t := by simpa using ht
    rw [h4, this]
    exact maskOf_mem (by simp)
  have rH : ∀ i b, i < U.n → l[i]? = some b → ∀ k, (U.r i).t.testBit k = true → b.t.testBit k = true := by
    intro i b hi hb k hk
    obtain ⟨o', b', h1, h2, _, _, h5, _⟩ := lg i hi
    rw [hb] at h2; cases h2
    rw [h5]; exact hk
  have wH : ∀ i b, i < U.n → l[i]? = some b → ∀ k, U.wH i k → b.w.testBit k = true := by
    intro i b hi hb k hk
    obtain ⟨o', b', h1, h2, _, _, _, h6, _⟩ := lg i hi
    rw [hb] at h2; cases h2
    rw [h6, Nat.testBit_or, Bool.or_eq_true]
    rcases hk.2 with h | h
    · exact .inl h.2
    · right; rw [U.G_succ hi] at h; exact newMask_bit h.1 h.2
  have bool : ∀ {x y : Bool}, x = true → y = false → x ≠ y := fun h1 h2 => by rw [h1, h2]; decide
  have apart1 : ∀ i j a b, i < U.n → j < U.n → l[i]? = some a → l[j]? = some b → a.apart b = true → Apart U i j := by
    intro i j a b hi hj ha hb h
    simp only [Lg.apart, Bool.and_eq_true] at h
    obtain ⟨⟨⟨⟨⟨h1, h2⟩, h3⟩, h4⟩, h5⟩, h6⟩ := h
    exact ⟨fun t ht hw => bool (wT j b hj hb t hw) (and_zero h1 (rT i a hi ha t ht)) rfl, fun t ht hw => bool (wT j b hj hb t hw) (and_zero h3 (wT i a hi ha t ht)) rfl,
      fun k hk hw => bool (wH j b hj hb k hw) (and_zero h4 (rH i a hi ha k hk)) rfl, fun k hk hw => bool (wH j b hj hb k hw) (and_zero h6 (wH i a hi ha k hk)) rfl⟩
  have comm : ∀ a b : Lg, a.apart b = true → b.apart a = true := by
    intro a b h
    simp only [Lg.apart, Bool.and_eq_true] at h ⊢
    obtain ⟨⟨⟨⟨⟨h1, h2⟩, h3⟩, h4⟩, h5⟩, h6⟩ := h
    exact ⟨⟨⟨⟨⟨by rw [Nat.and_comm]; exact h2, by rw [Nat.and_comm]; exact h1⟩, by rw [Nat.and_comm]; exact h3⟩, by rw [Nat.and_comm]; exact h5⟩, by rw [Nat.and_comm]; exact h4⟩, by rw [Nat.and_comm]; exact h6⟩
  have main : ∀ (fuel : Nat) (listed : Array Bool) (ρ' : Rho) (a' : Act) (w' : World), listed.size = U.n → (∀ i b, l[i]? = some b → listed.getD i true = true → ∀ j, b.pre.testBit j = true → listed.getD j false = true) →
      (List.range U.n).countP (fun i => !listed.getD i true) ≤ fuel → Inv U K ρ { w with drawn := w.drawn + 1 } a.defers U.tm0.length (fun i => listed.getD i true) ρ' a' w' → wpAny P .any U.ops Q fuel listed a' w' := by
    intro fuel
    have hempty : ∀ (listed : Array Bool), listed.size = U.n → Region.ready .any U.ops listed = [] → ∀ i, i < U.n → listed.getD i true = true := by
      intro listed hls hr i
      induction i using Nat.strongRecOn with
      | _ i ih =>
        intro hi
        cases hb : listed.getD i true with
        | true => rfl
        | false =>
          exfalso
          obtain ⟨o, b, h1, h2, _, _, _, _, h7⟩ := lg i hi
          have : i ∈ Region.ready .any U.ops listed := by
            rw [mem_ready]
            refine ⟨hb, o, by simpa using h1, fun e he hbe => ?_⟩
            have hlt := (zk1 h7).1 e (by simpa using he) hbe
            have := ih e.on hlt (by omega)
            have hx : e.on < listed.size := by omega
            simpa [Array.getD, hx] using this
          rw [hr] at this; cases this
    induction fuel with
    | zero =>
      intro listed ρ' a' w' hls hcl hcnt hI
      have hall : ∀ i, i < U.n → listed.getD i true = true := by
        intro i hi
        have := List.countP_eq_zero.1 (Nat.le_zero.1 hcnt) i (by simpa using hi)
        simpa using this
      refine ⟨?_, hQ _ _ { w with drawn := w.drawn + 1 } rfl rfl rfl rfl (hI.fin henv hall hK)⟩
      apply List.eq_nil_iff_forall_not_mem.2
      intro i hi
      rw [mem_ready] at hi
      obtain ⟨h1, o, h2, _⟩ := hi
      have : i < U.n := by rw [hn]; exact (Array.getElem?_eq_some_iff.1 h2).1
      rw [hall i this] at h1; cases h1
    | succ fuel ih =>
      intro listed ρ' a' w' hls hcl hcnt hI
      refine ⟨fun hr => hQ _ _ { w with drawn := w.drawn + 1 } rfl rfl rfl rfl (hI.fin henv (hempty listed hls hr) hK), fun i hi => ?_⟩
      rw [mem_ready] at hi
      obtain ⟨h1, o, h2, h3⟩ := hi
      have hin : i < U.n := by rw [hn]; exact (Array.getElem?_eq_some_iff.1 h2).1
      obtain ⟨o', b, g1, g2, _, _, _, _, g7⟩ := lg i hin
      have : o' = o := by
        have : U.ops.toList[i]? = some o := by simpa using h2
        rw [g1] at this; exact Option.some.inj this
      subst this
      have setD_eq : ∀ j d, (listed.setIfInBounds i true).getD j d = if j = i then true else listed.getD j d := by
        intro j d
        by_cases e : j = i
        · subst e
          have : j < listed.size := by omega
          simp [Array.getD, this]
        · simp only [Array.getD_eq_getD_getElem?, Array.getElem?_setIfInBounds]
          have : ¬ i = j := fun e' => e e'.symm
          simp [e, this]
      -- its ancestors are listed
      have anc : ∀ j, b.pre.testBit j = true → listed.getD j false = true := by
        intro j hj
        obtain ⟨e, he, hbe, h⟩ := (zk1 g7).2 j hj
        have hlt := (zk1 g7).1 e he hbe
        have hl1 := h3 e (by simpa using he) hbe
        rcases h with rfl | h
        · exact hl1
        · obtain ⟨o2, b2, _, k2, _⟩ := lg e.on (by omega)
          have : ((l.take i).map (·.pre)).getD e.on 0 = b2.pre := by
            simp [List.getD_eq_getElem?_getD, List.getElem?_take_of_lt hlt, k2]
          rw [this] at h
          have hx : e.on < listed.size := by omega
          exact hcl e.on b2 k2 (by simpa [Array.getD, hx] using hl1) j h
      have ft : ∀ j, listed.getD j false = true → listed.getD j true = true := by
        intro j hj
        by_cases hx : j < listed.size
        · simpa [Array.getD, hx] using hj
        · simp [Array.getD, hx] at hj
      refine hI.step henv g1 h1 ?_ ?_ (vcAll_at hvc i _ (U.r_at hin)) (fun k hk h => hK k hk (tAll_at i _ (U.r_at hin) k h)) hfr ?_
      · intro j hj hLj
        obtain ⟨o2, b2, _, k2, _⟩ := lg j (by omega)
        rcases pairsOK_at hlog j i b2 b hj k2 g2 with h | h
        · rw [Nat.zero_add] at h
          have := ft j (anc j h)
          rw [this] at hLj; cases hLj
        · exact apart1 i j b b2 hin (by omega) g2 k2 (comm _ _ h)
      · intro j hj hjn hLj
        obtain ⟨o2, b2, _, k2, _⟩ := lg j hjn
        rcases pairsOK_at hlog i j b b2 hj g2 k2 with h | h
        · rw [Nat.zero_add] at h
          have := ft i (hcl j b2 k2 hLj i h)
          rw [this] at h1; cases h1
        · exact apart1 i j b b2 hin hjn g2 k2 h
      · intro ρ'' a'' w'' hI'
        have hLadd : (fun j => (listed.setIfInBounds i true).getD j true) = add (fun j => listed.getD j true) i := by
          funext j
          rw [setD_eq]; rfl
        refine ih (listed.setIfInBounds i true) ρ'' a'' w'' (by simpa using hls) ?_ ?_ (by rw [hLadd]; exact hI')
        · intro i2 b2 k2 hl2 j hj
          rw [setD_eq] at hl2 ⊢
          by_cases e : j = i
          · simp [e]
          · rw [if_neg e]
            by_cases e2 : i2 = i
            · subst e2
              rw [g2] at k2; cases k2
              exact anc j hj
            · rw [if_neg e2] at hl2
              exact hcl i2 b2 k2 hl2 j hj
        · have hlt : (List.range U.n).countP (fun j => !(listed.setIfInBounds i true).getD j true) < (List.range U.n).countP (fun j => !listed.getD j true) := by
            have h5 : ∀ (r : List Nat), i ∈ r → r.Nodup → r.countP (fun j => !(listed.setIfInBounds i true).getD j true) < r.countP (fun j => !listed.getD j true) := by
              intro r
              induction r with
              | nil => intro h; cases h
              | cons x r ihr =>
                intro hm hnd
                rw [List.nodup_cons] at hnd
                have le : ∀ (r : List Nat), r.countP (fun j => !(listed.setIfInBounds i true).getD j true) ≤ r.countP (fun j => !listed.getD j true) := fun r =>
                  List.countP_mono_left fun j _ hj => by
                    rw [setD_eq] at hj
                    by_cases e : j = i
                    · simp [e] at hj
                    · rwa [if_neg e] at hj
                by_cases e : x = i
                · subst e
                  rw [List.countP_cons, List.countP_cons, setD_eq, if_pos rfl, h1]
                  have := le r
                  revert this
                  generalize List.countP (fun j => !(listed.setIfInBounds x true).getD j true) r = A
                  generalize List.countP (fun j => !listed.getD j true) r = B
                  intro this
                  simp; omega
                · rw [List.countP_cons, List.countP_cons, setD_eq, if_neg e]
                  have := ihr (by
                    rcases List.mem_cons.1 hm with h | h
                    · exact absurd h.symm e
                    · exact h) hnd.2
                  omega
            exact h5 _ (by simpa using hin) List.nodup_range
          omega
  have hidle : (fun i => (Array.replicate U.ops.size false).getD i true) = fun i => if i < U.n then false else true := by
    funext i
    rw [hn]
    by_cases h : i < U.ops.size <;> simp [Array.getD, h]
  refine main U.ops.size (Array.replicate U.ops.size false) ρ a _ (by simp [hn]) ?_ ?_ ?_
  · intro i b hb hl2
    have : i < U.n := by
      have := (List.getElem?_eq_some_iff.1 hb).1
      rw [hlen] at this
      exact this
    have h6 : (Array.replicate U.ops.size false).getD i true = if i < U.n then false else true := congrFun hidle i
    rw [h6, if_pos this] at hl2
    cases hl2
  · refine Nat.le_trans (List.countP_le_length) ?_
    simp [hn]
  · rw [hidle]
    have h0 : Inv U K ρ { w with drawn := w.drawn + 1 } a.defers U.tm0.length idle ρ a { w with drawn := w.drawn + 1 } := Inv.init hsz htm ⟨fun k t p hk hg hp => (hsim.blk k t p hk hg hp).same rfl, hsim.vac, hsim.inj, hsim.ro, hsim.dis⟩
    have e1 : ∀ t, cont U.Tm U.wT (fun i => if i < U.n then false else true) U.n t = cont U.Tm U.wT idle U.n t := fun t => cont_other fun j hj _ => by simp [hj, idle]
    have e2 : ∀ t, cont U.H U.wH (fun i => if i < U.n then false else true) U.n t = cont U.H U.wH idle U.n t := fun t => cont_other fun j hj _ => by simp [hj, idle]
    exact {
      sz := h0.sz, dfr := h0.dfr
      tm := fun t => by rw [e1]; exact h0.tm t
      ext := h0.ext
      dom := fun k => .inl rfl
      blk := fun k t p hk hg => h0.blk k t p hk (by rw [← e2]; exact hg)
      vac := fun k t hk hg => h0.vac k t hk (by rw [← e2]; exact hg)
      inj := fun k k' t t' p p' hk hk' hg hg' => h0.inj k k' t t' p p' hk hk' (by rw [← e2]; exact hg) (by rw [← e2]; exact hg')
      frame := fun _ _ _ => rfl
      new := fun k t p hk hg hr => by
        rw [e2] at hg
        rcases h0.new k t p hk hg hr with h | ⟨j, q, i, h⟩
        · exact .inl h
        · exact absurd h.2.1 (by simp [idle])
      size := Nat.le_refl _, os := rfl, tape := rfl, output := rfl
      ro := h0.ro
      ron := fun _ _ h => .inl h
      dis := fun k t p hk hg hp => h0.dis k t p hk (by rw [← e2]; exact hg) hp }
end
end Go.AE
