/- The abstract evaluator: code, functions, laws. No condition. -/
import Derived.Test.YtiolcdjnmnhcgaaAeB
import Derived.LoopN
import Derived.Carry
import Derived.WalkKit
import Derived.ProofKit
import Derived.OpenShut
import Derived.ScopeJumps

/-! The abstract evaluator: code, and whole functions. No condition. -/
namespace Go.AE
open Go
noncomputable section

structure St where
  tm : List T
  G : Heap
  vc : Bool
  t : Nat
  w : Nat

inductive Ex where
  | normal
  | exit (id : Nat)
  | goto (l : Nat)
  | ret

def Ex.to : Ex → Exit
  | .normal => .normal
  | .exit id => .exit id
  | .goto l => .goto l
  | .ret => .ret

abbrev Step' := St → Option (Ex × St)

def iter : Nat → Step' → Step'
  | 0, _, _ => none
  | n + 1, f, s => match f s with
    | some (.normal, s') => iter n f s'
    | r => r

/-! Values are made ready where they stand: the kernel would else carry long chains of updates along. -/

def forceT {α : Type} (x : T) (k : T → α) : α :=
  match x with
  | .any => k .any
  | .bool b => k (.bool b)
  | .int i n => k (.int i n)
  | .bit i b => k (.bit i b)
  | .word n => k (.word n)
  | .str s => k (.str s)
  | .nilptr => k .nilptr
  | .ptr i p => k (.ptr i p)
  | .nilslice => k .nilslice
  | .slice i p lo m len cap => k (.slice i p lo m len cap)
  | .fn f c => k (.fn f c)
  | .nilfn => k .nilfn
  | .opt g v => k (.opt g v)
  | .tup t => k (.tup t)
  | .nil => k .nil
  | .cons h t => k (.cons h t)
  | .rows n m f => k (.rows n m f)
  | .ints i n f => k (.ints i n f)
  | .abs a => k (.abs a)

theorem forceT_eq {α : Type} (x : T) (k : T → α) : forceT x k = k x := by cases x <;> rfl

/-- The parts of a tree, as far as they are told one by one. -/
def forceC {α : Type} (x : T) (k : T → α) : α :=
  match x with
  | .cons h t => forceC h fun h' => forceC t fun t' => k (.cons h' t')
  | x => forceT x k

theorem forceC_eq {α : Type} (x : T) : ∀ k : T → α, forceC x k = k x := by
  induction x with
  | cons h t ih1 ih2 => intro k; simp only [forceC]; rw [ih1, ih2]
  | _ => intro k; rfl

def forceL {α : Type} : List T → (List T → α) → α
  | [], k => k []
  | x :: r, k => forceT x fun x' => forceL r fun r' => k (x' :: r')

theorem forceL_eq {α : Type} : ∀ (l : List T) (k : List T → α), forceL l k = k l
  | [], _ => rfl
  | x :: r, k => by simp only [forceL]; rw [forceT_eq, forceL_eq r]

def forceG {α : Type} : Heap → (Heap → α) → α
  | [], k => k []
  | none :: r, k => forceG r fun r' => k (none :: r')
  | some t :: r, k => forceC t fun t' => forceG r fun r' => k (some t' :: r')

theorem forceG_eq {α : Type} : ∀ (l : Heap) (k : Heap → α), forceG l k = k l
  | [], _ => rfl
  | none :: r, k => by simp only [forceG]; rw [forceG_eq r]
  | some t :: r, k => by simp only [forceG]; rw [forceC_eq, forceG_eq r]

def forceN {α : Type} (n : Nat) (k : Nat → α) : α :=
  match n with
  | 0 => k 0
  | m + 1 => k (m + 1)

theorem forceN_eq {α : Type} (n : Nat) (k : Nat → α) : forceN n k = k n := by cases n <;> rfl

def forceS {α : Type} (s : St) (k : St → α) : α :=
  forceL s.tm fun tm => forceG s.G fun G => forceN s.t fun t => forceN s.w fun w => k ⟨tm, G, s.vc, t, w⟩

theorem forceS_eq {α : Type} (s : St) (k : St → α) : forceS s k = k s := by
  unfold forceS
  rw [forceL_eq, forceG_eq, forceN_eq, forceN_eq]

/-- How to go: so many rounds of a loop at most; and which way where a condition is told by no number (by the temporary's number). -/
structure Cf where
  n : Nat
  sy : List (Nat × Bool)
instance (k : Nat) : OfNat Cf k := ⟨⟨k, []⟩⟩

/-- With few rounds asked for, conditions are looked at where they stand; with very many they are gathered. -/
def hasSym (sy : List (Nat × Bool)) : List Oper → Bool
  | [] => false
  | o :: r => (match symD sy o.dst with | some _ => true | none => false) || hasSym sy r

def strict (n : Cf) (ops : List Oper) : Bool := Nat.blt n.n 1000000 && !hasSym n.sy ops
def vcOf (n : Cf) (ops : List Oper) (rs : List Res) (vc : Bool) : Bool := bif strict n ops then vc else vcAll rs && vc
theorem vcOf_spec {n : Cf} {ops : List Oper} {rs : List Res} {vc : Bool} (h : (!strict n ops || vcAll rs) = true) (h' : vcOf n ops rs vc = true) : vcAll rs = true ∧ vc = true := by
  unfold vcOf at h'
  cases hs : strict n ops with
  | true => rw [hs] at h h'; exact ⟨by simpa using h, h'⟩
  | false => rw [hs] at h'; simpa using h'

def evRegion (P : Program) (env : Env) (n : Cf) (ops : List Oper) (draw : Bool) (s : St) : Option (Ex × St) :=
  match evOps P env n.sy ops ops s.tm s.G with
  | some rs => bif (!draw || logsOK ops rs s.G.length) && (!strict n ops || vcAll rs) then
      forceS ⟨stTm ops rs s.tm ops.length, stG rs s.G ops.length, vcOf n ops rs s.vc, s.t ||| tAll rs, s.w ||| wAll rs⟩ fun s' => some (.normal, s') else none
  | none => none

def evCode (P : Program) (env : Env) (n : Cf) : Code → Step'
  | .skip, s => some (.normal, s)
  | .region _ ops draw, s => evRegion P env n ops.toList draw s
  | .seq a b, s => match evCode P env n a s with
    | some (.normal, s') => evCode P env n b s'
    | r => r
  | .cond c x y, s => match symOf n.sy c with
   | some o => match stripV (ev s.tm c) with
    | .bool t => bif o then evCode P env n x ⟨s.tm, s.G, t && (stripG (ev s.tm c) && s.vc), s.t, s.w⟩ else evCode P env n y ⟨s.tm, s.G, !t && (stripG (ev s.tm c) && s.vc), s.t, s.w⟩
    | _ => none
   | none => match stripV (ev s.tm c) with
    | .bool true => evCode P env n x ⟨s.tm, s.G, stripG (ev s.tm c) && s.vc, s.t, s.w⟩
    | .bool false => evCode P env n y ⟨s.tm, s.G, stripG (ev s.tm c) && s.vc, s.t, s.w⟩
    | _ => none
  | .block id b, s => match evCode P env n b s with
    | some (.exit id', s') => bif Nat.beq id' id then some (.normal, s') else some (.exit id', s')
    | r => r
  | .loop b, s => iter n.n (evCode P env n b) s
  | .exit id, s => some (.exit id, s)
  | .label _, s => some (.normal, s)
  | .goto l, s => some (.goto l, s)
  | .ret, s => some (.ret, s)
  | _, _ => none

def St.res (s : St) : Res := ⟨true, .any, s.G, s.t, s.w⟩

/-- What is known between a function's entry and a place of its code. -/
structure Rl (K : Nat → Prop) (ρ0 : Rho) (G0 : Heap) (w0 : World) (dS : List Deferred) (m : Nat) (s : St) (a : Act) (w : World) : Prop where
  ex : ∃ ρ, Post ρ0 ρ G0 w0 s.res undef w ∧ (∀ t, (R ρ (tget s.tm t)).v (a.tmps.getD t undef)) ∧ Sim (fun k => K k ∨ G0.length ≤ k) ρ s.G w
  sz : a.tmps.size = m
  dfr : a.defers = dS
  stat : Stat G0 s.res
  len : s.tm.length = m

theorem Stat.trans {G0 : Heap} {r1 r2 : Res} (h1 : Stat G0 r1) (h2 : Stat r1.G r2) (vc : Bool) (v : T) : Stat G0 ⟨vc, v, r2.G, r1.t ||| r2.t, r1.w ||| r2.w⟩ := by
  refine ⟨Nat.le_trans h1.len h2.len, fun k hk hw => ?_, fun k hk hw => ?_⟩
  · simp only [Nat.testBit_or, Bool.or_eq_true] at hw ⊢
    rcases hw with hw | hw
    · obtain ⟨a, b⟩ := h1.wt k hk hw
      exact ⟨.inl a, b⟩
    · obtain ⟨a, t, b⟩ := h2.wt k (Nat.lt_of_lt_of_le hk h1.len) hw
      refine ⟨.inr a, ?_⟩
      cases hb : r1.w.testBit k with
      | true => exact (h1.wt k hk hb).2
      | false => exact ⟨t, by rw [← h1.old k hk hb]; exact b⟩
  · simp only [Nat.testBit_or, Bool.or_eq_false_iff] at hw
    show hget r2.G k = hget G0 k
    rw [h2.old k (Nat.lt_of_lt_of_le hk h1.len) hw.2, h1.old k hk hw.1]

theorem Post.trans {K : Nat → Prop} {ρ0 ρ1 ρ2 : Rho} {G0 : Heap} {w0 w1 w2 : World} {r1 r2 : Res} {v1 v2 : Value} (s1 : Stat G0 r1) (s2 : Stat r1.G r2) (h1 : Post ρ0 ρ1 G0 w0 r1 v1 w1) (h2 : Post ρ1 ρ2 r1.G w1 r2 v2 w2)
    (hsim : Sim (fun k => K k ∨ G0.length ≤ k) ρ1 r1.G w1) (hK : ∀ k, k < G0.length → (r1.t ||| r2.t).testBit k = true → K k) (vc : Bool) :
    Post ρ0 ρ2 G0 w0 ⟨vc, r2.v, r2.G, r1.t ||| r2.t, r1.w ||| r2.w⟩ v2 w2 := by
  have hl1 := s1.len
  have hl2 := s2.len
  have kin : ∀ k, k < r1.G.length → r2.w.testBit k = true → K k ∨ G0.length ≤ k := fun k hk hb => by
    rcases Nat.lt_or_ge k G0.length with h | h
    · exact .inl (hK k h (by simp [Nat.testBit_or, (s2.wt k hk hb).1]))
    · exact .inr h
  have kin1 : ∀ k, k < G0.length → r1.w.testBit k = true → K k := fun k hk hb => hK k hk (by simp [Nat.testBit_or, (s1.wt k hk hb).1])
  have back : ∀ k p, k < G0.length → ρ1 k = some p → ρ0 k = some p := fun k p hk h => by rw [← h1.dom k (.inl hk)]; exact h
  have keep : ∀ k t p, (K k ∨ G0.length ≤ k) → k < r1.G.length → r2.w.testBit k = false → hget r1.G k = some t → ρ1 k = some p → w2.heap[p.1]? = w1.heap[p.1]? := by
    intro k t p hin hk hb hg hr
    obtain ⟨q, hq, hblk⟩ := hsim.blk k t hin hg
    rw [hr] at hq; cases hq
    refine h2.frame p.1 hblk.lt fun k2 p2 a b c d => ?_
    obtain ⟨_, t2, e⟩ := s2.wt k2 a b
    have := hsim.inj k2 k t2 t p2 p (kin k2 a b) hin e hg c hr d
    subst this
    rw [hb] at b; cases b
  exact {
    ext := h1.ext.trans h2.ext
    dom := fun k hk => by
      rcases hk with hk | hk
      · rw [h2.dom k (.inl (by omega)), h1.dom k (.inl hk)]
      · have hk' : r2.G.length ≤ k := hk
        rw [h2.dom k (.inr hk'), h1.dom k (.inr (by omega))]
    val := h2.val
    sim := fun k t hk hg => by
      have hg' : hget r2.G k = some t := hg
      rcases Nat.lt_or_ge k r1.G.length with hlt | hge
      · cases hb : r2.w.testBit k with
        | true => exact h2.sim k t (.inr hb) hg'
        | false =>
          have hg1 : hget r1.G k = some t := by rw [← s2.old k hlt hb]; exact hg'
          have hor : G0.length ≤ k ∨ r1.w.testBit k = true := by
            rcases hk with hk | hk
            · exact .inl hk
            · simp only [Nat.testBit_or, hb, Bool.or_false] at hk; exact .inr hk
          have hin : K k ∨ G0.length ≤ k := by
            rcases hor with h | h
            · exact .inr h
            · rcases Nat.lt_or_ge k G0.length with h' | h'
              · exact .inl (kin1 k h' h)
              · exact .inr h'
          obtain ⟨p, hp, hblk⟩ := hsim.blk k t hin hg1
          exact ⟨p, h2.ext k p hp, (hblk.mono h2.ext).same (keep k t p hin hlt hb hg1 hp)⟩
      · exact h2.sim k t (.inl hge) hg'
    new := fun k t p hk hg hr => by
      have hg' : hget r2.G k = some t := hg
      have old : ∀ t1 q, hget r1.G k = some t1 → ρ1 k = some q → q = p → w0.heap.size ≤ p.1 ∨ ∃ j q, j < G0.length ∧ (r1.w ||| r2.w).testBit j = true ∧ hget r2.G j = none ∧ ρ0 j = some q ∧ q.1 = p.1 := by
        intro t1 q hg1 hq e
        subst e
        rcases h1.new k t1 q hk hg1 hq with h | ⟨j, q2, a, b, c, d, e⟩
        · exact .inl h
        · refine .inr ⟨j, q2, a, by simp [Nat.testBit_or, b], ?_, d, e⟩
          cases hb : r2.w.testBit j with
          | true => obtain ⟨_, t3, h3⟩ := s2.wt j (by omega) hb; rw [h3] at c; cases c
          | false => rw [s2.old j (by omega) hb]; exact c
      rcases Nat.lt_or_ge k r1.G.length with hlt | hge
      · cases hb : r2.w.testBit k with
        | true =>
          obtain ⟨_, t2, h4⟩ := s2.wt k hlt hb
          obtain ⟨q, hq, _⟩ := hsim.blk k t2 (.inr hk) h4
          have : q = p := by have := h2.ext k q hq; rw [hr] at this; exact (Option.some.inj this).symm
          exact old t2 q h4 hq this
        | false =>
          have hg1 : hget r1.G k = some t := by rw [← s2.old k hlt hb]; exact hg'
          obtain ⟨q, hq, _⟩ := hsim.blk k t (.inr hk) hg1
          have : q = p := by have := h2.ext k q hq; rw [hr] at this; exact (Option.some.inj this).symm
          exact old t q hg1 hq this
      · rcases h2.new k t p hge hg' hr with h | ⟨j, q, a, b, c, d, e⟩
        · exact .inl (Nat.le_trans h1.size h)
        · obtain ⟨_, t2, h4⟩ := s2.wt j a b
          rcases Nat.lt_or_ge j G0.length with h5 | h5
          · exact .inr ⟨j, q, h5, by simp [Nat.testBit_or, b], c, back j q h5 d, e⟩
          · rcases h1.new j t2 q h5 h4 d with h | ⟨j', q', a', b', c', d', e'⟩
            · exact .inl (by omega)
            · refine .inr ⟨j', q', a', by simp [Nat.testBit_or, b'], ?_, d', e'.trans e⟩
              cases hb : r2.w.testBit j' with
              | true => obtain ⟨_, t3, h3⟩ := s2.wt j' (by omega) hb; rw [h3] at c'; cases c'
              | false => rw [s2.old j' (by omega) hb]; exact c'
    inj := fun k k' t t' p p' hk hk' hg hg' hr hr' he => by
      have hg2 : hget r2.G k = some t := hg
      have hg2' : hget r2.G k' = some t' := hg'
      -- those that were there
      have was : ∀ k t p, G0.length ≤ k → k < r1.G.length → hget r2.G k = some t → ρ2 k = some p → ∃ t1, hget r1.G k = some t1 ∧ ρ1 k = some p := by
        intro k t p hk hlt hg hr
        have : ∃ t1, hget r1.G k = some t1 := by
          cases hb : r2.w.testBit k with
          | true => exact (s2.wt k hlt hb).2
          | false => exact ⟨t, by rw [← s2.old k hlt hb]; exact hg⟩
        obtain ⟨t1, h3⟩ := this
        obtain ⟨q, hq, _⟩ := hsim.blk k t1 (.inr hk) h3
        have : q = p := by have := h2.ext k q hq; rw [hr] at this; exact (Option.some.inj this).symm
        subst this
        exact ⟨t1, h3, hq⟩
      have mixed : ∀ k k' t t' p p', G0.length ≤ k → k < r1.G.length → r1.G.length ≤ k' → hget r2.G k = some t → hget r2.G k' = some t' → ρ2 k = some p → ρ2 k' = some p' → p.1 ≠ p'.1 := by
        intro k k' t t' p p' hk hlt hge hg hg' hr hr' he
        obtain ⟨t1, h3, h4⟩ := was k t p hk hlt hg hr
        obtain ⟨q, hq, hblk⟩ := hsim.blk k t1 (.inr hk) h3
        rw [h4] at hq; cases hq
        rcases h2.new k' t' p' hge hg' hr' with h | ⟨j, q, a, b, c, d, e⟩
        · have := hblk.lt; omega
        · obtain ⟨_, t2, h5⟩ := s2.wt j a b
          have := hsim.inj j k t2 t1 q p (kin j a b) (.inr hk) h5 h3 d h4 (e.trans he.symm)
          subst this
          rw [c] at hg; cases hg
      rcases Nat.lt_or_ge k r1.G.length with hlt | hge <;> rcases Nat.lt_or_ge k' r1.G.length with hlt' | hge'
      · obtain ⟨t1, h3, h4⟩ := was k t p hk hlt hg2 hr
        obtain ⟨t1', h3', h4'⟩ := was k' t' p' hk' hlt' hg2' hr'
        exact hsim.inj k k' t1 t1' p p' (.inr hk) (.inr hk') h3 h3' h4 h4' he
      · exact absurd he (mixed k k' t t' p p' hk hlt hge' hg2 hg2' hr hr')
      · exact absurd he.symm (mixed k' k t' t p' p hk' hlt' hge hg2' hg2 hr' hr)
      · exact h2.inj k k' t t' p p' hge hge' hg2 hg2' hr hr' he
    frame := fun b hb hne => by
      rw [← h1.frame b hb fun k p a c d => hne k p a (by simp [Nat.testBit_or, c]) d]
      refine h2.frame b (Nat.lt_of_lt_of_le hb h1.size) fun k p a c d e => ?_
      rcases Nat.lt_or_ge k G0.length with h | h
      · exact hne k p h (by simp [Nat.testBit_or, c]) (back k p h d) e
      · obtain ⟨_, t2, h4⟩ := s2.wt k a c
        rcases h1.new k t2 p h h4 d with h5 | ⟨j, q, a', b', c', d', e'⟩
        · omega
        · exact hne j q a' (by simp [Nat.testBit_or, b']) d' (e'.trans e)
    size := Nat.le_trans h1.size h2.size
    os := h2.os.trans h1.os
    tape := h2.tape.trans h1.tape
    output := h2.output.trans h1.output }

/-- What grows along a run of code. -/
structure Grow (s s' : St) : Prop where
  vc : s'.vc = true → s.vc = true
  t : ∀ k, s.t.testBit k = true → s'.t.testBit k = true
  G : s.G.length ≤ s'.G.length
  tm : s'.tm.length = s.tm.length

theorem Grow.refl (s : St) : Grow s s := ⟨id, fun _ h => h, Nat.le_refl _, rfl⟩
theorem Grow.trans {a b c : St} (h : Grow a b) (h' : Grow b c) : Grow a c := ⟨fun x => h.vc (h'.vc x), fun k x => h'.t k (h.t k x), Nat.le_trans h.G h'.G, h'.tm.trans h.tm⟩

variable {P : Program} {env : Env}

theorem evRegion_grow (henv : EnvOK P env) {n : Cf} {ops : Array Oper} {draw : Bool} {s s' : St} {e : Ex} (h : evRegion P env n ops.toList draw s = some (e, s')) : Grow s s' := by
  unfold evRegion at h
  split at h
  · rename_i rs hrs
    cases hb : ((!draw || logsOK ops.toList rs s.G.length) && (!strict n ops.toList || vcAll rs)) with
    | false => rw [hb] at h; cases h
    | true =>
      rw [hb] at h
      simp only [cond_true, forceS_eq] at h
      cases h
      let U : Run P env := ⟨n.sy, ops, s.tm, s.G, rs, hrs⟩
      rw [Bool.and_eq_true] at hb
      refine ⟨fun x => (vcOf_spec hb.2 x).2, fun k x => by simp [Nat.testBit_or, x], ?_, ?_⟩
      · exact (U.out_stat henv).len
      · exact stTm_len _ _ _ _
  · cases h

theorem iter_grow {f : Step'} (hf : ∀ s e s', f s = some (e, s') → Grow s s') : ∀ (n : Nat) (s : St) (e : Ex) (s' : St), iter n f s = some (e, s') → Grow s s'
  | 0, _, _, _, h => by cases h
  | n + 1, s, e, s', h => by
    simp only [iter] at h
    split at h
    · rename_i s1 h1
      exact (hf _ _ _ h1).trans (iter_grow hf n s1 e s' h)
    · exact hf _ _ _ h

theorem evCode_grow (henv : EnvOK P env) {n : Cf} : ∀ (c : Code) (s : St) (e : Ex) (s' : St), evCode P env n c s = some (e, s') → Grow s s' := by
  intro c
  induction c with
  | skip => intro s e s' h; simp only [evCode] at h; cases h; exact Grow.refl s
  | region id ops draw => intro s e s' h; simp only [evCode] at h; exact evRegion_grow henv h
  | seq a b iha ihb =>
    intro s e s' h
    simp only [evCode] at h
    split at h
    · rename_i s1 h1
      exact (iha _ _ _ h1).trans (ihb _ _ _ h)
    · exact iha _ _ _ h
  | cond c x y ihx ihy =>
    intro s e s' h
    simp only [evCode] at h
    split at h
    · rename_i o ho
      split at h
      · cases o with
        | true =>
          have := ihx _ _ _ h
          exact ⟨fun z => by have := this.vc z; simp only [Bool.and_eq_true] at this; exact this.2.2, this.t, this.G, this.tm⟩
        | false =>
          have := ihy _ _ _ h
          exact ⟨fun z => by have := this.vc z; simp only [Bool.and_eq_true] at this; exact this.2.2, this.t, this.G, this.tm⟩
      · cases h
    split at h
    · have := ihx _ _ _ h
      exact ⟨fun z => by have := this.vc z; simp only [Bool.and_eq_true] at this; exact this.2, this.t, this.G, this.tm⟩
    · have := ihy _ _ _ h
      exact ⟨fun z => by have := this.vc z; simp only [Bool.and_eq_true] at this; exact this.2, this.t, this.G, this.tm⟩
    · cases h
  | block id b ih =>
    intro s e s' h
    simp only [evCode] at h
    split at h
    · rename_i id' s1 h1
      have := ih _ _ _ h1
      cases hb : Nat.beq id' id <;> rw [hb] at h <;> cases h <;> exact this
    · exact ih _ _ _ h
  | loop b ih => intro s e s' h; simp only [evCode] at h; exact iter_grow ih n.n s e s' h
  | exit id => intro s e s' h; simp only [evCode] at h; cases h; exact Grow.refl s
  | label => intro s e s' h; simp only [evCode] at h; cases h; exact Grow.refl s
  | goto l => intro s e s' h; simp only [evCode] at h; cases h; exact Grow.refl s
  | ret => intro s e s' h; simp only [evCode] at h; cases h; exact Grow.refl s
  | _ => intro s e s' h; simp [evCode] at h

/-- What a piece of code comes to. -/
def Lands' (K : Nat → Prop) (ρ0 : Rho) (G0 : Heap) (w0 : World) (dS : List Deferred) (m : Nat) (e : Ex) (s' : St) : Exit → Act → World → Prop :=
  fun e' a' w' => e' = e.to ∧ Rl K ρ0 G0 w0 dS m s' a' w'

theorem evRegion_sound (henv : EnvOK P env) (hmix : P.follows .mixedOrders = true) {K : Nat → Prop} {ρ0 : Rho} {G0 : Heap} {w0 : World} {dS : List Deferred} {m : Nat} {id : Nat} {n : Cf} {ops : Array Oper} {draw : Bool} {s s' : St} {e : Ex}
    (h : evRegion P env n ops.toList draw s = some (e, s')) (hvc : s'.vc = true) (hK : ∀ k, k < G0.length → s'.t.testBit k = true → K k) (hfr : ∀ k, G0.length ≤ k → k < s'.G.length → ρ0 k = none)
    {a : Act} {w : World} (hR : Rl K ρ0 G0 w0 dS m s a w) : (Code.region id ops draw).wp P (Lands' K ρ0 G0 w0 dS m e s') a w := by
  unfold evRegion at h
  split at h
  case h_2 => cases h
  rename_i rs hrs
  cases hb : ((!draw || logsOK ops.toList rs s.G.length) && (!strict n ops.toList || vcAll rs)) with
  | false => rw [hb] at h; cases h
  | true =>
    rw [hb] at h
    simp only [cond_true, forceS_eq] at h
    cases h
    obtain ⟨⟨ρ, hp, htm, hsim⟩, hsz, hdfr, hst, hlen⟩ := hR
    let U : Run P env := ⟨n.sy, ops, s.tm, s.G, rs, hrs⟩
    rw [Bool.and_eq_true] at hb
    have hvc := vcOf_spec hb.2 hvc
    have hb := hb.1
    have hl0 : G0.length ≤ s.G.length := hst.len
    have hK' : ∀ k, k < U.G0.length → U.out.t.testBit k = true → K k ∨ G0.length ≤ k := fun k _ hb => by
      rcases Nat.lt_or_ge k G0.length with h | h
      · exact .inl (hK k h (by
          show (s.t ||| tAll rs).testBit k = true
          rw [Nat.testBit_or]
          have : (tAll rs).testBit k = true := hb
          simp [this]))
      · exact .inr h
    have hfr' : ∀ k, U.G0.length ≤ k → k < U.out.G.length → ρ k = none := fun k h1 h2 => by
      rw [hp.dom k (.inr h1)]
      exact hfr k (Nat.le_trans hl0 h1) h2
    have hsim' : Sim (fun k => (K k ∨ G0.length ≤ k) ∨ U.G0.length ≤ k) ρ U.G0 w :=
      ⟨fun k t hk hg => hsim.blk k t (hk.elim (fun x => x) fun h => .inr (Nat.le_trans hl0 h)) hg,
       fun k k' t t' p p' hk hk' hg hg' => hsim.inj k k' t t' p p' (hk.elim (fun x => x) fun h => .inr (Nat.le_trans hl0 h)) (hk'.elim (fun x => x) fun h => .inr (Nat.le_trans hl0 h)) hg hg'⟩
    have hn : U.n = ops.toList.length := rfl
    have fin : ∀ a' w' dw, dw.heap = w.heap → dw.os = w.os → dw.tape = w.tape → dw.output = w.output → OutOK (fun k => K k ∨ G0.length ≤ k) ρ U.G0 dw a.defers U.tm0.length U.out a' w' →
        Rl K ρ0 G0 w0 dS m ⟨stTm ops.toList rs s.tm ops.toList.length, stG rs s.G ops.toList.length, vcOf n ops.toList rs s.vc, s.t ||| tAll rs, s.w ||| wAll rs⟩ a' w' := by
      intro a' w' dw hd1 hd2 hd3 hd4 ho
      obtain ⟨⟨ρ2, hp2, htm2, hsim2⟩, hsz2, hdfr2⟩ := ho
      have hp1 : Post ρ0 ρ G0 w0 s.res undef dw := by
        exact { ext := hp.ext, dom := hp.dom, val := hp.val, new := hp.new, inj := hp.inj
                sim := fun k t hk hg => by obtain ⟨p, h1, h2⟩ := hp.sim k t hk hg; exact ⟨p, h1, h2.same (by rw [hd1])⟩
                frame := fun b hb hne => by rw [hd1]; exact hp.frame b hb hne
                size := by rw [hd1]; exact hp.size
                os := hd2.trans hp.os
                tape := hd3.trans hp.tape
                output := hd4.trans hp.output }
      have hsim1 : Sim (fun k => K k ∨ G0.length ≤ k) ρ s.G dw := ⟨fun k t hk hg => by obtain ⟨p, h1, h2⟩ := hsim.blk k t hk hg; exact ⟨p, h1, h2.same (by rw [hd1])⟩, hsim.inj⟩
      have hst2 : Stat s.res.G ⟨true, .any, U.out.G, U.out.t, U.out.w⟩ := ⟨(U.out_stat henv).len, (U.out_stat henv).wt, (U.out_stat henv).old⟩
      refine ⟨⟨ρ2, Post.trans hst hst2 hp1 hp2 hsim1 hK true, htm2, ?_⟩, hsz2.trans hlen, hdfr2.trans hdfr, hst.trans hst2 true .any, ?_⟩
      · exact ⟨fun k t hk hg => hsim2.blk k t (.inl hk) hg, fun k k' t t' p p' hk hk' hg hg' => hsim2.inj k k' t t' p p' (.inl hk) (.inl hk') hg hg'⟩
      · show (stTm ops.toList rs s.tm ops.toList.length).length = m
        rw [stTm_len]; exact hlen
    have hsz' : a.tmps.size = U.tm0.length := hsz.trans hlen.symm
    cases draw with
    | false => exact region_seq henv U (K := fun k => K k ∨ G0.length ≤ k) hvc.1 hK' hfr' hsz' htm hsim' fun a' w' ho => ⟨rfl, fin a' w' w rfl rfl rfl rfl ho⟩
    | true =>
      simp only [Bool.not_true, Bool.false_or] at hb
      exact region_any henv hmix U (K := fun k => K k ∨ G0.length ≤ k) hvc.1 hb hK' hfr' hsz' htm hsim' fun a' w' dw h1 h2 h3 h4 ho => ⟨rfl, fin a' w' dw h1 h2 h3 h4 ho⟩

theorem iter_sound {K : Nat → Prop} {ρ0 : Rho} {G0 : Heap} {w0 : World} {dS : List Deferred} {m : Nat} {c : Code} {f : Step'}
    (hg : ∀ s e s', f s = some (e, s') → Grow s s')
    (hf : ∀ s e s', f s = some (e, s') → s'.vc = true → (∀ k, k < G0.length → s'.t.testBit k = true → K k) → (∀ k, G0.length ≤ k → k < s'.G.length → ρ0 k = none) → ∀ a w, Rl K ρ0 G0 w0 dS m s a w → c.wp P (Lands' K ρ0 G0 w0 dS m e s') a w) :
    ∀ (n : Nat) (s : St) (e : Ex) (s' : St), iter n f s = some (e, s') → s'.vc = true → (∀ k, k < G0.length → s'.t.testBit k = true → K k) → (∀ k, G0.length ≤ k → k < s'.G.length → ρ0 k = none) → ∀ a w, Rl K ρ0 G0 w0 dS m s a w →
      Code.rounds P c (Lands' K ρ0 G0 w0 dS m e s') n a w := by
  intro n
  induction n with
  | zero => intro s e s' h; cases h
  | succ n ih =>
    intro s e s' h hvc hK hfr a w hR
    rw [rounds_succ]
    simp only [iter] at h
    split at h
    · rename_i s1 h1
      have hgr := iter_grow hg n s1 e s' h
      have hc := hf s .normal s1 h1 (hgr.vc hvc) (fun k hk hb => hK k hk (hgr.t k hb)) (fun k hk hlt => hfr k hk (Nat.lt_of_lt_of_le hlt hgr.G)) a w hR
      refine wp_mono hc ?_
      rintro e1 a1 w1 ⟨rfl, hR1⟩
      exact ih s1 e s' h hvc hK hfr a1 w1 hR1
    · rename_i r hr
      have hc := hf s e s' h hvc hK hfr a w hR
      refine wp_mono hc ?_
      rintro e1 a1 w1 ⟨rfl, hR1⟩
      cases e
      · exact (hr s' h).elim
      all_goals exact ⟨rfl, hR1⟩

theorem evCode_sound (henv : EnvOK P env) (hmix : P.follows .mixedOrders = true) {n : Cf} {K : Nat → Prop} {ρ0 : Rho} {G0 : Heap} {w0 : World} {dS : List Deferred} {m : Nat} : ∀ (c : Code) (s : St) (e : Ex) (s' : St),
    evCode P env n c s = some (e, s') → s'.vc = true → (∀ k, k < G0.length → s'.t.testBit k = true → K k) → (∀ k, G0.length ≤ k → k < s'.G.length → ρ0 k = none) → ∀ a w, Rl K ρ0 G0 w0 dS m s a w → c.wp P (Lands' K ρ0 G0 w0 dS m e s') a w := by
  intro c
  induction c with
  | skip => intro s e s' h _ _ _ a w hR; simp only [evCode] at h; cases h; exact wp_skip ⟨rfl, hR⟩
  | region id ops draw => intro s e s' h hvc hK hfr a w hR; simp only [evCode] at h; exact evRegion_sound henv hmix h hvc hK hfr hR
  | seq x y ihx ihy =>
    intro s e s' h hvc hK hfr a w hR
    simp only [evCode] at h
    split at h
    · rename_i s1 h1
      have hgr := evCode_grow henv _ _ _ _ h
      refine wp_seq (wp_mono (ihx _ _ _ h1 (hgr.vc hvc) (fun k hk hb => hK k hk (hgr.t k hb)) (fun k hk hlt => hfr k hk (Nat.lt_of_lt_of_le hlt hgr.G)) a w hR) ?_)
      rintro e1 a1 w1 ⟨rfl, hR1⟩
      exact ihy _ _ _ h hvc hK hfr a1 w1 hR1
    · rename_i r hr
      refine wp_seq (wp_mono (ihx _ _ _ h hvc hK hfr a w hR) ?_)
      rintro e1 a1 w1 ⟨rfl, hR1⟩
      cases e
      · exact (hr s' h).elim
      all_goals exact ⟨rfl, hR1⟩
  | cond c x y ihx ihy =>
    intro s e s' h hvc hK hfr a w hR
    simp only [evCode] at h
    have hv : (∀ t, stripV (ev s.tm c) = .bool t → stripG (ev s.tm c) = true → a.eval c = .bool t) := by
      intro t ht hg
      obtain ⟨⟨ρ, _, htm, _⟩, _⟩ := hR
      have := strip_R (Act.eval_ev (x := c) (a := a) fun t _ => htm t) hg
      rw [ht] at this
      exact this
    split at h
    · rename_i o ho
      split at h
      · rename_i t ht
        cases o with
        | true =>
          have hgr := evCode_grow henv _ _ _ _ h
          have hvs := hgr.vc hvc
          simp only [Bool.and_eq_true] at hvs
          have hb := hv _ ht hvs.2.1
          rw [hvs.1] at hb
          exact wp_cond_true hb (ihx _ _ _ h hvc hK hfr a w ⟨hR.ex, hR.sz, hR.dfr, hR.stat, hR.len⟩)
        | false =>
          have hgr := evCode_grow henv _ _ _ _ h
          have hvs := hgr.vc hvc
          simp only [Bool.and_eq_true, Bool.not_eq_true'] at hvs
          have hb := hv _ ht hvs.2.1
          rw [hvs.1] at hb
          exact wp_cond_false hb (ihy _ _ _ h hvc hK hfr a w ⟨hR.ex, hR.sz, hR.dfr, hR.stat, hR.len⟩)
      · cases h
    split at h
    · rename_i ht
      have hgr := evCode_grow henv _ _ _ _ h
      have hvs := hgr.vc hvc
      simp only [Bool.and_eq_true] at hvs
      exact wp_cond_true (hv _ ht hvs.1) (ihx _ _ _ h hvc hK hfr a w ⟨hR.ex, hR.sz, hR.dfr, hR.stat, hR.len⟩)
    · rename_i ht
      have hgr := evCode_grow henv _ _ _ _ h
      have hvs := hgr.vc hvc
      simp only [Bool.and_eq_true] at hvs
      exact wp_cond_false (hv _ ht hvs.1) (ihy _ _ _ h hvc hK hfr a w ⟨hR.ex, hR.sz, hR.dfr, hR.stat, hR.len⟩)
    · cases h
  | block id b ih =>
    intro s e s' h hvc hK hfr a w hR
    simp only [evCode] at h
    split at h
    · rename_i id' s1 h1
      have hs : s1 = s' := by cases hb : Nat.beq id' id <;> rw [hb] at h <;> cases h <;> rfl
      subst hs
      refine wp_block (wp_mono (ih _ _ _ h1 hvc hK hfr a w hR) ?_)
      rintro e1 a1 w1 ⟨rfl, hR1⟩
      cases hb : Nat.beq id' id with
      | true =>
        rw [hb] at h; cases h
        have := Nat.eq_of_beq_eq_true hb
        show Exit.inBlock id _ (.exit id') a1 w1
        simp only [Exit.inBlock, this, if_true]
        exact ⟨rfl, hR1⟩
      | false =>
        rw [hb] at h; cases h
        have : ¬ id' = id := fun e => by rw [e, Nat.beq_refl] at hb; cases hb
        show Exit.inBlock id _ (.exit id') a1 w1
        simp only [Exit.inBlock, this, if_false]
        exact ⟨rfl, hR1⟩
    · rename_i r hr
      refine wp_block (wp_mono (ih _ _ _ h hvc hK hfr a w hR) ?_)
      rintro e1 a1 w1 ⟨rfl, hR1⟩
      cases e
      case exit id' => exact (hr id' s' h).elim
      all_goals exact ⟨rfl, hR1⟩
  | loop b ih =>
    intro s e s' h hvc hK hfr a w hR
    simp only [evCode] at h
    exact wp_loop_rounds n.n (iter_sound (evCode_grow henv b) (fun s e s' h => ih s e s' h) n.n s e s' h hvc hK hfr a w hR)
  | exit id => intro s e s' h _ _ _ a w hR; simp only [evCode] at h; cases h; exact wp_exit ⟨rfl, hR⟩
  | label => intro s e s' h _ _ _ a w hR; simp only [evCode] at h; cases h; exact wp_label ⟨rfl, hR⟩
  | goto l => intro s e s' h _ _ _ a w hR; simp only [evCode] at h; cases h; exact wp_goto ⟨rfl, hR⟩
  | ret => intro s e s' h _ _ _ a w hR; simp only [evCode] at h; cases h; exact wp_ret ⟨rfl, hR⟩
  | _ => intro s e s' h; simp [evCode] at h

theorem Stat.refl' (s : St) : Stat s.G ⟨true, .any, s.G, 0, 0⟩ := Stat.pure _ _ _ _

/-- What code does to the abstract heap, whatever was logged before. -/
structure StatC (s s' : St) : Prop where
  ex : ∃ t w, Stat s.G ⟨true, .any, s'.G, t, w⟩ ∧ s'.t = s.t ||| t ∧ s'.w = s.w ||| w

theorem StatC.refl (s s' : St) (hG : s'.G = s.G) (ht : s'.t = s.t) (hw : s'.w = s.w) : StatC s s' := ⟨0, 0, by rw [hG]; exact Stat.pure _ _ _ _, by simp [ht], by simp [hw]⟩
theorem StatC.trans {a b c : St} (h : StatC a b) (h' : StatC b c) : StatC a c := by
  obtain ⟨t1, w1, s1, e1, e2⟩ := h
  obtain ⟨t2, w2, s2, e3, e4⟩ := h'
  exact ⟨t1 ||| t2, w1 ||| w2, s1.trans s2 true .any, by rw [e3, e1, Nat.or_assoc], by rw [e4, e2, Nat.or_assoc]⟩

theorem evRegion_statC (henv : EnvOK P env) {n : Cf} {ops : Array Oper} {draw : Bool} {s s' : St} {e : Ex} (h : evRegion P env n ops.toList draw s = some (e, s')) : StatC s s' := by
  unfold evRegion at h
  split at h
  · rename_i rs hrs
    cases hb : ((!draw || logsOK ops.toList rs s.G.length) && (!strict n ops.toList || vcAll rs)) with
    | false => rw [hb] at h; cases h
    | true =>
      rw [hb] at h
      simp only [cond_true, forceS_eq] at h
      cases h
      let U : Run P env := ⟨n.sy, ops, s.tm, s.G, rs, hrs⟩
      exact ⟨tAll rs, wAll rs, ⟨(U.out_stat henv).len, (U.out_stat henv).wt, (U.out_stat henv).old⟩, rfl, rfl⟩
  · cases h

theorem iter_statC {f : Step'} (hf : ∀ s e s', f s = some (e, s') → StatC s s') : ∀ (n : Nat) (s : St) (e : Ex) (s' : St), iter n f s = some (e, s') → StatC s s'
  | 0, _, _, _, h => by cases h
  | n + 1, s, e, s', h => by
    simp only [iter] at h
    split at h
    · rename_i s1 h1
      exact (hf _ _ _ h1).trans (iter_statC hf n s1 e s' h)
    · exact hf _ _ _ h

theorem evCode_statC (henv : EnvOK P env) {n : Cf} : ∀ (c : Code) (s : St) (e : Ex) (s' : St), evCode P env n c s = some (e, s') → StatC s s' := by
  intro c
  induction c with
  | skip => intro s e s' h; simp only [evCode] at h; cases h; exact .refl _ _ rfl rfl rfl
  | region id ops draw => intro s e s' h; simp only [evCode] at h; exact evRegion_statC henv h
  | seq a b iha ihb =>
    intro s e s' h
    simp only [evCode] at h
    split at h
    · rename_i s1 h1
      exact (iha _ _ _ h1).trans (ihb _ _ _ h)
    · exact iha _ _ _ h
  | cond c x y ihx ihy =>
    intro s e s' h
    simp only [evCode] at h
    split at h
    · rename_i o ho
      split at h
      · rename_i t ht
        cases o with
        | true => exact (StatC.refl s ⟨s.tm, s.G, t && (stripG (ev s.tm c) && s.vc), s.t, s.w⟩ rfl rfl rfl).trans (ihx _ _ _ h)
        | false => exact (StatC.refl s ⟨s.tm, s.G, !t && (stripG (ev s.tm c) && s.vc), s.t, s.w⟩ rfl rfl rfl).trans (ihy _ _ _ h)
      · cases h
    split at h
    · exact (StatC.refl s ⟨s.tm, s.G, stripG (ev s.tm c) && s.vc, s.t, s.w⟩ rfl rfl rfl).trans (ihx _ _ _ h)
    · exact (StatC.refl s ⟨s.tm, s.G, stripG (ev s.tm c) && s.vc, s.t, s.w⟩ rfl rfl rfl).trans (ihy _ _ _ h)
    · cases h
  | block id b ih =>
    intro s e s' h
    simp only [evCode] at h
    split at h
    · rename_i id' s1 h1
      have := ih _ _ _ h1
      cases hb : Nat.beq id' id <;> rw [hb] at h <;> cases h <;> exact this
    · exact ih _ _ _ h
  | loop b ih => intro s e s' h; simp only [evCode] at h; exact iter_statC ih n.n s e s' h
  | exit id => intro s e s' h; simp only [evCode] at h; cases h; exact .refl _ _ rfl rfl rfl
  | label => intro s e s' h; simp only [evCode] at h; cases h; exact .refl _ _ rfl rfl rfl
  | goto l => intro s e s' h; simp only [evCode] at h; cases h; exact .refl _ _ rfl rfl rfl
  | ret => intro s e s' h; simp only [evCode] at h; cases h; exact .refl _ _ rfl rfl rfl
  | _ => intro s e s' h; simp [evCode] at h

theorem evCode_stat (henv : EnvOK P env) {n : Cf} (c : Code) (tm : List T) (G : Heap) {e : Ex} {s : St} (h : evCode P env n c ⟨tm, G, true, 0, 0⟩ = some (e, s)) : Stat G s.res := by
  obtain ⟨t, w, h1, h2, h3⟩ := evCode_statC henv c _ e s h
  simp only [Nat.zero_or] at h2 h3
  unfold St.res
  rw [h2, h3]
  exact h1

/-! ### Functions -/

def evResult (P : Program) (s : St) : ResultVar → Option (Bool × T × Nat)
  | .tmp t => some (true, tget s.tm t, 0)
  | .cell a t => match evLoad P s.G t (stripV (tget s.tm a)) with
    | some r => some (stripG (tget s.tm a) && r.vc, r.v, r.t)
    | none => none

def evResults (P : Program) (s : St) : List ResultVar → Option (Bool × List T × Nat)
  | [] => some (true, [], 0)
  | x :: r => match evResult P s x, evResults P s r with
    | some (vc, v, t), some (vc', vs, t') => some (vc && vc', v :: vs, t ||| t')
    | _, _ => none

def one : List T → T
  | [v] => v
  | vs => .tup (ofL vs)

def undefs : Nat → List T
  | 0 => []
  | n + 1 => .any :: undefs n

def fullR (G : Heap) (s : St) (vc : Bool) (vs : List T) (t : Nat) : Res := ⟨vc && s.vc, one vs, s.G, s.t ||| t, s.w⟩

/-- A function's body, from its arguments on. -/
def evFn (P : Program) (env : Env) (n : Cf) (fn : Func) : Model := fun args G =>
  match fn.body with
  | none => none
  | some c => match evCode P env n c ⟨args ++ undefs (fn.ntmps - args.length), G, true, 0, 0⟩ with
    | some (.ret, s) => match evResults P s fn.results.toList with
      | some (vc, vs, t) => some (fullR G s vc vs t)
      | none => none
    | some (.normal, s) => match evResults P s fn.results.toList with
      | some (vc, vs, t) => some (fullR G s vc vs t)
      | none => none
    | _ => none

theorem undefs_len (n : Nat) : (undefs n).length = n := by induction n <;> simp [undefs, *]

theorem VLs_len {ρ : Rho} : ∀ {ts : List T} {xs : List Value}, VLs ρ ts xs → ts.length = xs.length
  | [], _, h => by cases h; rfl
  | _ :: _, _, ⟨y, ys, e, _, hys⟩ => by subst e; simp [VLs_len hys]

theorem VLs_tget {ρ : Rho} : ∀ {ts : List T} {xs : List Value} (n t : Nat), VLs ρ ts xs → (R ρ (tget (ts ++ undefs n) t)).v ((xs ++ List.replicate n undef).getD t undef)
  | [], _, n, t, h => by
    cases h
    have : tget (undefs n) t = .any := by
      induction n generalizing t with
      | zero => rfl
      | succ n ih => cases t with
        | zero => rfl
        | succ t => exact ih t
    rw [List.nil_append, this]; trivial
  | _ :: _, _, n, 0, ⟨y, ys, e, hy, _⟩ => by subst e; exact hy
  | _ :: _, _, n, t + 1, ⟨y, ys, e, _, hys⟩ => by subst e; exact VLs_tget n t hys

def resSem (tmps : Array Value) : ResultVar → Sem Value
  | .tmp t => pure (tmps.getD t undef)
  | .cell ad t => do loadVar t (← asAddr (tmps.getD ad undef))

theorem evResults_sound {P : Program} {s : St} {ρ : Rho} {a : Act} {w : World} (htm : ∀ t, (R ρ (tget s.tm t)).v (a.tmps.getD t undef)) : ∀ {rs : List ResultVar} {vc : Bool} {vs : List T} {t : Nat},
    evResults P s rs = some (vc, vs, t) → vc = true → Sim (bitK t) ρ s.G w → ∃ xs, (rs.mapM (resSem a.tmps)).run P w = .ok xs w ∧ VLs ρ vs xs
  | [], _, _, _, h, _, _ => by cases h; exact ⟨[], rfl, rfl⟩
  | x :: r, vc, vs, t, h, hvc, hsim => by
    simp only [evResults] at h
    split at h
    · rename_i vc1 v t1 vc2 vs2 t2 h1 h2
      cases h
      simp only [Bool.and_eq_true] at hvc
      obtain ⟨xs, g1, g2⟩ := evResults_sound htm (rs := r) h2 hvc.2 ⟨fun k t hk hg => hsim.blk k t (by unfold bitK at *; simp [Nat.testBit_or, hk]) hg,
        fun k k' t t' p p' hk hk' => hsim.inj k k' t t' p p' (by unfold bitK at *; simp [Nat.testBit_or, hk]) (by unfold bitK at *; simp [Nat.testBit_or, hk'])⟩
      cases x with
      | tmp t =>
        cases h1
        refine ⟨a.tmps.getD t undef :: xs, ?_, _, _, rfl, htm t, g2⟩
        rw [List.mapM_cons]
        simp only [Sem.run_bind, resSem, Sem.run_pure, Result.andThen_ok, g1]
      | cell ad t =>
        simp only [evResult] at h1
        split at h1
        · rename_i rr hrr
          cases h1
          simp only [Bool.and_eq_true] at hvc
          have hx := strip_R (htm ad) hvc.1.1
          obtain ⟨v', k1, _, k2⟩ := evLoad_sound (P := P) hrr hvc.1.2 hx ⟨fun k t hk hg => hsim.blk k t (by unfold bitK at *; simp [Nat.testBit_or, hk]) hg,
            fun k k' t t' p p' hk hk' => hsim.inj k k' t t' p p' (by unfold bitK at *; simp [Nat.testBit_or, hk]) (by unfold bitK at *; simp [Nat.testBit_or, hk'])⟩
          have hrv : (R ρ rr.v).v v' := by
            have hG : rr.G = s.G := by
              unfold evLoad at hrr
              split at hrr
              · split at hrr
                · split at hrr
                  · rename_i u n _ _
                    cases hb : (Nat.beq u.size n && aggIs P t u.isAgg) <;> rw [hb] at hrr <;> cases hrr
                    rfl
                  · cases hrr
                · cases hrr
              · cases hrr
            rename_i ρ'
            have : ρ' = ρ := funext fun k => k2.dom k (by rw [hG]; omega)
            rw [← this]; exact k2.val
          refine ⟨v' :: xs, ?_, _, _, rfl, hrv, g2⟩
          -- the address is one
          have haddr : ∃ b o, a.tmps.getD ad undef = .pointer (some ⟨b, o, none⟩) := by
            unfold evLoad at hrr
            split at hrr
            · rename_i id path he
              rw [he] at hx
              obtain ⟨b, sz, _, hxe⟩ := hx
              exact ⟨b, _, hxe⟩
            · cases hrr
          obtain ⟨b, o, he⟩ := haddr
          rw [he] at k1
          simp only [Instr.loadAt, Instr.sureAddr, Sem.run_bind, Sem.run_pure, Result.andThen_ok] at k1
          have k3 : (resSem a.tmps (.cell ad t)).run P w = .ok v' w := by
            simp only [resSem, he, asAddr, Sem.run_bind, Sem.run_pure, Result.andThen_ok, k1]
          rw [List.mapM_cons]
          simp only [Sem.run_bind, k3, Sem.run_pure, Result.andThen_ok, g1]
        · cases h1
    · cases h

theorem one_sound {ρ : Rho} {vs : List T} {xs : List Value} (h : VLs ρ vs xs) : (R ρ (one vs)).v (if h : xs.toArray.size = 1 then xs.toArray[0] else .tuple xs.toArray) := by
  cases vs with
  | nil => cases h; exact ⟨#[], rfl, rfl⟩
  | cons v vs =>
    cases vs with
    | nil =>
      obtain ⟨y, ys, rfl, hy, hys⟩ := h
      cases hys
      simp only [one]
      exact hy
    | cons v2 vs =>
      have hl := VLs_len h
      have : ¬ xs.toArray.size = 1 := by simp at hl ⊢; omega
      rw [dif_neg this]
      exact ⟨xs.toArray, rfl, ofL_l h⟩

theorem SoundM.of_ev (henv : EnvOK P env) (hmix : P.follows .mixedOrders = true) {n : Cf} {f : FuncId} {fn : Func} (hf : P.funcs[f]? = some fn) (hname : (fn.name == "runtime.NumGoroutine") = false) (hbody : fn.body.isNone = false) : SoundM P f (evFn P env n fn) := by
  have shape : ∀ args G r, evFn P env n fn args G = some r → ∃ c e s vc vs t, fn.body = some c ∧ evCode P env n c ⟨args ++ undefs (fn.ntmps - args.length), G, true, 0, 0⟩ = some (e, s) ∧ (e = .ret ∨ e = .normal) ∧ evResults P s fn.results.toList = some (vc, vs, t) ∧ r = fullR G s vc vs t := by
    intro args G r h
    unfold evFn at h
    split at h
    · cases h
    · rename_i c hc
      split at h
      · rename_i s hs
        split at h
        · rename_i vc vs t hr
          cases h
          exact ⟨c, _, s, vc, vs, t, hc, hs, .inl rfl, hr, rfl⟩
        · cases h
      · rename_i s hs
        split at h
        · rename_i vc vs t hr
          cases h
          exact ⟨c, _, s, vc, vs, t, hc, hs, .inr rfl, hr, rfl⟩
        · cases h
      · cases h
  have statc : ∀ {c : Code} {args : List T} {G : Heap} {e : Ex} {s : St}, evCode P env n c ⟨args ++ undefs (fn.ntmps - args.length), G, true, 0, 0⟩ = some (e, s) → Stat G s.res := fun h => evCode_stat henv _ _ _ h
  refine SoundM.of_does ⟨fn, hf, hname, hbody⟩ ?_ ?_
  · intro args G r h
    obtain ⟨c, e, s, vc, vs, t, _, h2, _, _, rfl⟩ := shape args G r h
    have := statc h2
    exact ⟨this.len, fun k hk hw => by
      obtain ⟨a, b⟩ := this.wt k hk hw
      refine ⟨?_, b⟩
      show (s.t ||| t).testBit k = true
      rw [Nat.testBit_or]
      have a' : s.t.testBit k = true := a
      simp [a'], this.old⟩
  · intro args G r h hvc ρ w args' hsim hfr hargs
    obtain ⟨c, e, s, vc, vs, t, hc, h2, he, h3, rfl⟩ := shape args G r h
    simp only [fullR, Bool.and_eq_true] at hvc
    unfold Does
    refine calls_of_wp hf hc ?_
    have hst := statc h2
    have hlen := VLs_len hargs
    have hR0 : Rl (bitK (s.t ||| t)) ρ G w [] (args ++ undefs (fn.ntmps - args.length)).length ⟨args ++ undefs (fn.ntmps - args.length), G, true, 0, 0⟩
        { tmps := args'.toArray ++ Array.replicate (fn.ntmps - args'.toArray.size) undef, defers := [] } w := by
      refine ⟨⟨ρ, ?_, ?_, ?_⟩, ?_, rfl, ?_, rfl⟩
      · have hv : (R ρ T.any).v undef := trivial
        exact Post.pure hv 0
      · intro t'
        have := VLs_tget (fn.ntmps - args.length) t' hargs
        have e1 : (args'.toArray ++ Array.replicate (fn.ntmps - args'.toArray.size) undef).getD t' undef = (args' ++ List.replicate (fn.ntmps - args.length) undef).getD t' undef := by
          simp [Array.getD_eq_getD_getElem?, List.getD_eq_getElem?_getD, hlen, Array.getElem?_append, List.getElem?_append, Array.getElem?_replicate, List.getElem?_replicate]
        rw [e1]; exact this
      · refine ⟨fun k t' hk hg => hsim.blk k t' ?_ hg, fun k k' t' t'' p p' hk hk' hg hg' => hsim.inj k k' t' t'' p p' ?_ ?_ hg hg'⟩
        · rcases hk with hk | hk
          · exact hk
          · have : k < G.length := hget_lt hg; omega
        · rcases hk with hk | hk
          · exact hk
          · have : k < G.length := hget_lt hg
            omega
        · rcases hk' with hk' | hk'
          · exact hk'
          · have : k' < G.length := hget_lt hg'
            omega
      · simp [hlen, undefs_len]
      · exact Stat.pure _ _ _ _
    have hcode := evCode_sound henv hmix (K := bitK (s.t ||| t)) (ρ0 := ρ) (G0 := G) (w0 := w) (dS := []) c _ e s h2 hvc.2 (fun k _ hb => by
      unfold bitK; rw [Nat.testBit_or, hb]; rfl) (fun k h4 h5 => hfr k h4 h5) _ _ hR0
    refine wp_mono hcode ?_
    rintro e' a' w' ⟨rfl, hR⟩
    obtain ⟨⟨ρ', hp, htm, hsim'⟩, hsz, hdfr, hst', hlen'⟩ := hR
    obtain ⟨xs, g1, g2⟩ := evResults_sound (P := P) htm h3 hvc.1 ⟨fun k t' hk hg => hsim'.blk k t' (by
        left; unfold bitK at *; rw [Nat.testBit_or, hk, Bool.or_true]) hg, fun k k' t' t'' p p' hk hk' => hsim'.inj k k' t' t'' p p' (by
        left; unfold bitK at *; rw [Nat.testBit_or, hk, Bool.or_true]) (by
        left; unfold bitK at *; rw [Nat.testBit_or, hk', Bool.or_true])⟩
    have hres : (results fn a'.tmps).run P w' = .ok (if h : xs.toArray.size = 1 then xs.toArray[0] else .tuple xs.toArray) w' := by
      have : results fn a'.tmps = (do let vs ← fn.results.mapM (resSem a'.tmps); pure (if h : vs.size = 1 then vs[0] else .tuple vs)) := rfl
      rw [this, Sem.run_bind, Array.mapM_eq_mapM_toList, Sem.run_map, g1]
      rfl
    have fin : bodyPost P fn (fun e w'_1 => ∃ v', e = .returned v' ∧ ∃ ρ', Post ρ ρ' G w (fullR G s vc vs t) v' w'_1) .ret a' w' := by
      refine ⟨hdfr, _, hres, _, rfl, ρ', ?_⟩
      exact ⟨hp.ext, hp.dom, one_sound g2, hp.sim, hp.new, hp.inj, hp.frame, hp.size, hp.os, hp.tape, hp.output⟩
    rcases he with rfl | rfl
    · exact fin
    · exact fin

end
end Go.AE

/-! Functions that only compute: pure models. No condition. -/
namespace Go.AE
open Go
noncomputable section

abbrev PModel := List T → Option (Bool × T)

def pureModel (m : PModel) : Model := fun args G =>
  match m args with
  | some (vc, v) => some ⟨vc, v, G, 0, 0⟩
  | none => none

def argsOK : List T → Bool
  | [] => true
  | a :: r => noPtr a && argsOK r

theorem argsOK_VLs {ρ ρ' : Rho} : ∀ {ts : List T} {xs : List Value}, argsOK ts = true → VLs ρ ts xs → VLs ρ' ts xs
  | [], _, _, h => h
  | t :: ts, _, ha, ⟨y, ys, e, hy, hys⟩ => by
    simp only [argsOK, Bool.and_eq_true] at ha
    exact ⟨y, ys, e, (noPtr_R ha.1 ρ ρ').2.1 _ hy, argsOK_VLs ha.2 hys⟩

theorem SoundM.pure {P : Program} {f : FuncId} {M : Model} {m : PModel} (hs : SoundM P f M)
    (h : ∀ args vc v, m args = some (vc, v) → vc = true → argsOK args = true ∧ noPtr v = true ∧ ∃ r, M args [] = some r ∧ r.vc = true ∧ r.v = v) : SoundM P f (pureModel m) := by
  refine ⟨?_, ?_⟩
  · intro args G r hr
    unfold pureModel at hr
    split at hr
    · cases hr; exact Stat.pure _ _ _ _
    · cases hr
  · intro args G r hr hvc ρ w args' _ _ hargs
    unfold pureModel at hr
    split at hr
    · rename_i vc v hm
      cases hr
      obtain ⟨h1, h2, r, h3, h4, h5⟩ := h args vc v hm hvc
      have hd := hs.lands args [] r h3 h4 (fun _ => none) w args' ⟨fun k t _ hg => by simp [hget] at hg, fun k k' t t' p p' _ _ hg => by simp [hget] at hg⟩ (fun _ _ _ => rfl) (argsOK_VLs h1 hargs)
      refine Lands.mono ?_ hd
      rintro v' w' ⟨ρ', hp⟩
      refine ⟨ρ, ?_⟩
      have hv : (R ρ v).v v' := by
        have := hp.val
        rw [h5] at this
        exact (noPtr_R h2 ρ' ρ).2.1 _ this
      exact {
        ext := Rho.Ext.refl ρ
        dom := fun _ _ => rfl
        val := hv
        sim := fun k t hk hg => by
          rcases hk with hk | hk
          · have : k < G.length := hget_lt hg
            omega
          · simp at hk
        new := fun k t p hk hg => by
          have : k < G.length := hget_lt hg
          omega
        inj := fun k k' t t' p p' hk _ hg => by
          have : k < G.length := hget_lt hg
          omega
        frame := fun b hb _ => hp.frame b hb fun k p hk => by simp at hk
        size := hp.size
        os := hp.os
        tape := hp.tape
        output := hp.output }
    · cases hr

/-- The same, where what is told of arguments and value is less than what a model says; a model for each case. -/
theorem SoundM.refineX {P : Program} {f : FuncId} {m : PModel}
    (h : ∀ args vc v, m args = some (vc, v) → vc = true → ∀ ρ xs, VLs ρ args xs → ∃ M, SoundM P f M ∧ ∃ args2, VLs (fun _ => none) args2 xs ∧ ∃ r, M args2 [] = some r ∧ r.vc = true ∧ ∀ ρ' x, (R ρ' r.v).v x → (R ρ v).v x) : SoundM P f (pureModel m) := by
  refine ⟨?_, ?_⟩
  · intro args G r hr
    unfold pureModel at hr
    split at hr
    · cases hr; exact Stat.pure _ _ _ _
    · cases hr
  · intro args G r hr hvc ρ w args' _ _ hargs
    unfold pureModel at hr
    split at hr
    · rename_i vc v hm
      cases hr
      obtain ⟨M, hs, args2, h1, r, h3, h4, h5⟩ := h args vc v hm hvc ρ args' hargs
      have hd := hs.lands args2 [] r h3 h4 (fun _ => none) w args' ⟨fun k t _ hg => by simp [hget] at hg, fun k k' t t' p p' _ _ hg => by simp [hget] at hg⟩ (fun _ _ _ => rfl) h1
      refine Lands.mono ?_ hd
      rintro v' w' ⟨ρ', hp⟩
      refine ⟨ρ, ?_⟩
      exact {
        ext := Rho.Ext.refl ρ
        dom := fun _ _ => rfl
        val := h5 ρ' v' hp.val
        sim := fun k t hk hg => by
          rcases hk with hk | hk
          · have : k < G.length := hget_lt hg
            omega
          · simp at hk
        new := fun k t p hk hg => by
          have : k < G.length := hget_lt hg
          omega
        inj := fun k k' t t' p p' hk _ hg => by
          have : k < G.length := hget_lt hg
          omega
        frame := fun b hb _ => hp.frame b hb fun k p hk => by simp at hk
        size := hp.size
        os := hp.os
        tape := hp.tape
        output := hp.output }
    · cases hr

theorem SoundM.refine {P : Program} {f : FuncId} {M : Model} {m : PModel} (hs : SoundM P f M)
    (h : ∀ args vc v, m args = some (vc, v) → vc = true → ∀ ρ xs, VLs ρ args xs → ∃ args2, VLs (fun _ => none) args2 xs ∧ ∃ r, M args2 [] = some r ∧ r.vc = true ∧ ∀ ρ' x, (R ρ' r.v).v x → (R ρ v).v x) : SoundM P f (pureModel m) :=
  SoundM.refineX fun args vc v hm hvc ρ xs hx => ⟨M, hs, h args vc v hm hvc ρ xs hx⟩

/-- Condition and value of a run in an empty memory. -/
def mv (M : Model) (args : List T) : Option (Bool × T) := (M args []).map fun r => (r.vc, r.v)
theorem mv_some {M : Model} {args : List T} {vc : Bool} {v : T} (h : mv M args = some (vc, v)) : ∃ r, M args [] = some r ∧ r.vc = vc ∧ r.v = v := by
  unfold mv at h
  cases hm : M args [] with
  | none => rw [hm] at h; cases h
  | some r => rw [hm] at h; cases h; exact ⟨r, rfl, rfl, rfl⟩

/-- A model of one function, beside others. -/
def Env.set (env : Env) (f : FuncId) (m : Model) : Env := fun g => bif Nat.beq g f then some m else env g

theorem EnvOK.set {P : Program} {env : Env} (h : EnvOK P env) {f : FuncId} {m : Model} (hm : SoundM P f m) : EnvOK P (env.set f m) := by
  intro g m' hg
  unfold Env.set at hg
  cases hb : Nat.beq g f with
  | true =>
    rw [hb] at hg
    have := Nat.eq_of_beq_eq_true hb
    subst this
    cases hg
    exact hm
  | false =>
    rw [hb] at hg
    exact h g m' hg

def env0 : Env := fun _ => none
theorem env0_ok (P : Program) : EnvOK P env0 := fun _ _ h => by cases h

end
end Go.AE

/-! Runs of code between abstract states: rules, loops, what is forgotten. No condition. -/
namespace Go.AE
open Go
noncomputable section

variable {P : Program} {env : Env}

/-- From a state code comes to another one, in a function that began with n0 known blocks. -/
structure Tr (P : Program) (n0 : Nat) (c : Code) (s : St) (e : Ex) (s' : St) : Prop where
  len : s.G.length ≤ s'.G.length
  t : ∀ k, k < n0 → s.t.testBit k = true → s'.t.testBit k = true
  tm : s'.tm.length = s.tm.length
  run : ∀ K ρ0 G0 w0 dS m, G0.length = n0 → (∀ k, k < G0.length → s'.t.testBit k = true → K k) → (∀ k, G0.length ≤ k → ρ0 k = none) →
    ∀ a w, Rl K ρ0 G0 w0 dS m s a w → c.wp P (Lands' K ρ0 G0 w0 dS m e s') a w

structure TrN (P : Program) (n0 : Nat) (b : Code) (n : Nat) (s : St) (e : Ex) (s' : St) : Prop where
  len : s.G.length ≤ s'.G.length
  t : ∀ k, k < n0 → s.t.testBit k = true → s'.t.testBit k = true
  tm : s'.tm.length = s.tm.length
  run : ∀ K ρ0 G0 w0 dS m, G0.length = n0 → (∀ k, k < G0.length → s'.t.testBit k = true → K k) → (∀ k, G0.length ≤ k → ρ0 k = none) →
    ∀ a w, Rl K ρ0 G0 w0 dS m s a w → Code.rounds P b (Lands' K ρ0 G0 w0 dS m e s') n a w

theorem Rl.vc {K : Nat → Prop} {ρ0 : Rho} {G0 : Heap} {w0 : World} {dS : List Deferred} {m : Nat} {s : St} {a : Act} {w : World} (h : Rl K ρ0 G0 w0 dS m s a w) (vc : Bool) : Rl K ρ0 G0 w0 dS m ⟨s.tm, s.G, vc, s.t, s.w⟩ a w :=
  ⟨h.ex, h.sz, h.dfr, h.stat, h.len⟩

theorem Tr.of_ev (henv : EnvOK P env) (hmix : P.follows .mixedOrders = true) {n : Cf} {n0 : Nat} {c : Code} {s : St} {e : Ex} {vc : Bool} {tm' : List T} {G' : Heap} {t' w' : Nat}
    (h : evCode P env n c s = some (e, ⟨tm', G', vc, t', w'⟩)) (hvc : vc = true) : Tr P n0 c s e ⟨tm', G', true, t', w'⟩ := by
  subst hvc
  have hg := evCode_grow henv _ _ _ _ h
  exact ⟨hg.G, fun k _ => hg.t k, hg.tm, fun K ρ0 G0 w0 dS m _ h1 h2 a w hR => evCode_sound henv hmix c s e _ h rfl h1 (fun k hk _ => h2 k hk) a w hR⟩

theorem Tr.seq {n0 : Nat} {x y : Code} {s s1 s2 : St} {e : Ex} (h : Tr P n0 x s .normal s1) (h' : Tr P n0 y s1 e s2) : Tr P n0 (.seq x y) s e s2 :=
  ⟨Nat.le_trans h.len h'.len, fun k hk hb => h'.t k hk (h.t k hk hb), h'.tm.trans h.tm, fun K ρ0 G0 w0 dS m hn h1 h2 a w hR =>
    wp_seq (wp_mono (h.run K ρ0 G0 w0 dS m hn (fun k hk hb => h1 k hk (h'.t k (hn ▸ hk) hb)) h2 a w hR) (by
      rintro e1 a1 w1 ⟨rfl, hR1⟩
      exact h'.run K ρ0 G0 w0 dS m hn h1 h2 a1 w1 hR1))⟩

theorem Tr.seqX {n0 : Nat} {x y : Code} {s s1 : St} {e : Ex} (h : Tr P n0 x s e s1) (he : e ≠ .normal) : Tr P n0 (.seq x y) s e s1 :=
  ⟨h.len, h.t, h.tm, fun K ρ0 G0 w0 dS m hn h1 h2 a w hR => wp_seq (wp_mono (h.run K ρ0 G0 w0 dS m hn h1 h2 a w hR) (by
      rintro e1 a1 w1 ⟨rfl, hR1⟩
      cases e
      · exact (he rfl).elim
      all_goals exact ⟨rfl, hR1⟩))⟩

theorem Tr.blockX {n0 id : Nat} {b : Code} {s s1 : St} (h : Tr P n0 b s (.exit id) s1) : Tr P n0 (.block id b) s .normal s1 :=
  ⟨h.len, h.t, h.tm, fun K ρ0 G0 w0 dS m hn h1 h2 a w hR => wp_block (wp_mono (h.run K ρ0 G0 w0 dS m hn h1 h2 a w hR) (by
      rintro e1 a1 w1 ⟨rfl, hR1⟩
      show Exit.inBlock id _ (.exit id) a1 w1
      simp only [Exit.inBlock, if_true]
      exact ⟨rfl, hR1⟩))⟩

theorem Tr.block {n0 id : Nat} {b : Code} {s s1 : St} {e : Ex} (h : Tr P n0 b s e s1) (he : ∀ i, e = .exit i → i ≠ id) : Tr P n0 (.block id b) s e s1 :=
  ⟨h.len, h.t, h.tm, fun K ρ0 G0 w0 dS m hn h1 h2 a w hR => wp_block (wp_mono (h.run K ρ0 G0 w0 dS m hn h1 h2 a w hR) (by
      rintro e1 a1 w1 ⟨rfl, hR1⟩
      cases e
      case exit i =>
        show Exit.inBlock id _ (.exit i) a1 w1
        simp only [Exit.inBlock, he i rfl, if_false]
        exact ⟨rfl, hR1⟩
      all_goals exact ⟨rfl, hR1⟩))⟩

theorem Tr.cond {n0 : Nat} {c : Operand} {x y : Code} {s s1 : St} {e : Ex} {t : Bool} (hc : ev s.tm c = .bool t) (h1 : t = true → Tr P n0 x s e s1) (h2 : t = false → Tr P n0 y s e s1) : Tr P n0 (.cond c x y) s e s1 := by
  have hv : ∀ K ρ0 G0 w0 dS m a w, Rl K ρ0 G0 w0 dS m s a w → a.eval c = .bool t := by
    intro K ρ0 G0 w0 dS m a w hR
    obtain ⟨⟨ρ, _, htm, _⟩, _⟩ := hR
    have := Act.eval_ev (x := c) (a := a) fun t _ => htm t
    rw [hc] at this
    exact this
  cases t with
  | true =>
    have h := h1 rfl
    exact ⟨h.len, h.t, h.tm, fun K ρ0 G0 w0 dS m hn g1 g2 a w hR => wp_cond_true (hv K ρ0 G0 w0 dS m a w hR) (h.run K ρ0 G0 w0 dS m hn g1 g2 a w hR)⟩
  | false =>
    have h := h2 rfl
    exact ⟨h.len, h.t, h.tm, fun K ρ0 G0 w0 dS m hn g1 g2 a w hR => wp_cond_false (hv K ρ0 G0 w0 dS m a w hR) (h.run K ρ0 G0 w0 dS m hn g1 g2 a w hR)⟩

theorem Tr.loop {n0 n : Nat} {b : Code} {s s1 : St} {e : Ex} (h : TrN P n0 b n s e s1) : Tr P n0 (.loop b) s e s1 :=
  ⟨h.len, h.t, h.tm, fun K ρ0 G0 w0 dS m hn h1 h2 a w hR => wp_loop_rounds n (h.run K ρ0 G0 w0 dS m hn h1 h2 a w hR)⟩

theorem TrN.next {n0 n : Nat} {b : Code} {s s1 s2 : St} {e : Ex} (h : Tr P n0 b s .normal s1) (h' : TrN P n0 b n s1 e s2) : TrN P n0 b (n + 1) s e s2 :=
  ⟨Nat.le_trans h.len h'.len, fun k hk hb => h'.t k hk (h.t k hk hb), h'.tm.trans h.tm, fun K ρ0 G0 w0 dS m hn h1 h2 a w hR => by
    rw [rounds_succ]
    refine wp_mono (h.run K ρ0 G0 w0 dS m hn (fun k hk hb => h1 k hk (h'.t k (hn ▸ hk) hb)) h2 a w hR) ?_
    rintro e1 a1 w1 ⟨rfl, hR1⟩
    exact h'.run K ρ0 G0 w0 dS m hn h1 h2 a1 w1 hR1⟩

theorem TrN.done {n0 n : Nat} {b : Code} {s s1 : St} {e : Ex} (h : Tr P n0 b s e s1) (he : e ≠ .normal) : TrN P n0 b (n + 1) s e s1 :=
  ⟨h.len, h.t, h.tm, fun K ρ0 G0 w0 dS m hn h1 h2 a w hR => by
    rw [rounds_succ]
    refine wp_mono (h.run K ρ0 G0 w0 dS m hn h1 h2 a w hR) ?_
    rintro e1 a1 w1 ⟨rfl, hR1⟩
    cases e
    · exact (he rfl).elim
    all_goals exact ⟨rfl, hR1⟩⟩

/-! ### Forgetting -/

def Rho.cut (ρ : Rho) (n : Nat) : Rho := fun k => if k < n then ρ k else none

def idsB (n : Nat) : T → Bool
  | .ptr id _ => Nat.blt id n
  | .slice id .. => Nat.blt id n
  | .fn _ c => idsB n c
  | .opt _ t => idsB n t
  | .tup t => idsB n t
  | .cons h t => idsB n h && idsB n t
  | .rows m _ f => allN (fun i => idsB n (f i)) m
  | _ => true

theorem idsB_R {n : Nat} {t : T} (h : idsB n t = true) (ρ : Rho) : (∀ cs, (R ρ t).c cs → (R (ρ.cut n) t).c cs) ∧ (∀ x, (R ρ t).v x → (R (ρ.cut n) t).v x) ∧ (∀ xs, (R ρ t).l xs → (R (ρ.cut n) t).l xs) := by
  induction t with
  | ptr id path =>
    have hid : id < n := Nat.le_of_ble_eq_true h
    have hp : ∀ x, (∃ b sz, ρ id = some (b, sz) ∧ x = Value.pointer (some ⟨b, poff path, none⟩)) → (∃ b sz, ρ.cut n id = some (b, sz) ∧ x = Value.pointer (some ⟨b, poff path, none⟩)) := by
      rintro x ⟨b, sz, e, hx⟩; exact ⟨b, sz, by simp [Rho.cut, hid, e], hx⟩
    refine ⟨?_, hp, fun _ h => h⟩
    rintro cs ⟨x, hcs, hx⟩; exact ⟨x, hcs, hp x hx⟩
  | slice id path lo m len cap =>
    have hid : id < n := Nat.le_of_ble_eq_true h
    have hp : ∀ x, (∃ b sz, ρ id = some (b, sz) ∧ SliceRel b sz path lo m len cap x) → (∃ b sz, ρ.cut n id = some (b, sz) ∧ SliceRel b sz path lo m len cap x) := by
      rintro x ⟨b, sz, e, hx⟩; exact ⟨b, sz, by simp [Rho.cut, hid, e], hx⟩
    refine ⟨?_, hp, fun _ h => h⟩
    rintro cs ⟨x, hcs, hx⟩; exact ⟨x, hcs, hp x hx⟩
  | fn f cap ih =>
    have ih := ih h
    have hp : ∀ x, (∃ vs, x = Value.func f #[] vs ∧ (R ρ cap).l vs.toList) → (∃ vs, x = Value.func f #[] vs ∧ (R (ρ.cut n) cap).l vs.toList) := by
      rintro x ⟨vs, hx, hl⟩; exact ⟨vs, hx, ih.2.2 _ hl⟩
    refine ⟨?_, hp, fun _ h => h⟩
    rintro cs ⟨x, hcs, hx⟩; exact ⟨x, hcs, hp x hx⟩
  | opt g t ih => exact ⟨fun _ h => h, fun x hx => ⟨fun hg => (ih h).2.1 _ (hx.1 hg), hx.2⟩, fun _ h => h⟩
  | tup t ih => exact ⟨fun _ h => h, fun x ⟨vs, hx, hl⟩ => ⟨vs, hx, (ih h).2.2 _ hl⟩, fun _ h => h⟩
  | cons a b iha ihb =>
    simp only [idsB, Bool.and_eq_true] at h
    have iha := iha h.1
    have ihb := ihb h.2
    refine ⟨?_, ?_, ?_⟩
    · rintro cs ⟨x, y, e, hx, hy⟩; exact ⟨x, y, e, iha.1 _ hx, ihb.1 _ hy⟩
    · rintro v ⟨cs, hv, x, y, e, hx, hy⟩; exact ⟨cs, hv, x, y, e, iha.1 _ hx, ihb.1 _ hy⟩
    · rintro xs ⟨y, ys, e, hy, hys⟩; exact ⟨y, ys, e, iha.2.1 _ hy, ihb.2.2 _ hys⟩
  | rows n' m f ih =>
    have h' := allN_spec h
    refine ⟨?_, ?_, fun _ h => h⟩
    · rintro cs ⟨e, hx⟩; exact ⟨e, fun i hi => (ih i (h' i hi)).1 _ (hx i hi)⟩
    · rintro v ⟨cs, hv, e, hx⟩; exact ⟨cs, hv, e, fun i hi => (ih i (h' i hi)).1 _ (hx i hi)⟩
  | _ => exact ⟨fun _ h => h, fun _ h => h, fun _ h => h⟩

/-- The temporaries that are told, where they do not point to what is forgotten. -/
def tmTrim (n : Nat) (keep : Nat) : Nat → List T → List T
  | _, [] => []
  | i, t :: r => (bif keep.testBit i && idsB n t then t else .any) :: tmTrim n keep (i + 1) r

def heapOK (n : Nat) : Heap → Bool
  | [] => true
  | none :: r => heapOK n r
  | some t :: r => idsB n t && heapOK n r

theorem tmTrim_len (n keep : Nat) : ∀ (i : Nat) (l : List T), (tmTrim n keep i l).length = l.length
  | _, [] => rfl
  | i, _ :: r => by simp [tmTrim, tmTrim_len n keep (i + 1) r]

theorem tmTrim_get (n keep : Nat) : ∀ (i : Nat) (l : List T) (t : Nat), tget (tmTrim n keep i l) t = .any ∨ (tget (tmTrim n keep i l) t = tget l t ∧ idsB n (tget l t) = true)
  | _, [], _ => .inl rfl
  | i, x :: r, 0 => by
    simp only [tmTrim, tget]
    cases h : (keep.testBit i && idsB n x)
    · exact .inl rfl
    · simp only [Bool.and_eq_true] at h; exact .inr ⟨rfl, h.2⟩
  | i, _ :: r, t + 1 => tmTrim_get n keep (i + 1) r t

theorem heapOK_get {n : Nat} : ∀ {G : Heap} {k : Nat} {t : T}, heapOK n G = true → hget G k = some t → idsB n t = true
  | none :: r, k, t, h, hg => by
    cases k with
    | zero => simp [hget] at hg
    | succ k => exact heapOK_get (G := r) h hg
  | some x :: r, k, t, h, hg => by
    simp only [heapOK, Bool.and_eq_true] at h
    cases k with
    | zero => simp only [hget] at hg; cases hg; exact h.1
    | succ k => exact heapOK_get (G := r) h.2 hg

theorem hget_take {G : Heap} {n k : Nat} (h : k < n) : hget (G.take n) k = hget G k := by
  induction G generalizing n k with
  | nil => simp
  | cons x r ih =>
    cases n with
    | zero => omega
    | succ n => cases k with
      | zero => rfl
      | succ k => simp only [List.take_succ_cons, hget]; exact ih (by omega)

theorem hget_take_le {G : Heap} {n k : Nat} {t : T} (h : hget (G.take n) k = some t) : k < n ∧ hget G k = some t := by
  have h1 := hget_lt h
  have h2 : k < n := by simp at h1; omega
  exact ⟨h2, by rw [hget_take h2] at h; exact h⟩

def St.trim (s : St) (n keep t w : Nat) : St := ⟨tmTrim n keep 0 s.tm, s.G.take n, true, t, w⟩

theorem Blk.cut {ρ : Rho} {n : Nat} {t : T} {p : Nat × Nat} {w : World} (h : idsB n t = true) (hb : Blk ρ t p w) : Blk (ρ.cut n) t p w := by
  obtain ⟨cs, ty, fr, h1, h2, h3, h4, h5⟩ := hb
  exact ⟨cs, ty, fr, h1, h2, h3, (idsB_R h ρ).1 _ h4, h5⟩

theorem Rl.trim {K : Nat → Prop} {ρ0 : Rho} {G0 : Heap} {w0 : World} {dS : List Deferred} {m : Nat} {s : St} {a : Act} {w : World} (h : Rl K ρ0 G0 w0 dS m s a w) {n keep t' w' : Nat}
    (hn : G0.length ≤ n) (hok : heapOK n (s.G.take n) = true) (hfr : ∀ k, G0.length ≤ k → ρ0 k = none) (ht : ∀ k, k < G0.length → s.t.testBit k = true → t'.testBit k = true) (hw : ∀ k, k < G0.length → w'.testBit k = s.w.testBit k) (hK : ∀ k, k < G0.length → t'.testBit k = true → K k) :
    Rl K ρ0 G0 w0 dS m (s.trim n keep t' w') a w := by
  obtain ⟨⟨ρ, hp, htm, hsim⟩, hsz, hdfr, hst, hlen⟩ := h
  have hl : G0.length ≤ s.G.length := hst.len
  have cutEq : ∀ k, k < n → ρ.cut n k = ρ k := fun k hk => by simp [Rho.cut, hk]
  have hlt : ∀ k t, hget (s.G.take n) k = some t → k < n ∧ hget s.G k = some t := fun k t hg => hget_take_le hg
  refine ⟨⟨ρ.cut n, ?_, ?_, ?_⟩, hsz, hdfr, ?_, ?_⟩
  · exact {
      ext := fun k p hk => by
        by_cases hkn : k < n
        · rw [cutEq k hkn]; exact hp.ext k p hk
        · rw [hfr k (by omega)] at hk; cases hk
      dom := fun k hk => by
        rcases hk with hk | hk
        · rw [cutEq k (by omega)]; exact hp.dom k (.inl hk)
        · have hk' : (s.G.take n).length ≤ k := hk
          simp only [List.length_take] at hk'
          by_cases hkn : k < n
          · rw [cutEq k hkn]; exact hp.dom k (.inr (by show s.G.length ≤ k; omega))
          · simp [Rho.cut, hkn, hfr k (by omega)]
      val := trivial
      sim := fun k t hk hg => by
        obtain ⟨hkn, hg'⟩ := hlt k t hg
        have hk2 : G0.length ≤ k ∨ s.w.testBit k = true := by
          rcases hk with hk | hk
          · exact .inl hk
          · rcases Nat.lt_or_ge k G0.length with h | h
            · right; rw [← hw k h]; exact hk
            · exact .inl h
        obtain ⟨p, h1, h2⟩ := hp.sim k t hk2 hg'
        exact ⟨p, by rw [cutEq k hkn]; exact h1, h2.cut (heapOK_get hok hg)⟩
      new := fun k t p hk hg hr => by
        obtain ⟨hkn, hg'⟩ := hlt k t hg
        rw [cutEq k hkn] at hr
        rcases hp.new k t p hk hg' hr with h | ⟨j, q, h1, h2, h3, h4, h5⟩
        · exact .inl h
        · refine .inr ⟨j, q, h1, by rw [show (s.trim n keep t' w').res.w = w' from rfl, hw j h1]; exact h2, ?_, h4, h5⟩
          show hget (s.G.take n) j = none
          rw [hget_take (by omega)]; exact h3
      inj := fun k k' t t' p p' hk hk' hg hg' hr hr' he => by
        obtain ⟨hkn, g1⟩ := hlt k t hg
        obtain ⟨hkn', g1'⟩ := hlt k' t' hg'
        rw [cutEq k hkn] at hr
        rw [cutEq k' hkn'] at hr'
        exact hp.inj k k' t t' p p' hk hk' g1 g1' hr hr' he
      frame := fun b hb hne => hp.frame b hb fun k p h1 h2 h3 => hne k p h1 (by
        show w'.testBit k = true
        rw [hw k h1]; exact h2) h3
      size := hp.size
      os := hp.os
      tape := hp.tape
      output := hp.output }
  · intro t
    have := htm t
    rcases tmTrim_get n keep 0 s.tm t with h | ⟨h, hi⟩
    · show (R (ρ.cut n) (tget (tmTrim n keep 0 s.tm) t)).v _
      rw [h]; trivial
    · show (R (ρ.cut n) (tget (tmTrim n keep 0 s.tm) t)).v _
      rw [h]
      exact (idsB_R hi ρ).2.1 _ this
  · refine ⟨fun k t hk hg => ?_, fun k k' t t' p p' hk hk' hg hg' hr hr' he => ?_⟩
    · obtain ⟨hkn, hg'⟩ := hlt k t hg
      obtain ⟨p, h1, h2⟩ := hsim.blk k t hk hg'
      exact ⟨p, by rw [cutEq k hkn]; exact h1, h2.cut (heapOK_get hok hg)⟩
    · obtain ⟨hkn, g1⟩ := hlt k t hg
      obtain ⟨hkn', g1'⟩ := hlt k' t' hg'
      rw [cutEq k hkn] at hr
      rw [cutEq k' hkn'] at hr'
      exact hsim.inj k k' t t' p p' hk hk' g1 g1' hr hr' he
  · refine ⟨?_, fun k hk hb => ?_, fun k hk hb => ?_⟩
    · show G0.length ≤ (s.G.take n).length
      simp; omega
    · have hb' : s.w.testBit k = true := by rw [← hw k hk]; exact hb
      obtain ⟨h1, h2⟩ := hst.wt k hk hb'
      exact ⟨ht k hk h1, h2⟩
    · have hb' : s.w.testBit k = false := by rw [← hw k hk]; exact hb
      show hget (s.G.take n) k = hget G0 k
      rw [hget_take (by omega)]
      exact hst.old k hk hb'
  · show (tmTrim n keep 0 s.tm).length = m
    rw [tmTrim_len]; exact hlen

/-- What was made since is forgotten, and the temporaries that are not told. -/
theorem Tr.trim {n0 : Nat} {c : Code} {s s1 : St} {e : Ex} (h : Tr P n0 c s e s1) (n keep t' w' : Nat) (hn : Nat.ble n0 n = true) (hs : Nat.ble s.G.length n = true) (h1 : Nat.ble n s1.G.length = true) (hok : heapOK n (s1.G.take n) = true)
    (ht : ∀ k, k < n0 → s1.t.testBit k = true → t'.testBit k = true) (hw : ∀ k, k < n0 → w'.testBit k = s1.w.testBit k) : Tr P n0 c s e (s1.trim n keep t' w') := by
  have hn := Nat.le_of_ble_eq_true hn
  have hs := Nat.le_of_ble_eq_true hs
  have h1 := Nat.le_of_ble_eq_true h1
  refine ⟨?_, fun k hk hb => ht k hk (h.t k hk hb), ?_, fun K ρ0 G0 w0 dS m hG g1 g2 a w hR => ?_⟩
  · show s.G.length ≤ (s1.G.take n).length
    simp; omega
  · show (tmTrim n keep 0 s1.tm).length = _
    rw [tmTrim_len]; exact h.tm
  · have hr := h.run K ρ0 G0 w0 dS m hG (fun k hk hb => g1 k hk (ht k (hG ▸ hk) hb)) g2 a w hR
    refine wp_mono hr ?_
    rintro e1 a1 w1 ⟨rfl, hR1⟩
    exact ⟨rfl, hR1.trim (by omega) hok g2 (fun k hk hb => ht k (hG ▸ hk) hb) (fun k hk => hw k (hG ▸ hk)) g1⟩

/-- The same for a function that began with no known block: what is logged does not matter. -/
theorem Tr.trim0 {c : Code} {s s1 : St} {e : Ex} (h : Tr P 0 c s e s1) (n keep : Nat) (hs : Nat.ble s.G.length n = true) (h1 : Nat.ble n s1.G.length = true) (hok : heapOK n (s1.G.take n) = true) : Tr P 0 c s e (s1.trim n keep 0 0) :=
  h.trim n keep 0 0 rfl hs h1 hok (fun k hk => by omega) (fun k hk => by omega)

/-! ### Whole functions -/

/-- A function of numbers alone: its model from a run in an empty memory. -/
theorem SoundM.of_tr0 {f : FuncId} {fn : Func} {c : Code} (hf : P.funcs[f]? = some fn) (hname : (fn.name == "runtime.NumGoroutine") = false) (hb : fn.body = some c) {m : PModel}
    (h : ∀ args vc v, m args = some (vc, v) → vc = true → argsOK args = true ∧ noPtr v = true ∧ ∃ e s vs t, (e = .ret ∨ e = .normal) ∧ Tr P 0 c ⟨args ++ undefs (fn.ntmps - args.length), [], true, 0, 0⟩ e s ∧
      evResults P s fn.results.toList = some (true, vs, t) ∧ one vs = v) : SoundM P f (pureModel m) := by
  refine SoundM.of_does ⟨fn, hf, hname, by rw [hb]; rfl⟩ ?_ ?_
  · intro args G r hr
    unfold pureModel at hr
    split at hr
    · cases hr; exact Stat.pure _ _ _ _
    · cases hr
  · intro args G r hr hvc ρ w args' _ _ hargs
    unfold pureModel at hr
    split at hr
    · rename_i vc v hm
      cases hr
      obtain ⟨h1, h2, e, s, vs, t, he, htr, hres, hv⟩ := h args vc v hm hvc
      have hargs' := argsOK_VLs (ρ' := fun _ => none) h1 hargs
      have hlen := VLs_len hargs
      unfold Does
      refine calls_of_wp hf hb ?_
      have hR0 : Rl (fun _ => True) (fun _ => none) [] w [] (args ++ undefs (fn.ntmps - args.length)).length ⟨args ++ undefs (fn.ntmps - args.length), [], true, 0, 0⟩
          { tmps := args'.toArray ++ Array.replicate (fn.ntmps - args'.toArray.size) undef, defers := [] } w := by
        refine ⟨⟨fun _ => none, ?_, ?_, ?_⟩, ?_, rfl, ?_, rfl⟩
        · have hv : (R (fun _ => none) T.any).v undef := trivial
          exact Post.pure hv 0
        · intro t'
          have := VLs_tget (fn.ntmps - args.length) t' hargs'
          have e1 : (args'.toArray ++ Array.replicate (fn.ntmps - args'.toArray.size) undef).getD t' undef = (args' ++ List.replicate (fn.ntmps - args.length) undef).getD t' undef := by
            simp [Array.getD_eq_getD_getElem?, List.getD_eq_getElem?_getD, hlen, Array.getElem?_append, List.getElem?_append, Array.getElem?_replicate, List.getElem?_replicate]
          rw [e1]; exact this
        · exact ⟨fun k t' hk hg => by simp [hget] at hg, fun k k' t' t'' p p' hk hk' hg hg' => by simp [hget] at hg⟩
        · simp [hlen, undefs_len]
        · exact Stat.pure _ _ _ _
      have hrun := htr.run (fun _ => True) (fun _ => none) [] w [] _ rfl (fun _ _ _ => trivial) (fun _ _ => rfl) _ _ hR0
      refine wp_mono hrun ?_
      rintro e' a' w' ⟨rfl, hR⟩
      obtain ⟨⟨ρ', hp, htm, hsim'⟩, hsz, hdfr, hst', hlen'⟩ := hR
      obtain ⟨xs, g1, g2⟩ := evResults_sound (P := P) htm hres rfl ⟨fun k t' hk hg => hsim'.blk k t' (.inl trivial) hg, fun k k' t' t'' p p' hk hk' => hsim'.inj k k' t' t'' p p' (.inl trivial) (.inl trivial)⟩
      have hres' : (results fn a'.tmps).run P w' = .ok (if h : xs.toArray.size = 1 then xs.toArray[0] else .tuple xs.toArray) w' := by
        have : results fn a'.tmps = (do let vs ← fn.results.mapM (resSem a'.tmps); Pure.pure (if h : vs.size = 1 then vs[0] else .tuple vs)) := rfl
        rw [this, Sem.run_bind, Array.mapM_eq_mapM_toList, Sem.run_map, g1]
        rfl
      have fin : bodyPost P fn (fun e w'_1 => ∃ v', e = .returned v' ∧ ∃ ρ', Post ρ ρ' G w ⟨vc, v, G, 0, 0⟩ v' w'_1) .ret a' w' := by
        refine ⟨hdfr, _, hres', _, rfl, ρ, ?_⟩
        have hval : (R ρ v).v (if h : xs.toArray.size = 1 then xs.toArray[0] else .tuple xs.toArray) := by
          have := one_sound g2
          rw [hv] at this
          exact (noPtr_R h2 ρ' ρ).2.1 _ this
        exact {
          ext := Rho.Ext.refl ρ
          dom := fun _ _ => rfl
          val := hval
          sim := fun k t hk hg => by
            rcases hk with hk | hk
            · have : k < G.length := hget_lt hg
              omega
            · simp at hk
          new := fun k t p hk hg => by
            have : k < G.length := hget_lt hg
            omega
          inj := fun k k' t t' p p' hk _ hg => by
            have : k < G.length := hget_lt hg
            omega
          frame := fun b hb _ => hp.frame b hb fun k p hk => by simp at hk
          size := hp.size
          os := hp.os
          tape := hp.tape
          output := hp.output }
      rcases he with rfl | rfl
      · exact fin
      · exact fin
    · cases hr

end
end Go.AE

/-! A model whose number is taken for granted, and owed. No condition. -/
namespace Go.AE
open Go
noncomputable section

def assumeI (M : Model) (g : List T → Int) : Model := fun args G =>
  match M args G with
  | some ⟨vc, .int k e, G', t, w⟩ => some ⟨vc && decide (e = g args), .int k (g args), G', t, w⟩
  | _ => none

theorem SoundM.assumeI {P : Program} {f : FuncId} {M : Model} (h : SoundM P f M) (g : List T → Int) : SoundM P f (assumeI M g) := by
  refine ⟨fun args G r hr => ?_, fun args G r hr hvc ρ w args' hsim hfr hargs => ?_⟩
  · unfold AE.assumeI at hr
    split at hr
    · rename_i vc k e G' t w hm
      cases hr
      have := h.stat _ _ _ hm
      exact ⟨this.len, this.wt, this.old⟩
    · cases hr
  · unfold AE.assumeI at hr
    split at hr
    · rename_i vc k e G' t w' hm
      cases hr
      simp only [Bool.and_eq_true, decide_eq_true_eq] at hvc
      obtain ⟨h1, rfl⟩ := hvc
      refine Lands.mono ?_ (h.lands _ _ _ hm h1 ρ w args' hsim hfr hargs)
      rintro v' w2 ⟨ρ', hp⟩
      exact ⟨ρ', hp.ext, hp.dom, hp.val, hp.sim, hp.new, hp.inj, hp.frame, hp.size, hp.os, hp.tape, hp.output⟩
    · cases hr

theorem Tr.of_map {P : Program} {env : Env} (henv : EnvOK P env) (hmix : P.follows .mixedOrders = true) {n : Cf} {c : Code} {s : St} {e : Ex} {vc : Bool} {tm' : List T} {G' : Heap} {N keep : Nat}
    (h : (evCode P env n c s).map (fun r => (r.1, r.2.vc, tmTrim N keep 0 r.2.tm, r.2.G.take N, Nat.ble N r.2.G.length)) = some (e, vc, tm', G', true)) (hvc : vc = true) (hs : Nat.ble s.G.length N = true) (hok : heapOK N G' = true) :
    Tr P 0 c s e ⟨tm', G', true, 0, 0⟩ := by
  cases hr : evCode P env n c s with
  | none => rw [hr] at h; cases h
  | some r =>
    obtain ⟨e1, tm1, G1, vc1, t1, w1⟩ := r
    rw [hr] at h
    simp only [Option.map_some, Option.some.injEq, Prod.mk.injEq] at h
    obtain ⟨rfl, rfl, rfl, rfl, hl⟩ := h
    exact (Tr.of_ev henv hmix hr hvc).trim0 N keep hs hl hok

end
end Go.AE

/-! From a model that answers true to the row of a law. No condition. -/
namespace Go.AE
open Go Go.RowKit Go.ChangeShapes Go.WideShapes
noncomputable section

theorem Post.below {ρ ρ' : Rho} {w w' : World} {vc : Bool} {v : T} {v' : Value} (h : Post ρ ρ' [] w ⟨vc, v, [], 0, 0⟩ v' w') : Below w.heap.size w w' :=
  ⟨h.os, h.tape, h.output, h.size, fun k hk => h.frame k hk fun j p hj => absurd hj (by simp)⟩

/-- The function answers true and turns nothing that was there. -/
def Tells (P : Program) (f : FuncId) (xs : List Value) (w : World) : Prop :=
  Calls P f xs.toArray w fun e w' => e = .returned (.bool true) ∧ Below w.heap.size w w'

theorem SoundM.tells {P : Program} {f : FuncId} {fn : Func} {m : PModel} (hf : P.funcs[f]? = some fn) (hname : (fn.name == "runtime.NumGoroutine") = false) (hbody : fn.body.isNone = false)
    (h : SoundM P f (pureModel m)) {args : List T} (hm : m args = some (true, .bool true)) {xs : List Value} (hx : VLs (fun _ => none) args xs) (w : World) : Tells P f xs w := by
  have hr : pureModel m args [] = some ⟨true, .bool true, [], 0, 0⟩ := by unfold pureModel; rw [hm]
  have hd := h.lands args [] _ hr rfl (fun _ => none) w xs ⟨fun k t _ hg => by simp [hget] at hg, fun k k' t t' p p' _ _ hg => by simp [hget] at hg⟩ (fun _ _ _ => rfl) hx
  simp only [callFunc, Sem.run_bind, run_program, Result.andThen_ok, hf, hname, hbody] at hd
  refine Calls.mono hd ?_
  rintro e w' ⟨v, rfl, ρ', hp⟩
  have hv : v = .bool true := hp.val
  exact ⟨by rw [hv], hp.below⟩

section data
variable {H : Type} {enc : TypeId × Value → H} {P : Program}

theorem mapM_ints {W : World} {base : Nat} {sp : Nat → Bool} {held : Bool} {e : TypeId} {q : IntKind} (he : P.underlying e = some (.int q)) {m : Nat} {cs : List Value} {n0 : Nat} : ∀ (L : List Nat) (xs : List (DataW H × List MemPlace)), (∀ i ∈ L, i < n0) → cs.length = n0 →
    L.mapM (fun i => DataW.trod enc P W base sp held m e ((cs.drop (i * 1)).take 1)) = some xs → ∀ i ∈ L, ∃ a : Int, cs[i]? = some (.int q a) ∧ (Lit.int q a).wf = true
  | [], _, _, _, _ => by simp
  | i :: L, xs, hL, hn, h => by
    rw [List.mapM_cons] at h
    simp only [bind, Option.bind_eq_some_iff, pure, Option.some.injEq] at h
    obtain ⟨y, hy, ys, hys, rfl⟩ := h
    obtain ⟨a, ea, _, wa⟩ := DataW.trod_int he hy
    intro j hj
    rcases List.mem_cons.1 hj with rfl | hj
    · have hlt : j < cs.length := by rw [hn]; exact hL j (by simp)
      refine ⟨a, ?_, wa⟩
      have h1 : ((cs.drop (j * 1)).take 1)[0]? = some (.int q a) := by rw [ea]; rfl
      simpa [List.getElem?_take, List.getElem?_drop] using h1
    · exact mapM_ints he L ys (fun i hi => hL i (by simp [hi])) hn hys j hj

/-- An array of whole numbers that came in. -/
theorem open_array {W : World} {base base' : Nat} {sp : Nat → Bool} {held : Bool} {r : Reach} {t e : TypeId} {n : Nat} {q : IntKind} (ht : P.underlying t = some (.array n e)) (he : P.underlying e = some (.int q)) (hc : P.cellsOf t = n) (he1 : P.cellsOf e = 1)
    {v : Value} {d : DataW H} {ps : List MemPlace} (hval : Value.okWide P W r base' t v) (hd : DataW.Trod enc P W base sp held t v d ps) :
    ∃ f : Nat → Int, (R (fun _ => none) (.ints q n f)).v v ∧ ∀ i, i < n → (Lit.int q (f i)).wf = true := by
  simp only [Value.okWide, ht] at hval
  obtain ⟨cs, rfl, h2, _⟩ := hval
  rw [hc] at h2
  obtain ⟨fuel, hf⟩ := hd
  cases fuel with
  | zero => simp [DataW.trod] at hf
  | succ m =>
    rw [DataW.trod_step] at hf
    unfold DataW.trodStep at hf
    simp only [ht, Value.cells, he1] at hf
    rw [if_pos (by rw [hc]; simpa using h2)] at hf
    simp only [Option.map_eq_some_iff] at hf
    obtain ⟨xs, hxs, _⟩ := hf
    have hlen : cs.toList.length = n := by simpa using h2
    have key := mapM_ints he (List.range n) xs (fun i hi => by simpa using hi) hlen hxs
    refine ⟨fun i => match cs.toList[i]? with | some (.int _ a) => a | _ => 0, ⟨cs, rfl, hlen, fun i hi => ?_⟩, fun i hi => ?_⟩
    · obtain ⟨a, h1, _⟩ := key i (by simpa using hi)
      dsimp only
      rw [h1]
    · obtain ⟨a, h1, h3⟩ := key i (by simpa using hi)
      simp only [h1]
      exact h3
end data

theorem u8_wf {a : Int} (h : (Lit.int .u8 a).wf = true) : 0 ≤ a ∧ a < 256 := by
  simp only [Lit.wf] at h
  simp [IntKind.min, IntKind.max, IntKind.bits, IntKind.signed] at h
  omega

end
end Go.AE

/-! Loops whose rounds are told one by one; states told by what is kept. No condition. -/
namespace Go.AE
open Go
noncomputable section

variable {P : Program} {env : Env}

def cL : Code → Code
  | .seq a _ => a
  | c => c
def cR : Code → Code
  | .seq _ b => b
  | c => c
def cB : Code → Code
  | .block _ b => b
  | .loop b => b
  | c => c
def bodyC (fn : Func) : Code := match fn.body with
  | some c => c
  | none => .skip

def pickT (i : Nat) : List (Nat × T) → T
  | [] => .any
  | (j, t) :: r => bif Nat.beq i j then t else pickT i r
/-- Temporaries of which a few are told. -/
def tmk (l : List (Nat × T)) : Nat → Nat → List T
  | _, 0 => []
  | i, n + 1 => pickT i l :: tmk l (i + 1) n

def cutN (N keep : Nat) (r : Ex × St) : Ex × Bool × List T × Heap × Bool := (r.1, r.2.vc, tmTrim N keep 0 r.2.tm, r.2.G.take N, Nat.ble N r.2.G.length)

def stOf (tm : List T) (G : Heap) : St := ⟨tm, G, true, 0, 0⟩

theorem Tr.ev (henv : EnvOK P env) (hmix : P.follows .mixedOrders = true) {n : Cf} {c : Code} {tm : List T} {G : Heap} {e : Ex} {vc : Bool} {tm' : List T} {G' : Heap} {N keep : Nat}
    (h : (evCode P env n c (stOf tm G)).map (cutN N keep) = some (e, vc, tm', G', true)) (hvc : vc = true) (hs : Nat.ble G.length N = true) (hok : heapOK N G' = true) : Tr P 0 c (stOf tm G) e (stOf tm' G') :=
  Tr.of_map (s := stOf tm G) henv hmix h hvc hs hok

theorem TrN.iter {n0 : Nat} {b : Code} {S : Nat → St} {s' : St} {e : Ex} (he : e ≠ .normal) : ∀ (n k : Nat), (∀ i, k ≤ i → i < k + n → Tr P n0 b (S i) .normal (S (i + 1))) → Tr P n0 b (S (k + n)) e s' → TrN P n0 b (n + 1) (S k) e s'
  | 0, k, _, h => TrN.done h he
  | n + 1, k, hs, h => by
    refine TrN.next (hs k (Nat.le_refl _) (by omega)) (TrN.iter he n (k + 1) (fun i h1 h2 => hs i (by omega) (by omega)) ?_)
    rw [show k + 1 + n = k + (n + 1) by omega]
    exact h

/-- A loop that is left by its block's end. -/
theorem Tr.iter {n0 id : Nat} {b : Code} {S : Nat → St} {s' : St} {n : Nat} (hs : ∀ i, i < n → Tr P n0 b (S i) .normal (S (i + 1))) (h : Tr P n0 b (S n) (.exit id) s') : Tr P n0 (.block id (.loop b)) (S 0) .normal s' :=
  Tr.blockX (Tr.loop (TrN.iter (by intro h; cases h) n 0 (fun i _ h2 => hs i (by omega)) (by rw [Nat.zero_add]; exact h)))

theorem Tr.forget {c : Code} {s s2 : St} {e : Ex} (keep : Nat) (h : Tr P 0 c ⟨tmTrim s.G.length keep 0 s.tm, s.G, true, 0, 0⟩ e s2) (hok : heapOK s.G.length s.G = true) : Tr P 0 c s e s2 := by
  refine ⟨h.len, fun k hk _ => absurd hk (by omega), ?_, fun K ρ0 G0 w0 dS m hG g1 g2 a w hR => ?_⟩
  · have := h.tm
    simp only [tmTrim_len] at this
    exact this
  · refine h.run K ρ0 G0 w0 dS m hG g1 g2 a w ?_
    have hr := hR.trim (n := s.G.length) (keep := keep) (t' := 0) (w' := 0) (by omega) (by rw [List.take_length]; exact hok) g2 (fun k hk => by omega) (fun k hk => by omega) (fun k hk => by omega)
    unfold St.trim at hr
    rw [List.take_length] at hr
    exact hr

/-- The first parts of a row of code, and what is behind them. -/
def preC : Nat → Code → Code
  | k + 1, .seq a b => .seq a (preC k b)
  | _, _ => .skip
def postC : Nat → Code → Code
  | k + 1, .seq _ b => postC k b
  | _, c => c

def St.clean (s : St) : St := ⟨s.tm, s.G, true, s.t, s.w⟩

theorem Tr.pre_aux {n0 : Nat} (henv : EnvOK P env) (hmix : P.follows .mixedOrders = true) {n : Cf} {s1 s2 : St} {e : Ex} : ∀ (k : Nat) (c : Code) (s : St), evCode P env n (preC k c) s = some (.normal, s1) → s1.vc = true →
    Tr P n0 (postC k c) s1.clean e s2 → Tr P n0 c s.clean e s2
  | 0, c, s, h, _, h2 => by
    have h' : some (Ex.normal, s) = some (Ex.normal, s1) := h
    cases h'
    exact h2
  | k + 1, c, s, h, hvc, h2 => by
    cases c with
    | seq a b =>
      simp only [preC, evCode] at h
      cases ha : evCode P env n a s with
      | none => rw [ha] at h; cases h
      | some r =>
        obtain ⟨e1, s'⟩ := r
        rw [ha] at h
        cases e1 with
        | normal =>
          simp only at h
          have hg := evCode_grow henv _ _ _ _ h
          have hv := hg.vc hvc
          have ih := Tr.pre_aux henv hmix k b s' h hvc h2
          have hg1 := evCode_grow henv _ _ _ _ ha
          have hv1 := hg1.vc hv
          have e1 : s.clean = s := by unfold St.clean; cases s; simp only at hv1; subst hv1; rfl
          rw [e1]
          refine Tr.seq (s1 := s'.clean) ?_ ih
          exact Tr.of_ev (s := s) henv hmix (vc := s'.vc) ha hv
        | _ => simp at h
    | _ =>
      have h' : some (Ex.normal, s) = some (Ex.normal, s1) := h
      cases h'
      exact h2

def cutP (keep : Nat) (r : Ex × St) : Ex × Bool × List T × Heap × Bool := (r.1, r.2.vc, tmTrim r.2.G.length keep 0 r.2.tm, r.2.G, heapOK r.2.G.length r.2.G)

/-- The first k parts of code, run by the evaluator, ahead of the rest. -/
theorem Tr.pre (henv : EnvOK P env) (hmix : P.follows .mixedOrders = true) {n : Cf} (k keep : Nat) {c : Code} {tm : List T} {G : Heap} {e : Ex} {s2 : St} {vc : Bool} {tm' : List T} {G' : Heap}
    (h : (evCode P env n (preC k c) (stOf tm G)).map (cutP keep) = some (.normal, vc, tm', G', true)) (hvc : vc = true) (h2 : Tr P 0 (postC k c) (stOf tm' G') e s2) : Tr P 0 c (stOf tm G) e s2 := by
  cases hr : evCode P env n (preC k c) (stOf tm G) with
  | none => rw [hr] at h; cases h
  | some r =>
    obtain ⟨e1, s1⟩ := r
    rw [hr] at h
    simp only [Option.map_some, Option.some.injEq, cutP, Prod.mk.injEq] at h
    obtain ⟨rfl, h1, h3, h4, h5⟩ := h
    have := Tr.pre_aux henv hmix (e := e) (s2 := s2) k c (stOf tm G) hr (h1.trans hvc) (Tr.forget keep (s := s1.clean) (by
      have e1 : (⟨tmTrim s1.clean.G.length keep 0 s1.clean.tm, s1.clean.G, true, 0, 0⟩ : St) = stOf tm' G' := by
        show (⟨tmTrim s1.G.length keep 0 s1.tm, s1.G, true, 0, 0⟩ : St) = _
        rw [h3, h4]; rfl
      rw [e1]; exact h2) h5)
    exact this

/-- One of the numbers of an array anew. -/
def upd (f : Nat → Int) (i : Nat) (v : Int) : Nat → Int := fun j => bif Nat.beq j i then v else f j
theorem beq_ne {i j : Nat} (h : j ≠ i) : Nat.beq j i = false := by
  cases hb : Nat.beq j i
  · rfl
  · exact absurd (Nat.eq_of_beq_eq_true hb) h
theorem upd_same (f : Nat → Int) (i : Nat) (v : Int) : upd f i v i = v := by unfold upd; rw [Nat.beq_refl]; rfl
theorem upd_ne {f : Nat → Int} {i j : Nat} {v : Int} (h : j ≠ i) : upd f i v j = f j := by unfold upd; rw [beq_ne h]; rfl

/-! ### The same in a function that is told of some blocks, and writes none of them -/

def stR (n0 : Nat) (tm : List T) (G : Heap) : St := ⟨tm, G, true, 2 ^ n0 - 1, 0⟩
def cutR (n0 N keep : Nat) (r : Ex × St) : Ex × Bool × List T × Heap × Bool := (r.1, r.2.vc, tmTrim N keep 0 r.2.tm, r.2.G.take N, Nat.ble N r.2.G.length && Nat.beq (r.2.w % 2 ^ n0) 0)

theorem mask_bit {n0 k : Nat} (h : k < n0) : (2 ^ n0 - 1).testBit k = true := by rw [Nat.testBit_two_pow_sub_one]; simpa using h
theorem noBit {w n0 k : Nat} (h : w % 2 ^ n0 = 0) (hk : k < n0) : w.testBit k = false := by
  have e1 : (w % 2 ^ n0).testBit k = w.testBit k := by rw [Nat.testBit_mod_two_pow]; simp [hk]
  rw [h] at e1
  simpa using e1.symm

theorem Tr.evR (henv : EnvOK P env) (hmix : P.follows .mixedOrders = true) {n : Cf} {n0 : Nat} {c : Code} {tm : List T} {G : Heap} {e : Ex} {vc : Bool} {tm' : List T} {G' : Heap} {N keep : Nat}
    (h : (evCode P env n c (stR n0 tm G)).map (cutR n0 N keep) = some (e, vc, tm', G', true)) (hvc : vc = true) (hn : Nat.ble n0 N = true) (hs : Nat.ble G.length N = true) (hok : heapOK N G' = true) : Tr P n0 c (stR n0 tm G) e (stR n0 tm' G') := by
  cases hr : evCode P env n c (stR n0 tm G) with
  | none => rw [hr] at h; cases h
  | some r =>
    obtain ⟨e1, tm1, G1, vc1, t1, w1⟩ := r
    rw [hr] at h
    simp only [Option.map_some, cutR, Option.some.injEq, Prod.mk.injEq, Bool.and_eq_true] at h
    obtain ⟨rfl, rfl, rfl, rfl, hl, hw⟩ := h
    have hw := Nat.eq_of_beq_eq_true hw
    exact (Tr.of_ev (s := stR n0 tm G) henv hmix hr hvc).trim N keep (2 ^ n0 - 1) 0 hn hs hl hok (fun k hk _ => mask_bit hk) (fun k hk => by rw [noBit hw hk]; simp)

theorem Tr.forgetR {n0 : Nat} {c : Code} {s s2 : St} {e : Ex} (keep : Nat) (h : Tr P n0 c ⟨tmTrim s.G.length keep 0 s.tm, s.G, true, 2 ^ n0 - 1, 0⟩ e s2) (hok : heapOK s.G.length s.G = true) (hn : n0 ≤ s.G.length) (hw : s.w % 2 ^ n0 = 0) : Tr P n0 c s e s2 := by
  refine ⟨h.len, fun k hk _ => h.t k hk (mask_bit hk), ?_, fun K ρ0 G0 w0 dS m hG g1 g2 a w hR => ?_⟩
  · have := h.tm
    simp only [tmTrim_len] at this
    exact this
  · refine h.run K ρ0 G0 w0 dS m hG g1 g2 a w ?_
    have hr := hR.trim (n := s.G.length) (keep := keep) (t' := 2 ^ n0 - 1) (w' := 0) (by omega) (by rw [List.take_length]; exact hok) g2 (fun k hk _ => mask_bit (by omega)) (fun k hk => by rw [noBit hw (by omega)]; simp) (fun k hk hb => g1 k hk (h.t k (by omega) hb))
    unfold St.trim at hr
    rw [List.take_length] at hr
    exact hr

def cutPR (n0 keep : Nat) (r : Ex × St) : Ex × Bool × List T × Heap × Bool := (r.1, r.2.vc, tmTrim r.2.G.length keep 0 r.2.tm, r.2.G, heapOK r.2.G.length r.2.G && (Nat.ble n0 r.2.G.length && Nat.beq (r.2.w % 2 ^ n0) 0))

theorem Tr.preR (henv : EnvOK P env) (hmix : P.follows .mixedOrders = true) {n : Cf} {n0 : Nat} (k keep : Nat) {c : Code} {tm : List T} {G : Heap} {e : Ex} {s2 : St} {vc : Bool} {tm' : List T} {G' : Heap}
    (h : (evCode P env n (preC k c) (stR n0 tm G)).map (cutPR n0 keep) = some (.normal, vc, tm', G', true)) (hvc : vc = true) (h2 : Tr P n0 (postC k c) (stR n0 tm' G') e s2) : Tr P n0 c (stR n0 tm G) e s2 := by
  cases hr : evCode P env n (preC k c) (stR n0 tm G) with
  | none => rw [hr] at h; cases h
  | some r =>
    obtain ⟨e1, s1⟩ := r
    rw [hr] at h
    simp only [Option.map_some, Option.some.injEq, cutPR, Prod.mk.injEq, Bool.and_eq_true] at h
    obtain ⟨rfl, h1, h3, h4, h5, h6, h7⟩ := h
    exact Tr.pre_aux henv hmix (e := e) (s2 := s2) k c (stR n0 tm G) hr (h1.trans hvc) (Tr.forgetR keep (s := s1.clean) (by
      have e1 : (⟨tmTrim s1.clean.G.length keep 0 s1.clean.tm, s1.clean.G, true, 2 ^ n0 - 1, 0⟩ : St) = stR n0 tm' G' := by
        show (⟨tmTrim s1.G.length keep 0 s1.tm, s1.G, true, 2 ^ n0 - 1, 0⟩ : St) = _
        rw [h3, h4]; rfl
      rw [e1]; exact h2) h5 (Nat.le_of_ble_eq_true h6) (Nat.eq_of_beq_eq_true h7))

/-! ### Jumps back to a label -/

theorem least {p : Nat → Prop} (h : ∃ n, p n) : ∃ n, p n ∧ ∀ m, m < n → ¬ p m := by
  obtain ⟨n, hn⟩ := h
  induction n using Nat.strongRecOn with
  | _ n ih =>
    by_cases h : ∃ m, m < n ∧ p m
    · obtain ⟨m, hm, hp⟩ := h
      exact ih m hm hp
    · exact ⟨n, hn, fun m hm hp => h ⟨m, hm, hp⟩⟩

open Classical in
theorem wp_scope_rounds {c rest : Code} {Q : Exit → Act → World → Prop} {a : Act} {w : World} (l : Nat) (hf : findLabel c l = some rest) (J : Nat → Act → World → Prop) (h0 : ∀ a w, ¬ J 0 a w)
    (pass : ∀ n a w, J (n + 1) a w → rest.wp P (Exit.jump l (J n) Q) a w) {n : Nat} (first : c.wp P (Exit.jump l (J n) Q) a w) : (Code.scope c).wp P Q a w := by
  let μ : Act → World → Nat := fun a w => if h : ∃ n, J n a w then Classical.choose (least h) else 0
  have hμ : ∀ a w k, J k a w → μ a w ≤ k ∧ J (μ a w) a w := fun a w k hk => by
    have h : ∃ n, J n a w := ⟨k, hk⟩
    have e : μ a w = Classical.choose (least h) := dif_pos h
    have hc := Classical.choose_spec (least h)
    rw [e]
    refine ⟨?_, hc.1⟩
    rcases Nat.lt_or_ge k (Classical.choose (least h)) with h1 | h1
    · exact absurd hk (hc.2 k h1)
    · exact h1
  refine wp_scope_jumps l (fun a w => ∃ n, J n a w) μ hf ?_ ?_
  · refine wp_mono first ?_
    intro e a w he
    cases e <;> first | exact he | exact ⟨he.1, n, he.2⟩
  · rintro a w ⟨k, hk⟩
    obtain ⟨_, hm⟩ := hμ a w k hk
    cases hq : μ a w with
    | zero => rw [hq] at hm; exact absurd hm (h0 a w)
    | succ m =>
      rw [hq] at hm
      refine wp_mono (pass m a w hm) ?_
      intro e a' w' he
      cases e <;> first | exact he | exact ⟨he.1, ⟨m, he.2⟩, by have := (hμ a' w' m he.2).1; omega⟩

/-- A scope in which the run comes back to a label so many times. -/
theorem Tr.scope {n0 l n : Nat} {c rest : Code} {s s' : St} {S : Nat → St} {e : Ex} (hf : findLabel c l = some rest) (first : Tr P n0 c s (.goto l) (S 0)) (step : ∀ i, i < n → Tr P n0 rest (S i) (.goto l) (S (i + 1))) (last : Tr P n0 rest (S n) e s')
    (he : ∀ l', e ≠ .goto l') : Tr P n0 (.scope c) s e s' := by
  have grow : ∀ i, i ≤ n → (S 0).G.length ≤ (S i).G.length ∧ (∀ k, k < n0 → (S 0).t.testBit k = true → (S i).t.testBit k = true) ∧ (S i).tm.length = (S 0).tm.length := by
    intro i
    induction i with
    | zero => intro _; exact ⟨Nat.le_refl _, fun _ _ h => h, rfl⟩
    | succ i ih =>
      intro hi
      obtain ⟨h1, h2, h3⟩ := ih (by omega)
      have hs := step i (by omega)
      exact ⟨Nat.le_trans h1 hs.len, fun k hk h => hs.t k hk (h2 k hk h), hs.tm.trans h3⟩
  have back : ∀ d, d ≤ n → ∀ k, k < n0 → (S (n - d)).t.testBit k = true → s'.t.testBit k = true := by
    intro d
    induction d with
    | zero => intro _ k hk h; exact last.t k hk h
    | succ d ih =>
      intro hd k hk h
      refine ih (by omega) k hk ?_
      have := (step (n - (d + 1)) (by omega)).t k hk h
      rwa [show n - (d + 1) + 1 = n - d by omega] at this
  obtain ⟨g1, g2, g3⟩ := grow n (Nat.le_refl _)
  refine ⟨Nat.le_trans first.len (Nat.le_trans g1 last.len), fun k hk h => last.t k hk (g2 k hk (first.t k hk h)), last.tm.trans (g3.trans first.tm), fun K ρ0 G0 w0 dS m hG h1 h2 a w hR => ?_⟩
  have hK : ∀ i, i ≤ n → ∀ k, k < G0.length → (S i).t.testBit k = true → K k := fun i hi k hk hb => h1 k hk (by
    have := back (n - i) (by omega) k (hG ▸ hk)
    rw [show n - (n - i) = i by omega] at this
    exact this hb)
  let J : Nat → Act → World → Prop := fun j a w => ∃ i, i ≤ n ∧ j = n - i + 1 ∧ Rl K ρ0 G0 w0 dS m (S i) a w
  refine wp_scope_rounds l hf J (fun a w h => by obtain ⟨i, _, h, _⟩ := h; omega) ?_ (n := n + 1) ?_
  · rintro j a w ⟨i, hi, hj, hR⟩
    by_cases hin : i = n
    · subst hin
      refine wp_mono (last.run K ρ0 G0 w0 dS m hG h1 h2 a w hR) ?_
      rintro e' a' w' ⟨rfl, hR'⟩
      cases e with
      | goto l' => exact absurd rfl (he l')
      | _ => exact ⟨rfl, hR'⟩
    · refine wp_mono ((step i (by omega)).run K ρ0 G0 w0 dS m hG (hK (i + 1) (by omega)) h2 a w hR) ?_
      rintro e' a' w' ⟨rfl, hR'⟩
      exact ⟨rfl, i + 1, by omega, by omega, hR'⟩
  · refine wp_mono (first.run K ρ0 G0 w0 dS m hG (hK 0 (Nat.zero_le _)) h2 a w hR) ?_
    rintro e' a' w' ⟨rfl, hR'⟩
    exact ⟨rfl, 0, Nat.zero_le _, by omega, hR'⟩

end
end Go.AE

/-! Functions that read what they are told of, and make memory of their own: models out of a run of their own. No condition. -/
namespace Go.AE
open Go
noncomputable section

/-- Other names for the blocks. -/
def ren (σ : Nat → Nat) : T → T
  | .ptr id p => .ptr (σ id) p
  | .slice id p lo m n c => .slice (σ id) p lo m n c
  | .fn f c => .fn f (ren σ c)
  | .opt g t => .opt g (ren σ t)
  | .tup t => .tup (ren σ t)
  | .cons h t => .cons (ren σ h) (ren σ t)
  | .rows n m f => .rows n m fun i => ren σ (f i)
  | t => t

def idsIn (a b : Nat) : T → Bool
  | .ptr id _ => Nat.ble a id && Nat.blt id b
  | .slice id .. => Nat.ble a id && Nat.blt id b
  | .fn _ c => idsIn a b c
  | .opt _ t => idsIn a b t
  | .tup t => idsIn a b t
  | .cons h t => idsIn a b h && idsIn a b t
  | .rows m _ f => allN (fun i => idsIn a b (f i)) m
  | _ => true

theorem ren_size (σ : Nat → Nat) (t : T) : (ren σ t).size = t.size := by
  induction t <;> simp_all [ren, T.size]

theorem R_ren {σ : Nat → Nat} {a b : Nat} {ρ ρ' : Rho} (h : ∀ id p, a ≤ id → id < b → ρ id = some p → ρ' (σ id) = some p) {t : T} (ht : idsIn a b t = true) :
    (∀ cs, (R ρ t).c cs → (R ρ' (ren σ t)).c cs) ∧ (∀ x, (R ρ t).v x → (R ρ' (ren σ t)).v x) ∧ (∀ xs, (R ρ t).l xs → (R ρ' (ren σ t)).l xs) := by
  induction t with
  | ptr id path =>
    simp only [idsIn, Bool.and_eq_true] at ht
    have h1 := Nat.le_of_ble_eq_true ht.1
    have h2 : id < b := Nat.le_of_ble_eq_true ht.2
    have hp : ∀ x, (∃ b sz, ρ id = some (b, sz) ∧ x = Value.pointer (some ⟨b, poff path, none⟩)) → (∃ b sz, ρ' (σ id) = some (b, sz) ∧ x = Value.pointer (some ⟨b, poff path, none⟩)) := by
      rintro x ⟨b, sz, e, hx⟩; exact ⟨b, sz, h _ _ h1 h2 e, hx⟩
    refine ⟨?_, hp, fun _ h => h⟩
    rintro cs ⟨x, hcs, hx⟩; exact ⟨x, hcs, hp x hx⟩
  | slice id path lo m len cap =>
    simp only [idsIn, Bool.and_eq_true] at ht
    have h1 := Nat.le_of_ble_eq_true ht.1
    have h2 : id < b := Nat.le_of_ble_eq_true ht.2
    have hp : ∀ x, (∃ b sz, ρ id = some (b, sz) ∧ SliceRel b sz path lo m len cap x) → (∃ b sz, ρ' (σ id) = some (b, sz) ∧ SliceRel b sz path lo m len cap x) := by
      rintro x ⟨b, sz, e, hx⟩; exact ⟨b, sz, h _ _ h1 h2 e, hx⟩
    refine ⟨?_, hp, fun _ h => h⟩
    rintro cs ⟨x, hcs, hx⟩; exact ⟨x, hcs, hp x hx⟩
  | fn f cap ih =>
    have ih := ih ht
    have hp : ∀ x, (∃ vs, x = Value.func f #[] vs ∧ (R ρ cap).l vs.toList) → (∃ vs, x = Value.func f #[] vs ∧ (R ρ' (ren σ cap)).l vs.toList) := by
      rintro x ⟨vs, hx, hl⟩; exact ⟨vs, hx, ih.2.2 _ hl⟩
    refine ⟨?_, hp, fun _ h => h⟩
    rintro cs ⟨x, hcs, hx⟩; exact ⟨x, hcs, hp x hx⟩
  | opt g t ih => exact ⟨fun _ h => h, fun x hx => ⟨fun hg => (ih ht).2.1 _ (hx.1 hg), hx.2⟩, fun _ h => h⟩
  | tup t ih => exact ⟨fun _ h => h, fun x ⟨vs, hx, hl⟩ => ⟨vs, hx, (ih ht).2.2 _ hl⟩, fun _ h => h⟩
  | cons x y iha ihb =>
    simp only [idsIn, Bool.and_eq_true] at ht
    have iha := iha ht.1
    have ihb := ihb ht.2
    refine ⟨?_, ?_, ?_⟩
    · rintro cs ⟨x, y, e, hx, hy⟩; exact ⟨x, y, e, iha.1 _ hx, ihb.1 _ hy⟩
    · rintro v ⟨cs, hv, x, y, e, hx, hy⟩; exact ⟨cs, hv, x, y, e, iha.1 _ hx, ihb.1 _ hy⟩
    · rintro xs ⟨y, ys, e, hy, hys⟩; exact ⟨y, ys, e, iha.2.1 _ hy, ihb.2.2 _ hys⟩
  | rows n' m f ih =>
    have h' := allN_spec ht
    refine ⟨?_, ?_, fun _ h => h⟩
    · rintro cs ⟨e, hx⟩; exact ⟨e, fun i hi => (ih i (h' i hi)).1 _ (hx i hi)⟩
    · rintro v ⟨cs, hv, e, hx⟩; exact ⟨cs, hv, e, fun i hi => (ih i (h' i hi)).1 _ (hx i hi)⟩
  | _ => exact ⟨fun _ h => h, fun _ h => h, fun _ h => h⟩

def renO (σ : Nat → Nat) : Option T → Option T
  | some t => some (ren σ t)
  | none => none

def idsInO (a b : Nat) : Heap → Bool
  | [] => true
  | some t :: r => idsIn a b t && idsInO a b r
  | none :: r => idsInO a b r

theorem idsInO_get {a b : Nat} : ∀ {G : Heap} {j : Nat} {t : T}, idsInO a b G = true → hget G j = some t → idsIn a b t = true
  | [], _, _, _, h => by cases h
  | x :: r, 0, t, h, hg => by
    cases x with
    | none => cases hg
    | some y =>
      cases hg
      simp only [idsInO, Bool.and_eq_true] at h
      exact h.1
  | x :: r, j + 1, t, h, hg => by
    cases x with
    | none => exact idsInO_get (G := r) h hg
    | some y =>
      simp only [idsInO, Bool.and_eq_true] at h
      exact idsInO_get (G := r) h.2 hg

theorem hget_append_right : ∀ (G H : Heap) (j : Nat), hget (G ++ H) (G.length + j) = hget H j
  | [], H, j => by simp
  | x :: r, H, j => by
    rw [List.cons_append, List.length_cons, show r.length + 1 + j = r.length + j + 1 by omega]
    exact hget_append_right r H j

theorem hget_map (σ : Nat → Nat) : ∀ (H : Heap) (j : Nat), hget (H.map (renO σ)) j = renO σ (hget H j)
  | [], _ => rfl
  | _ :: _, 0 => rfl
  | _ :: r, j + 1 => hget_map σ r j

theorem hget_drop : ∀ (G : Heap) (k j : Nat), hget (G.drop k) j = hget G (k + j)
  | G, 0, j => by simp
  | [], k + 1, j => rfl
  | x :: r, k + 1, j => by
    rw [show k + 1 + j = k + j + 1 by omega]
    exact hget_drop r k j

variable {P : Program}

/-- Names of the blocks that a run of its own has made, behind a heap's. -/
def shift (k n : Nat) : Nat → Nat := fun j => n + (j - k)

/-- A function that reads k blocks that it is told of and writes none of them; what it makes is new. -/
theorem SoundM.of_trR {f : FuncId} {fn : Func} {c : Code} (hf : P.funcs[f]? = some fn) (hname : (fn.name == "runtime.NumGoroutine") = false) (hb : fn.body = some c) {M : Model} (hstat : ∀ args G r, M args G = some r → Stat G r ∧ r.w = 0)
    (h : ∀ args G r, M args G = some r → r.vc = true → ∀ ρ w args', VLs ρ args args' → Sim (bitK r.t) ρ G w →
      ∃ (ρ0 : Rho) (args0 : List T) (G0 : Heap) (e : Ex) (s : St) (vs : List T) (v : T) (t : Nat), VLs ρ0 args0 args' ∧ (∀ k, G0.length ≤ k → ρ0 k = none) ∧ Sim (fun _ => True) ρ0 G0 w ∧ (e = .ret ∨ e = .normal) ∧
        Tr P G0.length c ⟨args0 ++ undefs (fn.ntmps - args0.length), G0, true, 2 ^ G0.length - 1, 0⟩ e s ∧ s.w % 2 ^ G0.length = 0 ∧ evResults P s fn.results.toList = some (true, vs, t) ∧ one vs = v ∧
        idsIn G0.length s.G.length v = true ∧ idsInO G0.length s.G.length (s.G.drop G0.length) = true ∧ r.v = ren (shift G0.length G.length) v ∧ r.G = G ++ (s.G.drop G0.length).map (renO (shift G0.length G.length))) : SoundM P f M := by
  refine SoundM.of_does ⟨fn, hf, hname, by rw [hb]; rfl⟩ (fun args G r hr => (hstat args G r hr).1) ?_
  intro args G r hr hvc ρ w args' hsim hfr hargs
  obtain ⟨ρ0, args0, G0, e, s, vs, v, t, h1, h2, h3, he, htr, hw0, hres, hv, hid, hidG, hrv, hrG⟩ := h args G r hr hvc ρ w args' hargs hsim
  have hrw := (hstat args G r hr).2
  have hlen := VLs_len h1
  unfold Does
  refine calls_of_wp hf hb ?_
  have hR0 : Rl (fun _ => True) ρ0 G0 w [] (args0 ++ undefs (fn.ntmps - args0.length)).length ⟨args0 ++ undefs (fn.ntmps - args0.length), G0, true, 2 ^ G0.length - 1, 0⟩
      { tmps := args'.toArray ++ Array.replicate (fn.ntmps - args'.toArray.size) undef, defers := [] } w := by
    refine ⟨⟨ρ0, ?_, ?_, ?_⟩, ?_, rfl, ?_, rfl⟩
    · have hv : (R ρ0 T.any).v undef := trivial
      exact Post.anyVc (Post.pure (vc := true) hv 0)
    · intro t'
      have := VLs_tget (fn.ntmps - args0.length) t' h1
      have e1 : (args'.toArray ++ Array.replicate (fn.ntmps - args'.toArray.size) undef).getD t' undef = (args' ++ List.replicate (fn.ntmps - args0.length) undef).getD t' undef := by
        simp [Array.getD_eq_getD_getElem?, List.getD_eq_getElem?_getD, hlen, Array.getElem?_append, List.getElem?_append, Array.getElem?_replicate, List.getElem?_replicate]
      rw [e1]; exact this
    · exact ⟨fun k t' _ hg => h3.blk k t' trivial hg, fun k k' t' t'' p p' _ _ => h3.inj k k' t' t'' p p' trivial trivial⟩
    · simp [hlen, undefs_len]
    · exact ⟨Nat.le_refl _, fun k _ h => by simp [St.res] at h, fun _ _ _ => rfl⟩
  have hrun := htr.run (fun _ => True) ρ0 G0 w [] _ rfl (fun _ _ _ => trivial) h2 _ _ hR0
  refine wp_mono hrun ?_
  rintro e' a' w' ⟨rfl, hR⟩
  obtain ⟨⟨ρ1, hp, htm, hsim'⟩, hsz, hdfr, hst', hlen'⟩ := hR
  obtain ⟨xs, g1, g2⟩ := evResults_sound (P := P) htm hres rfl ⟨fun k t' _ hg => by
      rcases Nat.lt_or_ge k G0.length with h | h
      · exact hsim'.blk k t' (.inl trivial) hg
      · exact hsim'.blk k t' (.inr h) hg, fun k k' t' t'' p p' _ _ => hsim'.inj k k' t' t'' p p' (.inl trivial) (.inl trivial)⟩
  have hres' : (results fn a'.tmps).run P w' = .ok (if h : xs.toArray.size = 1 then xs.toArray[0] else .tuple xs.toArray) w' := by
    have : results fn a'.tmps = (do let vs ← fn.results.mapM (resSem a'.tmps); Pure.pure (if h : vs.size = 1 then vs[0] else .tuple vs)) := rfl
    rw [this, Sem.run_bind, Array.mapM_eq_mapM_toList, Sem.run_map, g1]
    rfl
  have hle : G0.length ≤ s.G.length := hst'.len
  have noW : ∀ k, k < G0.length → s.w.testBit k = false := fun k hk => by
    have e1 : (s.w % 2 ^ G0.length).testBit k = s.w.testBit k := by rw [Nat.testBit_mod_two_pow]; simp [hk]
    rw [hw0] at e1
    simpa using e1.symm
  let ρ' : Rho := fun k => if G.length ≤ k ∧ k < G.length + (s.G.length - G0.length) then ρ1 (k - G.length + G0.length) else ρ k
  have hrl : r.G.length = G.length + (s.G.length - G0.length) := by rw [hrG]; simp
  have hext : ρ.Ext ρ' := fun k p hk => by
    by_cases h : G.length ≤ k ∧ k < G.length + (s.G.length - G0.length)
    · have := hfr k h.1 (by rw [hrl]; exact h.2)
      rw [this] at hk
      cases hk
    · show (if _ then _ else _) = _
      rw [if_neg h]; exact hk
  have hmap : ∀ id p, G0.length ≤ id → id < s.G.length → ρ1 id = some p → ρ' (shift G0.length G.length id) = some p := fun id p ha hb hp' => by
    show (if _ then _ else _) = _
    unfold shift
    rw [if_pos (by omega), show G.length + (id - G0.length) - G.length + G0.length = id by omega]
    exact hp'
  have newG : ∀ k t, G.length ≤ k → hget r.G k = some t → ∃ id t0, G0.length ≤ id ∧ id < s.G.length ∧ k = shift G0.length G.length id ∧ hget s.G id = some t0 ∧ t = ren (shift G0.length G.length) t0 ∧ idsIn G0.length s.G.length t0 = true := by
    intro k t hk hg
    have hlt := hget_lt hg
    rw [hrl] at hlt
    obtain ⟨j, rfl⟩ : ∃ j, k = G.length + j := ⟨k - G.length, by omega⟩
    rw [hrG, hget_append_right, hget_map, hget_drop] at hg
    cases hq : hget s.G (G0.length + j) with
    | none => rw [hq] at hg; cases hg
    | some t0 =>
      rw [hq] at hg
      cases hg
      refine ⟨G0.length + j, t0, by omega, by omega, by unfold shift; omega, hq, rfl, ?_⟩
      exact idsInO_get hidG (j := j) (by rw [hget_drop]; exact hq)
  have fin : bodyPost P fn (fun e w'_1 => ∃ v', e = .returned v' ∧ ∃ ρ', Post ρ ρ' G w r v' w'_1) .ret a' w' := by
    refine ⟨hdfr, _, hres', _, rfl, ρ', ?_⟩
    have hval : (R ρ' r.v).v (if h : xs.toArray.size = 1 then xs.toArray[0] else .tuple xs.toArray) := by
      have := one_sound g2
      rw [hv] at this
      rw [hrv]
      exact (R_ren hmap hid).2.1 _ this
    exact {
      ext := hext
      dom := fun k hk => by
        show (if _ then _ else _) = _
        rw [if_neg (by rw [hrl] at hk; omega)]
      val := hval
      sim := fun k t hk hg => by
        rcases hk with hk | hk
        · obtain ⟨id, t0, i1, i2, rfl, i4, rfl, i6⟩ := newG k t hk hg
          obtain ⟨p, q1, q2⟩ := hsim'.blk id t0 (.inr i1) i4
          refine ⟨p, hmap id p i1 i2 q1, ?_⟩
          obtain ⟨cs, ty, fr, b1, b2, b3, b4, b5⟩ := q2
          exact ⟨cs, ty, fr, b1, b2, by rw [ren_size]; exact b3, by rw [ren_size]; exact (R_ren hmap i6).1 _ b4, b5⟩
        · rw [hrw] at hk; simp at hk
      new := fun k t p hk hg hp' => by
        obtain ⟨id, t0, i1, i2, rfl, i4, rfl, i6⟩ := newG k t hk hg
        obtain ⟨q, q1, q2⟩ := hsim'.blk id t0 (.inr i1) i4
        have : p = q := by
          have := hmap id q i1 i2 q1
          rw [this] at hp'
          exact (Option.some.inj hp').symm
        subst this
        rcases hp.new id t0 p i1 i4 q1 with h | ⟨j, q', j1, j2, _⟩
        · exact .inl h
        · have : s.res.w = s.w := rfl
          rw [this, noW j j1] at j2
          cases j2
      inj := fun k k' t t' p p' hk hk' hg hg' hr hr' he' => by
        obtain ⟨id, t0, i1, i2, rfl, i4, rfl, i6⟩ := newG k t hk hg
        obtain ⟨id', t0', j1, j2, rfl, j4, rfl, j6⟩ := newG k' t' hk' hg'
        obtain ⟨q, q1, _⟩ := hsim'.blk id t0 (.inr i1) i4
        obtain ⟨q', q1', _⟩ := hsim'.blk id' t0' (.inr j1) j4
        have e1 := hmap id q i1 i2 q1
        have e2 := hmap id' q' j1 j2 q1'
        have e3 : q = p := Option.some.inj (e1.symm.trans hr)
        have e4 : q' = p' := Option.some.inj (e2.symm.trans hr')
        subst e3
        subst e4
        have := hp.inj id id' t0 t0' q q' i1 j1 i4 j4 q1 q1' he'
        rw [this]
      frame := fun b hb _ => hp.frame b hb fun k p hk hwk => by
        have : s.res.w = s.w := rfl
        rw [this, noW k hk] at hwk
        cases hwk
      size := hp.size
      os := hp.os
      tape := hp.tape
      output := hp.output }
  rcases he with rfl | rfl
  · exact fin
  · exact fin

/-! ### A slice that is read, as a view of its block -/

def Seen (w : World) (x' : Value) (k : IntKind) (n : Nat) (f : Nat → Int) : Prop :=
  ∃ b off c cs ty fr, x' = .slice (some ⟨b, off, none⟩) n c ∧ w.heap[b]? = some (.cells cs ty fr) ∧ (∀ i, i < cs.size → ¬(fr.1 ≤ i ∧ i < fr.2)) ∧ off + n ≤ cs.size ∧ (∀ y ∈ cs.toList.take (off + n), isCell y) ∧ ∀ j, j < n → cs[off + j]? = some (.int k (f j))

theorem contI_seen {G : Heap} {id lo m len : Nat} {path : List Step} {cap : Option Nat} {vc : Bool} {k : IntKind} {n : Nat} {f : Nat → Int} {tm : Nat} {ρ : Rho} {x' : Value} {w : World} (h : contI G (.slice id path lo m len cap) = some (vc, k, n, f, tm)) (hvc : vc = true)
    (hx : (R ρ (.slice id path lo m len cap)).v x') {t : Nat} (ht : ∀ i, tm.testBit i = true → t.testBit i = true) (hsim : Sim (bitK t) ρ G w) (hn : 0 < n) : Seen w x' k n f ∧ ∃ b sz off c, ρ id = some (b, sz) ∧ x' = .slice (some ⟨b, off, none⟩) n c := by
  subst hvc
  unfold contI at h
  simp only at h
  cases hm : Nat.beq m 1 with
  | false => rw [hm] at h; cases h
  | true =>
    rw [hm] at h
    have hm1 := Nat.eq_of_beq_eq_true hm
    subst hm1
    simp only [cond_true] at h
    split at h
    · rename_i tr htr
      split at h
      · rename_i k0 n0 f0 hg
        simp only [Option.some.injEq, Prod.mk.injEq, Bool.and_eq_true, decide_eq_true_eq] at h
        obtain ⟨⟨h1, h2⟩, rfl, rfl, rfl, rfl⟩ := h
        obtain ⟨b, sz, hr, hs⟩ := hx
        obtain ⟨p, hp, cs, ty, fr, g1, g2, g3, g4, g5⟩ := hsim.blk id tr (ht _ (tb_self id)) htr
        rw [hr] at hp
        cases hp
        obtain ⟨h6, h7⟩ := get_sound g4 hg h1
        simp only [List.length_take, Array.length_toList] at h7
        rw [cut_take (by omega)] at h6
        obtain ⟨e6, h6⟩ := h6
        have hT : T.size (.ints k0 n0 f0) = n0 := rfl
        rw [hT] at h6 h7
        have cell : ∀ j, j < len → cs[poff path + lo + j]? = some (.int k0 (f0 (lo + j))) := fun j hj => by
          have := h6 (lo + j) (by omega)
          rw [cut_getElem (by omega)] at this
          rw [← Nat.add_assoc] at this
          simpa using this
        have key : ∀ off c, off = poff path + lo → x' = .slice (some ⟨b, off, none⟩) len c → Seen w x' k0 len (fun j => f0 (lo + j)) ∧ ∃ b sz off c, ρ id = some (b, sz) ∧ x' = .slice (some ⟨b, off, none⟩) len c := by
          intro off c ho hx'
          subst ho
          refine ⟨⟨b, _, c, cs, ty, fr, hx', g1, g5, by omega, ?_, cell⟩, b, sz, _, c, hr, hx'⟩
          intro y hy
          refine R_cells g4 y ?_
          have : cs.toList.take (poff path + lo + len) = (cs.toList.take tr.size).take (poff path + lo + len) := by
            rw [List.take_take]; congr 1; omega
          rw [this] at hy
          exact List.mem_of_mem_take hy
        cases cap with
        | some c =>
          simp only [SliceRel, Nat.mul_one] at hs
          exact key _ c rfl hs
        | none =>
          obtain ⟨rfl, _, (⟨c, hq, _, _⟩ | ⟨h0, a, _, _⟩)⟩ := hs
          · exact key lo c (by simp [poff]) (by simpa using hq)
          · omega
      · cases h
    · cases h

/-- One slice of its own. -/
theorem Seen.one {w : World} {x' : Value} {k : IntKind} {n : Nat} {f : Nat → Int} (h : Seen w x' k n f) : ∃ (ρ0 : Rho) (off c : Nat), (R ρ0 (.slice 0 [] off 1 n (some c))).v x' ∧ (∀ j, 1 ≤ j → ρ0 j = none) ∧ Sim (fun _ => True) ρ0 [some (.abs (.view off k n f))] w := by
  obtain ⟨b, off, c, cs, ty, fr, rfl, h1, h2, h3, h4, h5⟩ := h
  refine ⟨fun j => if j = 0 then some (b, cs.size) else none, off, c, ⟨b, cs.size, rfl, by simp [SliceRel, poff]⟩, fun j hj => if_neg (by omega), ?_, ?_⟩
  · intro j t _ hg
    cases j with
    | zero =>
      cases hg
      refine ⟨_, rfl, cs, ty, fr, h1, rfl, h3, ?_, h2⟩
      refine ⟨by simp [T.size, Abs.size]; omega, h4, fun i hi => ?_⟩
      rw [List.getElem?_take_of_lt (by show off + i < off + n; omega)]
      simpa using h5 i hi
    | succ j => simp [hget] at hg
  · intro j j' t t' p p' _ _ hg hg' _ _ _
    have := hget_lt hg
    have := hget_lt hg'
    simp at *
    omega

end
end Go.AE
