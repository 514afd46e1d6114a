/- Part 4 of the proof. No condition. -/
import Derived.LoopN
import Derived.Carry
import Derived.WalkKit
import Derived.ProofKit
import Derived.OpenShut
import Derived.ScopeJumps
import Derived.KernelRfl
import Derived.Test.YtjianphppcappaaProg
import Derived.Test.YtjianphppcappaaQHuffLeast3
set_option linter.unusedVariables false
set_option linter.unusedSimpArgs false
set_option linter.unusedSectionVars false

/-! The abstract evaluator: code, functions, laws. No condition. -/

/-! The abstract evaluator: code, and whole functions. No condition. -/
namespace Go.AE
open Go
noncomputable section

structure St where
  tm : List T
  G : Heap
  vc : Bool
  t : Nat
  w : Nat

inductive Ex where
  | normal
  | exit (id : Nat)
  | goto (l : Nat)
  | ret

def Ex.to : Ex → Exit
  | .normal => .normal
  | .exit id => .exit id
  | .goto l => .goto l
  | .ret => .ret

abbrev Step' := St → Option (Ex × St)

def iter : Nat → Step' → Step'
  | 0, _, _ => none
  | n + 1, f, s => match f s with
    | some (.normal, s') => iter n f s'
    | r => r

/-! Values are made ready where they stand: the kernel would else carry long chains of updates along. -/

def forceT {α : Type} (x : T) (k : T → α) : α :=
  match x with
  | .any => k .any
  | .bool b => k (.bool b)
  | .int i n => k (.int i n)
  | .bit i b => k (.bit i b)
  | .word n => k (.word n)
  | .str s => k (.str s)
  | .nilptr => k .nilptr
  | .ptr i p => k (.ptr i p)
  | .nilslice => k .nilslice
  | .slice i p lo m len cap => k (.slice i p lo m len cap)
  | .fn f c => k (.fn f c)
  | .nilfn => k .nilfn
  | .opt g v => k (.opt g v)
  | .tup t => k (.tup t)
  | .nil => k .nil
  | .cons h t => k (.cons h t)
  | .rows n m f => k (.rows n m f)
  | .ints i n f => k (.ints i n f)
  | .abs a => k (.abs a)
  | .num n => k (.num n)
  | .fsi i n f c => k (.fsi i n f c)
  | .fsr m n f c => k (.fsr m n f c)
  | .fp t => k (.fp t)
  | .slen n => k (.slen n)

theorem forceT_eq {α : Type} (x : T) (k : T → α) : forceT x k = k x := by cases x <;> rfl

/-- The parts of a tree, as far as they are told one by one. -/
def forceC {α : Type} (x : T) (k : T → α) : α :=
  match x with
  | .cons h t => forceC h fun h' => forceC t fun t' => k (.cons h' t')
  | x => forceT x k

theorem forceC_eq {α : Type} (x : T) : ∀ k : T → α, forceC x k = k x := by
  induction x with
  | cons h t ih1 ih2 => intro k; simp only [forceC]; rw [ih1, ih2]
  | _ => intro k; rfl

def forceL {α : Type} : List T → (List T → α) → α
  | [], k => k []
  | x :: r, k => forceT x fun x' => forceL r fun r' => k (x' :: r')

theorem forceL_eq {α : Type} : ∀ (l : List T) (k : List T → α), forceL l k = k l
  | [], _ => rfl
  | x :: r, k => by simp only [forceL]; rw [forceT_eq, forceL_eq r]

def forceG {α : Type} : Heap → (Heap → α) → α
  | [], k => k []
  | none :: r, k => forceG r fun r' => k (none :: r')
  | some t :: r, k => forceC t fun t' => forceG r fun r' => k (some t' :: r')

theorem forceG_eq {α : Type} : ∀ (l : Heap) (k : Heap → α), forceG l k = k l
  | [], _ => rfl
  | none :: r, k => by simp only [forceG]; rw [forceG_eq r]
  | some t :: r, k => by simp only [forceG]; rw [forceC_eq, forceG_eq r]

def forceN {α : Type} (n : Nat) (k : Nat → α) : α :=
  match n with
  | 0 => k 0
  | m + 1 => k (m + 1)

theorem forceN_eq {α : Type} (n : Nat) (k : Nat → α) : forceN n k = k n := by cases n <;> rfl

/-! Where all is known, numbers and rows of them are reckoned at once. -/

def forceI {α : Type} (z : Int) (k : Int → α) : α :=
  match z with
  | .ofNat n => forceN n fun n => k (.ofNat n)
  | .negSucc n => forceN n fun n => k (.negSucc n)
theorem forceI_eq {α : Type} (z : Int) (k : Int → α) : forceI z k = k z := by
  cases z with
  | ofNat n => exact forceN_eq n fun n => k (.ofNat n)
  | negSucc n => exact forceN_eq n fun n => k (.negSucc n)

def nthO {β : Type} : List β → Nat → Option β
  | [], _ => none
  | x :: _, 0 => some x
  | _ :: r, i + 1 => nthO r i
/-- A function by a table, as far as it goes. -/
def tab {β : Type} (l : List β) (f : Nat → β) : Nat → β := fun j => match nthO l j with
  | some v => v
  | none => f j
def rowsL {α β : Type} (g : Nat → (β → α) → α) : Nat → List β → (List β → α) → α
  | 0, l, k => k l
  | n + 1, l, k => g n fun t => rowsL g n (t :: l) k
def fromL {β : Type} (f : Nat → β) : Nat → List β → List β
  | 0, l => l
  | n + 1, l => fromL f n (f n :: l)
theorem rowsL_eq {α β : Type} {g : Nat → (β → α) → α} {f : Nat → β} (h : ∀ i k, g i k = k (f i)) : ∀ (n : Nat) (l : List β) (k : List β → α), rowsL g n l k = k (fromL f n l)
  | 0, _, _ => rfl
  | n + 1, l, k => by unfold rowsL fromL; rw [h, rowsL_eq h n]
theorem nthO_fromL {β : Type} (f : Nat → β) : ∀ (n : Nat) (l : List β) (j : Nat), (∀ i v, nthO l i = some v → v = f (n + i)) → ∀ v, nthO (fromL f n l) j = some v → v = f j
  | 0, l, j, h, v, hv => by have := h j v hv; rwa [Nat.zero_add] at this
  | n + 1, l, j, h, v, hv => by
    refine nthO_fromL f n (f n :: l) j (fun i v hi => ?_) v hv
    cases i with
    | zero => cases hi; rfl
    | succ i => rw [h i v hi]; congr 1; omega
theorem tab_eq {β : Type} (f : Nat → β) (n : Nat) : tab (fromL f n []) f = f := by
  funext j
  unfold tab
  split
  · rename_i v hv
    exact nthO_fromL f n [] j (fun i v hi => by cases hi) v hv
  · rfl
def forceO {α : Type} (o : Option Nat) (k : Option Nat → α) : α :=
  match o with
  | some n => forceN n fun n => k (some n)
  | none => k none
theorem forceO_eq {α : Type} (o : Option Nat) (k : Option Nat → α) : forceO o k = k o := by
  cases o with
  | none => rfl
  | some n => exact forceN_eq n fun n => k (some n)
def forceP {α : Type} : List Step → (List Step → α) → α
  | [], k => k []
  | .fld j o :: r, k => forceP r fun r => k (.fld j o :: r)
  | .idx i m :: r, k => forceN i fun i => forceP r fun r => k (.idx i m :: r)
  | .sub o n :: r, k => forceN o fun o => forceN n fun n => forceP r fun r => k (.sub o n :: r)
theorem forceP_eq {α : Type} : ∀ (l : List Step) (k : List Step → α), forceP l k = k l
  | [], _ => rfl
  | .fld j o :: r, k => by unfold forceP; rw [forceP_eq r]
  | .idx i m :: r, k => by unfold forceP; rw [forceN_eq, forceP_eq r]
  | .sub o n :: r, k => by unfold forceP; rw [forceN_eq, forceN_eq, forceP_eq r]
def forceD {α : Type} (x : T) (k : T → α) : α :=
  match x with
  | .any => k .any
  | .bool true => k (.bool true)
  | .bool false => k (.bool false)
  | .int i n => forceI n fun n => k (.int i n)
  | .num n => forceI n fun n => k (.num n)
  | .ptr i p => forceP p fun p => k (.ptr i p)
  | .slice i p lo m len cap => forceP p fun p => forceN lo fun lo => forceN len fun len => forceO cap fun cap => k (.slice i p lo m len cap)
  | .tup t => forceD t fun t => k (.tup t)
  | .cons h t => forceD h fun h => forceD t fun t => k (.cons h t)
  | .rows n m f => rowsL (fun i k => forceD (f i) k) n [] fun l => k (.rows n m (tab l f))
  | .ints i n f => rowsL (fun i k => forceI (f i) k) n [] fun l => k (.ints i n (tab l f))
  | .fsi i n f c => rowsL (fun i k => forceI (f i) k) n [] fun l => k (.fsi i n (tab l f) c)
  | x => k x
theorem forceD_eq {α : Type} (x : T) : ∀ k : T → α, forceD x k = k x := by
  induction x with
  | bool b => intro k; cases b <;> rfl
  | int i n => intro k; exact forceI_eq n fun n => k (.int i n)
  | num n => intro k; exact forceI_eq n fun n => k (.num n)
  | ptr i p => intro k; exact forceP_eq p fun p => k (.ptr i p)
  | slice i p lo m len cap => intro k; simp only [forceD]; rw [forceP_eq, forceN_eq, forceN_eq, forceO_eq]
  | tup t ih => intro k; simp only [forceD]; rw [ih]
  | cons h t ih1 ih2 => intro k; simp only [forceD]; rw [ih1, ih2]
  | rows n m f ih => intro k; simp only [forceD]; rw [rowsL_eq (f := f) (fun i k => ih i k), tab_eq]
  | ints i n f => intro k; simp only [forceD]; rw [rowsL_eq (f := f) (fun i k => forceI_eq _ _), tab_eq]
  | fsi i n f c => intro k; simp only [forceD]; rw [rowsL_eq (f := f) (fun i k => forceI_eq _ _), tab_eq]
  | _ => intro k; rfl
def forceDL {α : Type} (m : Nat) : Nat → List T → (List T → α) → α
  | _, [], k => k []
  | i, x :: r, k => bif m.testBit i then forceD x fun x' => forceDL m (i + 1) r fun r' => k (x' :: r') else forceDL m (i + 1) r fun r' => k (x :: r')
theorem forceDL_eq {α : Type} (m : Nat) : ∀ (i : Nat) (l : List T) (k : List T → α), forceDL m i l k = k l
  | _, [], k => rfl
  | i, x :: r, k => by
    simp only [forceDL]
    cases m.testBit i with
    | true => rw [cond_true, forceD_eq, forceDL_eq m (i + 1) r]
    | false => rw [cond_false, forceDL_eq m (i + 1) r]
def forceDG {α : Type} (m n : Nat) : Nat → Heap → (Heap → α) → α
  | _, [], k => k []
  | i, none :: r, k => forceDG m n (i + 1) r fun r' => k (none :: r')
  | i, some t :: r, k => bif Nat.ble n i || m.testBit i then forceD t fun t' => forceDG m n (i + 1) r fun r' => k (some t' :: r') else forceDG m n (i + 1) r fun r' => k (some t :: r')
theorem forceDG_eq {α : Type} (m n : Nat) : ∀ (i : Nat) (l : Heap) (k : Heap → α), forceDG m n i l k = k l
  | _, [], k => rfl
  | i, none :: r, k => by simp only [forceDG]; rw [forceDG_eq m n (i + 1) r]
  | i, some t :: r, k => by
    simp only [forceDG]
    cases (Nat.ble n i || m.testBit i) with
    | true => rw [cond_true, forceD_eq, forceDG_eq m n (i + 1) r]
    | false => rw [cond_false, forceDG_eq m n (i + 1) r]

def forceS {α : Type} (s : St) (k : St → α) : α :=
  forceL s.tm fun tm => forceG s.G fun G => forceN s.t fun t => forceN s.w fun w => k ⟨tm, G, s.vc, t, w⟩

theorem forceS_eq {α : Type} (s : St) (k : St → α) : forceS s k = k s := by
  unfold forceS
  rw [forceL_eq, forceG_eq, forceN_eq, forceN_eq]

/-- How to go: so many rounds of a loop at most; and which way where a condition is told by no number (by the temporary's number). -/
structure Cf where
  n : Nat
  sy : List (Nat × Bool)
instance (k : Nat) : OfNat Cf k := ⟨⟨k, []⟩⟩

/-- With few rounds asked for, conditions are looked at where they stand; with very many they are gathered. -/
def hasSym (sy : List (Nat × Bool)) : List Oper → Bool
  | [] => false
  | o :: r => (match symD sy o.dst with | some _ => true | none => false) || hasSym sy r

def strict (n : Cf) (ops : List Oper) : Bool := Nat.blt n.n 1000000 && !hasSym n.sy ops
def vcOf (n : Cf) (ops : List Oper) (rs : List Res) (vc : Bool) : Bool := bif strict n ops then vc else vcAll rs && vc
theorem vcOf_spec {n : Cf} {ops : List Oper} {rs : List Res} {vc : Bool} (h : (!strict n ops || vcAll rs) = true) (h' : vcOf n ops rs vc = true) : vcAll rs = true ∧ vc = true := by
  unfold vcOf at h'
  cases hs : strict n ops with
  | true => rw [hs] at h h'; exact ⟨by simpa using h, h'⟩
  | false => rw [hs] at h'; simpa using h'

/-- Where all is known: asked for by a number of rounds of its own. -/
def conc (n : Cf) : Bool := Nat.beq n.n 777
def dstMask : List Oper → Nat
  | [] => 0
  | o :: r => match o.dst with
    | some d => 2 ^ d ||| dstMask r
    | none => dstMask r
def fin {α : Type} (n : Cf) (ops : List Oper) (rs : List Res) (len : Nat) (s : St) (k : St → α) : α := bif conc n then forceN (dstMask ops) fun dm => forceDL dm 0 s.tm fun tm => forceN (wAll rs) fun wm => forceDG wm len 0 s.G fun G => k ⟨tm, G, s.vc, s.t, s.w⟩ else k s
theorem fin_eq {α : Type} (n : Cf) (ops : List Oper) (rs : List Res) (len : Nat) (s : St) (k : St → α) : fin n ops rs len s k = k s := by
  unfold fin
  cases conc n with
  | true => rw [cond_true, forceN_eq, forceDL_eq, forceN_eq, forceDG_eq]
  | false => rfl

def evRegion (P : Program) (env : Env) (n : Cf) (ops : List Oper) (draw : Bool) (s : St) : Option (Ex × St) :=
  match evOps P env n.sy ops ops s.tm s.G with
  | some rs => bif (!draw || logsOK ops rs s.G.length) && (!strict n ops || vcAll rs) then
      forceS ⟨stTm ops rs s.tm ops.length, stG rs s.G ops.length, vcOf n ops rs s.vc, s.t ||| tAll rs, s.w ||| wAll rs⟩ fun s' => fin n ops rs s.G.length s' fun s' => some (.normal, s') else none
  | none => none

def evCode (P : Program) (env : Env) (n : Cf) : Code → Step'
  | .skip, s => some (.normal, s)
  | .region _ ops draw, s => evRegion P env n ops.toList draw s
  | .seq a b, s => match evCode P env n a s with
    | some (.normal, s') => evCode P env n b s'
    | r => r
  | .cond c x y, s => match symOf n.sy c with
   | some o => match stripV (ev s.tm c) with
    | .bool t => bif o then evCode P env n x ⟨s.tm, s.G, t && (stripG (ev s.tm c) && s.vc), s.t, s.w⟩ else evCode P env n y ⟨s.tm, s.G, !t && (stripG (ev s.tm c) && s.vc), s.t, s.w⟩
    | _ => none
   | none => match stripV (ev s.tm c) with
    | .bool true => evCode P env n x ⟨s.tm, s.G, stripG (ev s.tm c) && s.vc, s.t, s.w⟩
    | .bool false => evCode P env n y ⟨s.tm, s.G, stripG (ev s.tm c) && s.vc, s.t, s.w⟩
    | _ => none
  | .block id b, s => match evCode P env n b s with
    | some (.exit id', s') => bif Nat.beq id' id then some (.normal, s') else some (.exit id', s')
    | r => r
  | .loop b, s => iter n.n (evCode P env n b) s
  | .exit id, s => some (.exit id, s)
  | .label _, s => some (.normal, s)
  | .goto l, s => some (.goto l, s)
  | .ret, s => some (.ret, s)
  | _, _ => none

def St.res (s : St) : Res := ⟨true, .any, s.G, s.t, s.w⟩

/-- What is known between a function's entry and a place of its code. -/
structure Rl (K : Nat → Prop) (ρ0 : Rho) (G0 : Heap) (w0 : World) (dS : List Deferred) (m : Nat) (s : St) (a : Act) (w : World) : Prop where
  ex : ∃ ρ, Post ρ0 ρ G0 w0 s.res undef w ∧ (∀ t, (R ρ (tget s.tm t)).v (a.tmps.getD t undef)) ∧ Sim (fun k => K k ∨ G0.length ≤ k) ρ s.G w
  sz : a.tmps.size = m
  dfr : a.defers = dS
  stat : Stat G0 s.res
  len : s.tm.length = m

theorem Stat.trans {G0 : Heap} {r1 r2 : Res} (h1 : Stat G0 r1) (h2 : Stat r1.G r2) (vc : Bool) (v : T) : Stat G0 ⟨vc, v, r2.G, r1.t ||| r2.t, r1.w ||| r2.w⟩ := by
  refine ⟨Nat.le_trans h1.len h2.len, fun k hk hw => ?_, fun k hk hw => ?_⟩
  · simp only [Nat.testBit_or, Bool.or_eq_true] at hw ⊢
    rcases hw with hw | hw
    · obtain ⟨a, b⟩ := h1.wt k hk hw
      exact ⟨.inl a, b⟩
    · obtain ⟨a, t, b⟩ := h2.wt k (Nat.lt_of_lt_of_le hk h1.len) hw
      refine ⟨.inr a, ?_⟩
      cases hb : r1.w.testBit k with
      | true => exact (h1.wt k hk hb).2
      | false => exact ⟨t, by rw [← h1.old k hk hb]; exact b⟩
  · simp only [Nat.testBit_or, Bool.or_eq_false_iff] at hw
    show hget r2.G k = hget G0 k
    rw [h2.old k (Nat.lt_of_lt_of_le hk h1.len) hw.2, h1.old k hk hw.1]

theorem Post.trans {K : Nat → Prop} {ρ0 ρ1 ρ2 : Rho} {G0 : Heap} {w0 w1 w2 : World} {r1 r2 : Res} {v1 v2 : Value} (s1 : Stat G0 r1) (s2 : Stat r1.G r2) (h1 : Post ρ0 ρ1 G0 w0 r1 v1 w1) (h2 : Post ρ1 ρ2 r1.G w1 r2 v2 w2)
    (hsim : Sim (fun k => K k ∨ G0.length ≤ k) ρ1 r1.G w1) (hK : ∀ k, k < G0.length → (r1.t ||| r2.t).testBit k = true → K k) (vc : Bool) :
    Post ρ0 ρ2 G0 w0 ⟨vc, r2.v, r2.G, r1.t ||| r2.t, r1.w ||| r2.w⟩ v2 w2 := by
  have hl1 := s1.len
  have hl2 := s2.len
  have kin : ∀ k, k < r1.G.length → r2.w.testBit k = true → K k ∨ G0.length ≤ k := fun k hk hb => by
    rcases Nat.lt_or_ge k G0.length with h | h
    · exact .inl (hK k h (by simp [Nat.testBit_or, (s2.wt k hk hb).1]))
    · exact .inr h
  have kin1 : ∀ k, k < G0.length → r1.w.testBit k = true → K k := fun k hk hb => hK k hk (by simp [Nat.testBit_or, (s1.wt k hk hb).1])
  have back : ∀ k p, k < G0.length → ρ1 k = some p → ρ0 k = some p := fun k p hk h => by rw [← h1.dom k (.inl hk)]; exact h
  have b12 : ∀ k p, k < r1.G.length → ρ2 k = some p → ρ1 k = some p := fun k p hk h => by rw [← h2.dom k (.inl hk)]; exact h
  have keep : ∀ k t p, (K k ∨ G0.length ≤ k) → k < r1.G.length → r2.w.testBit k = false → hget r1.G k = some t → ρ1 k = some p → w2.heap[p.1]? = w1.heap[p.1]? := by
    intro k t p hin hk hb hg hr
    have hblk := hsim.blk k t p hin hg hr
    refine h2.frame p.1 hblk.lt fun k2 p2 a b c d => ?_
    obtain ⟨_, t2, e⟩ := s2.wt k2 a b
    have := hsim.inj k2 k t2 t p2 p (kin k2 a b) hin e hg c hr d
    subst this
    rw [hb] at b; cases b
  exact {
    ext := h1.ext.trans h2.ext
    dom := fun k hk => by
      rcases hk with hk | hk
      · rw [h2.dom k (.inl (by omega)), h1.dom k (.inl hk)]
      · have hk' : r2.G.length ≤ k := hk
        rw [h2.dom k (.inr hk'), h1.dom k (.inr (by omega))]
    val := h2.val
    ro := fun b cs hb => by
      rcases h2.ro b cs hb with h | ⟨h, hv⟩
      · rcases h1.ro b cs h with h' | ⟨h', ty, fr, hv⟩
        · exact .inl h'
        · refine .inr ⟨h', ty, fr, (h2.frame b (hsim.ro.lt h) fun k p hk hw hp he => ?_).trans hv⟩
          obtain ⟨_, t, hg⟩ := s2.wt k hk hw
          have := hsim.dis k t p (kin k hk hw) hg hp
          rw [he, h] at this
          cases this
      · exact .inr ⟨Nat.le_trans h1.size h, hv⟩
    dis := fun k t p hk hg hr => by
      have hg' : hget r2.G k = some t := hg
      rcases Nat.lt_or_ge k r1.G.length with hlt | hge
      · cases hb : r2.w.testBit k with
        | true => exact h2.dis k t p (.inr hb) hg' hr
        | false =>
          have hg1 : hget r1.G k = some t := by rw [← s2.old k hlt hb]; exact hg'
          have hor : G0.length ≤ k ∨ r1.w.testBit k = true := by
            rcases hk with hk | hk
            · exact .inl hk
            · simp only [Nat.testBit_or, hb, Bool.or_false] at hk; exact .inr hk
          have hin : K k ∨ G0.length ≤ k := by
            rcases hor with h | h
            · exact .inr h
            · rcases Nat.lt_or_ge k G0.length with h' | h'
              · exact .inl (kin1 k h' h)
              · exact .inr h'
          have hq := b12 k p hlt hr
          have hblk := hsim.blk k t p hin hg1 hq
          cases e : ρ2.ro p.1 with
          | none => rfl
          | some cs =>
            rcases h2.ro _ cs e with h | ⟨h, _⟩
            · rw [hsim.dis k t p hin hg1 hq] at h; cases h
            · have := hblk.lt; omega
      · exact h2.dis k t p (.inl hge) hg' hr
    vac := fun k t hk hg hr => by
      have hg' : hget r2.G k = some t := hg
      rcases Nat.lt_or_ge k r1.G.length with hlt | hge
      · cases hb : r2.w.testBit k with
        | true => exact h2.vac k t (.inr hb) hg' hr
        | false =>
          have hg1 : hget r1.G k = some t := by rw [← s2.old k hlt hb]; exact hg'
          have hor : G0.length ≤ k ∨ r1.w.testBit k = true := by
            rcases hk with hk | hk
            · exact .inl hk
            · simp only [Nat.testBit_or, hb, Bool.or_false] at hk; exact .inr hk
          have hin : K k ∨ G0.length ≤ k := by
            rcases hor with h | h
            · exact .inr h
            · rcases Nat.lt_or_ge k G0.length with h' | h'
              · exact .inl (kin1 k h' h)
              · exact .inr h'
          exact hsim.vac k t hin hg1 (by rw [← h2.dom k (.inl hlt)]; exact hr)
      · exact h2.vac k t (.inl hge) hg' hr
    sim := fun k t p hk hg hr => by
      have hg' : hget r2.G k = some t := hg
      rcases Nat.lt_or_ge k r1.G.length with hlt | hge
      · cases hb : r2.w.testBit k with
        | true => exact h2.sim k t p (.inr hb) hg' hr
        | false =>
          have hg1 : hget r1.G k = some t := by rw [← s2.old k hlt hb]; exact hg'
          have hor : G0.length ≤ k ∨ r1.w.testBit k = true := by
            rcases hk with hk | hk
            · exact .inl hk
            · simp only [Nat.testBit_or, hb, Bool.or_false] at hk; exact .inr hk
          have hin : K k ∨ G0.length ≤ k := by
            rcases hor with h | h
            · exact .inr h
            · rcases Nat.lt_or_ge k G0.length with h' | h'
              · exact .inl (kin1 k h' h)
              · exact .inr h'
          have hp := b12 k p hlt hr
          exact ((hsim.blk k t p hin hg1 hp).mono h2.ext).same (keep k t p hin hlt hb hg1 hp)
      · exact h2.sim k t p (.inl hge) hg' hr
    new := fun k t p hk hg hr => by
      have hg' : hget r2.G k = some t := hg
      have old : ∀ t1 q, hget r1.G k = some t1 → ρ1 k = some q → q = p → w0.heap.size ≤ p.1 ∨ ∃ j q, j < G0.length ∧ (r1.w ||| r2.w).testBit j = true ∧ hget r2.G j = none ∧ ρ0 j = some q ∧ q.1 = p.1 := by
        intro t1 q hg1 hq e
        subst e
        rcases h1.new k t1 q hk hg1 hq with h | ⟨j, q2, a, b, c, d, e⟩
        · exact .inl h
        · refine .inr ⟨j, q2, a, by simp [Nat.testBit_or, b], ?_, d, e⟩
          cases hb : r2.w.testBit j with
          | true => obtain ⟨_, t3, h3⟩ := s2.wt j (by omega) hb; rw [h3] at c; cases c
          | false => rw [s2.old j (by omega) hb]; exact c
      rcases Nat.lt_or_ge k r1.G.length with hlt | hge
      · cases hb : r2.w.testBit k with
        | true =>
          obtain ⟨_, t2, h4⟩ := s2.wt k hlt hb
          exact old t2 p h4 (b12 k p hlt hr) rfl
        | false =>
          have hg1 : hget r1.G k = some t := by rw [← s2.old k hlt hb]; exact hg'
          exact old t p hg1 (b12 k p hlt hr) rfl
      · rcases h2.new k t p hge hg' hr with h | ⟨j, q, a, b, c, d, e⟩
        · exact .inl (Nat.le_trans h1.size h)
        · obtain ⟨_, t2, h4⟩ := s2.wt j a b
          rcases Nat.lt_or_ge j G0.length with h5 | h5
          · exact .inr ⟨j, q, h5, by simp [Nat.testBit_or, b], c, back j q h5 d, e⟩
          · rcases h1.new j t2 q h5 h4 d with h | ⟨j', q', a', b', c', d', e'⟩
            · exact .inl (by omega)
            · refine .inr ⟨j', q', a', by simp [Nat.testBit_or, b'], ?_, d', e'.trans e⟩
              cases hb : r2.w.testBit j' with
              | true => obtain ⟨_, t3, h3⟩ := s2.wt j' (by omega) hb; rw [h3] at c'; cases c'
              | false => rw [s2.old j' (by omega) hb]; exact c'
    inj := fun k k' t t' p p' hk hk' hg hg' hr hr' he => by
      have hg2 : hget r2.G k = some t := hg
      have hg2' : hget r2.G k' = some t' := hg'
      -- those that were there
      have was : ∀ k t p, G0.length ≤ k → k < r1.G.length → hget r2.G k = some t → ρ2 k = some p → ∃ t1, hget r1.G k = some t1 ∧ ρ1 k = some p := by
        intro k t p hk hlt hg hr
        have : ∃ t1, hget r1.G k = some t1 := by
          cases hb : r2.w.testBit k with
          | true => exact (s2.wt k hlt hb).2
          | false => exact ⟨t, by rw [← s2.old k hlt hb]; exact hg⟩
        obtain ⟨t1, h3⟩ := this
        exact ⟨t1, h3, b12 k p hlt hr⟩
      have mixed : ∀ k k' t t' p p', G0.length ≤ k → k < r1.G.length → r1.G.length ≤ k' → hget r2.G k = some t → hget r2.G k' = some t' → ρ2 k = some p → ρ2 k' = some p' → p.1 ≠ p'.1 := by
        intro k k' t t' p p' hk hlt hge hg hg' hr hr' he
        obtain ⟨t1, h3, h4⟩ := was k t p hk hlt hg hr
        have hblk := hsim.blk k t1 p (.inr hk) h3 h4
        rcases h2.new k' t' p' hge hg' hr' with h | ⟨j, q, a, b, c, d, e⟩
        · have := hblk.lt; omega
        · obtain ⟨_, t2, h5⟩ := s2.wt j a b
          have := hsim.inj j k t2 t1 q p (kin j a b) (.inr hk) h5 h3 d h4 (e.trans he.symm)
          subst this
          rw [c] at hg; cases hg
      rcases Nat.lt_or_ge k r1.G.length with hlt | hge <;> rcases Nat.lt_or_ge k' r1.G.length with hlt' | hge'
      · obtain ⟨t1, h3, h4⟩ := was k t p hk hlt hg2 hr
        obtain ⟨t1', h3', h4'⟩ := was k' t' p' hk' hlt' hg2' hr'
        exact hsim.inj k k' t1 t1' p p' (.inr hk) (.inr hk') h3 h3' h4 h4' he
      · exact absurd he (mixed k k' t t' p p' hk hlt hge' hg2 hg2' hr hr')
      · exact absurd he.symm (mixed k' k t' t p' p hk' hlt' hge hg2' hg2 hr' hr)
      · exact h2.inj k k' t t' p p' hge hge' hg2 hg2' hr hr' he
    frame := fun b hb hne => by
      rw [← h1.frame b hb fun k p a c d => hne k p a (by simp [Nat.testBit_or, c]) d]
      refine h2.frame b (Nat.lt_of_lt_of_le hb h1.size) fun k p a c d e => ?_
      rcases Nat.lt_or_ge k G0.length with h | h
      · exact hne k p h (by simp [Nat.testBit_or, c]) (back k p h d) e
      · obtain ⟨_, t2, h4⟩ := s2.wt k a c
        rcases h1.new k t2 p h h4 d with h5 | ⟨j, q, a', b', c', d', e'⟩
        · omega
        · exact hne j q a' (by simp [Nat.testBit_or, b']) d' (e'.trans e)
    size := Nat.le_trans h1.size h2.size
    os := h2.os.trans h1.os
    tape := h2.tape.trans h1.tape
    output := h2.output.trans h1.output }

/-- What grows along a run of code. -/
structure Grow (s s' : St) : Prop where
  vc : s'.vc = true → s.vc = true
  t : ∀ k, s.t.testBit k = true → s'.t.testBit k = true
  G : s.G.length ≤ s'.G.length
  tm : s'.tm.length = s.tm.length

theorem Grow.refl (s : St) : Grow s s := ⟨id, fun _ h => h, Nat.le_refl _, rfl⟩
theorem Grow.trans {a b c : St} (h : Grow a b) (h' : Grow b c) : Grow a c := ⟨fun x => h.vc (h'.vc x), fun k x => h'.t k (h.t k x), Nat.le_trans h.G h'.G, h'.tm.trans h.tm⟩

variable {P : Program} {env : Env}

theorem evRegion_grow (henv : EnvOK P env) {n : Cf} {ops : Array Oper} {draw : Bool} {s s' : St} {e : Ex} (h : evRegion P env n ops.toList draw s = some (e, s')) : Grow s s' := by
  unfold evRegion at h
  split at h
  · rename_i rs hrs
    cases hb : ((!draw || logsOK ops.toList rs s.G.length) && (!strict n ops.toList || vcAll rs)) with
    | false => rw [hb] at h; cases h
    | true =>
      rw [hb] at h
      simp only [cond_true, forceS_eq, fin_eq] at h
      cases h
      let U : Run P env := ⟨n.sy, ops, s.tm, s.G, rs, hrs⟩
      rw [Bool.and_eq_true] at hb
      refine ⟨fun x => (vcOf_spec hb.2 x).2, fun k x => by simp [Nat.testBit_or, x], ?_, ?_⟩
      · exact (U.out_stat henv).len
      · exact stTm_len _ _ _ _
  · cases h

theorem iter_grow {f : Step'} (hf : ∀ s e s', f s = some (e, s') → Grow s s') : ∀ (n : Nat) (s : St) (e : Ex) (s' : St), iter n f s = some (e, s') → Grow s s'
  | 0, _, _, _, h => by cases h
  | n + 1, s, e, s', h => by
    simp only [iter] at h
    split at h
    · rename_i s1 h1
      exact (hf _ _ _ h1).trans (iter_grow hf n s1 e s' h)
    · exact hf _ _ _ h

theorem evCode_grow (henv : EnvOK P env) {n : Cf} : ∀ (c : Code) (s : St) (e : Ex) (s' : St), evCode P env n c s = some (e, s') → Grow s s' := by
  intro c
  induction c with
  | skip => intro s e s' h; simp only [evCode] at h; cases h; exact Grow.refl s
  | region id ops draw => intro s e s' h; simp only [evCode] at h; exact evRegion_grow henv h
  | seq a b iha ihb =>
    intro s e s' h
    simp only [evCode] at h
    split at h
    · rename_i s1 h1
      exact (iha _ _ _ h1).trans (ihb _ _ _ h)
    · exact iha _ _ _ h
  | cond c x y ihx ihy =>
    intro s e s' h
    simp only [evCode] at h
    split at h
    · rename_i o ho
      split at h
      · cases o with
        | true =>
          have := ihx _ _ _ h
          exact ⟨fun z => by have := this.vc z; simp only [Bool.and_eq_true] at this; exact this.2.2, this.t, this.G, this.tm⟩
        | false =>
          have := ihy _ _ _ h
          exact ⟨fun z => by have := this.vc z; simp only [Bool.and_eq_true] at this; exact this.2.2, this.t, this.G, this.tm⟩
      · cases h
    split at h
    · have := ihx _ _ _ h
      exact ⟨fun z => by have := this.vc z; simp only [Bool.and_eq_true] at this; exact this.2, this.t, this.G, this.tm⟩
    · have := ihy _ _ _ h
      exact ⟨fun z => by have := this.vc z; simp only [Bool.and_eq_true] at this; exact this.2, this.t, this.G, this.tm⟩
    · cases h
  | block id b ih =>
    intro s e s' h
    simp only [evCode] at h
    split at h
    · rename_i id' s1 h1
      have := ih _ _ _ h1
      cases hb : Nat.beq id' id <;> rw [hb] at h <;> cases h <;> exact this
    · exact ih _ _ _ h
  | loop b ih => intro s e s' h; simp only [evCode] at h; exact iter_grow ih n.n s e s' h
  | exit id => intro s e s' h; simp only [evCode] at h; cases h; exact Grow.refl s
  | label => intro s e s' h; simp only [evCode] at h; cases h; exact Grow.refl s
  | goto l => intro s e s' h; simp only [evCode] at h; cases h; exact Grow.refl s
  | ret => intro s e s' h; simp only [evCode] at h; cases h; exact Grow.refl s
  | _ => intro s e s' h; simp [evCode] at h

/-- What a piece of code comes to. -/
def Lands' (K : Nat → Prop) (ρ0 : Rho) (G0 : Heap) (w0 : World) (dS : List Deferred) (m : Nat) (e : Ex) (s' : St) : Exit → Act → World → Prop :=
  fun e' a' w' => e' = e.to ∧ Rl K ρ0 G0 w0 dS m s' a' w'

theorem evRegion_sound (henv : EnvOK P env) (hmix : P.follows .mixedOrders = true) {K : Nat → Prop} {ρ0 : Rho} {G0 : Heap} {w0 : World} {dS : List Deferred} {m : Nat} {id : Nat} {n : Cf} {ops : Array Oper} {draw : Bool} {s s' : St} {e : Ex}
    (h : evRegion P env n ops.toList draw s = some (e, s')) (hvc : s'.vc = true) (hK : ∀ k, k < G0.length → s'.t.testBit k = true → K k) (hfr : ∀ k, G0.length ≤ k → k < s'.G.length → ρ0 k = none)
    {a : Act} {w : World} (hR : Rl K ρ0 G0 w0 dS m s a w) : (Code.region id ops draw).wp P (Lands' K ρ0 G0 w0 dS m e s') a w := by
  unfold evRegion at h
  split at h
  case h_2 => cases h
  rename_i rs hrs
  cases hb : ((!draw || logsOK ops.toList rs s.G.length) && (!strict n ops.toList || vcAll rs)) with
  | false => rw [hb] at h; cases h
  | true =>
    rw [hb] at h
    simp only [cond_true, forceS_eq, fin_eq] at h
    cases h
    obtain ⟨⟨ρ, hp, htm, hsim⟩, hsz, hdfr, hst, hlen⟩ := hR
    let U : Run P env := ⟨n.sy, ops, s.tm, s.G, rs, hrs⟩
    rw [Bool.and_eq_true] at hb
    have hvc := vcOf_spec hb.2 hvc
    have hb := hb.1
    have hl0 : G0.length ≤ s.G.length := hst.len
    have hK' : ∀ k, k < U.G0.length → U.out.t.testBit k = true → K k ∨ G0.length ≤ k := fun k _ hb => by
      rcases Nat.lt_or_ge k G0.length with h | h
      · exact .inl (hK k h (by
          show (s.t ||| tAll rs).testBit k = true
          rw [Nat.testBit_or]
          have : (tAll rs).testBit k = true := hb
          simp [this]))
      · exact .inr h
    have hfr' : ∀ k, U.G0.length ≤ k → k < U.out.G.length → ρ k = none := fun k h1 h2 => by
      rw [hp.dom k (.inr h1)]
      exact hfr k (Nat.le_trans hl0 h1) h2
    have hsim' : Sim (fun k => (K k ∨ G0.length ≤ k) ∨ U.G0.length ≤ k) ρ U.G0 w :=
      ⟨fun k t p hk hg => hsim.blk k t p (hk.elim (fun x => x) fun h => .inr (Nat.le_trans hl0 h)) hg,
       fun k t hk hg => hsim.vac k t (hk.elim (fun x => x) fun h => .inr (Nat.le_trans hl0 h)) hg,
       fun k k' t t' p p' hk hk' hg hg' => hsim.inj k k' t t' p p' (hk.elim (fun x => x) fun h => .inr (Nat.le_trans hl0 h)) (hk'.elim (fun x => x) fun h => .inr (Nat.le_trans hl0 h)) hg hg', hsim.ro,
       fun k t p hk hg hp => hsim.dis k t p (hk.elim (fun x => x) fun h => .inr (Nat.le_trans hl0 h)) hg hp⟩
    have hn : U.n = ops.toList.length := rfl
    have fin : ∀ a' w' dw, dw.heap = w.heap → dw.os = w.os → dw.tape = w.tape → dw.output = w.output → OutOK (fun k => K k ∨ G0.length ≤ k) ρ U.G0 dw a.defers U.tm0.length U.out a' w' →
        Rl K ρ0 G0 w0 dS m ⟨stTm ops.toList rs s.tm ops.toList.length, stG rs s.G ops.toList.length, vcOf n ops.toList rs s.vc, s.t ||| tAll rs, s.w ||| wAll rs⟩ a' w' := by
      intro a' w' dw hd1 hd2 hd3 hd4 ho
      obtain ⟨⟨ρ2, hp2, htm2, hsim2⟩, hsz2, hdfr2⟩ := ho
      have hp1 : Post ρ0 ρ G0 w0 s.res undef dw := by
        exact { ext := hp.ext, dom := hp.dom, val := hp.val, new := hp.new, inj := hp.inj
                sim := fun k t p hk hg hq => (hp.sim k t p hk hg hq).same (by rw [hd1])
                vac := hp.vac
                frame := fun b hb hne => by rw [hd1]; exact hp.frame b hb hne
                size := by rw [hd1]; exact hp.size
                os := hd2.trans hp.os
                tape := hd3.trans hp.tape
                output := hd4.trans hp.output
                ro := fun b cs hb => by rw [hd1]; exact hp.ro b cs hb
                dis := hp.dis }
      have hsim1 : Sim (fun k => K k ∨ G0.length ≤ k) ρ s.G dw := ⟨fun k t p hk hg hq => (hsim.blk k t p hk hg hq).same (by rw [hd1]), hsim.vac, hsim.inj, fun b cs hb => by rw [hd1]; exact hsim.ro b cs hb, hsim.dis⟩
      have hst2 : Stat s.res.G ⟨true, .any, U.out.G, U.out.t, U.out.w⟩ := ⟨(U.out_stat henv).len, (U.out_stat henv).wt, (U.out_stat henv).old⟩
      refine ⟨⟨ρ2, Post.trans hst hst2 hp1 hp2 hsim1 hK true, htm2, ?_⟩, hsz2.trans hlen, hdfr2.trans hdfr, hst.trans hst2 true .any, ?_⟩
      · exact ⟨fun k t p hk hg => hsim2.blk k t p (.inl hk) hg, fun k t hk hg => hsim2.vac k t (.inl hk) hg, fun k k' t t' p p' hk hk' hg hg' => hsim2.inj k k' t t' p p' (.inl hk) (.inl hk') hg hg', hsim2.ro, fun k t p hk hg hp => hsim2.dis k t p (.inl hk) hg hp⟩
      · show (stTm ops.toList rs s.tm ops.toList.length).length = m
        rw [stTm_len]; exact hlen
    have hsz' : a.tmps.size = U.tm0.length := hsz.trans hlen.symm
    cases draw with
    | false => exact region_seq henv U (K := fun k => K k ∨ G0.length ≤ k) hvc.1 hK' hfr' hsz' htm hsim' fun a' w' ho => ⟨rfl, fin a' w' w rfl rfl rfl rfl ho⟩
    | true =>
      simp only [Bool.not_true, Bool.false_or] at hb
      exact region_any henv hmix U (K := fun k => K k ∨ G0.length ≤ k) hvc.1 hb hK' hfr' hsz' htm hsim' fun a' w' dw h1 h2 h3 h4 ho => ⟨rfl, fin a' w' dw h1 h2 h3 h4 ho⟩

theorem iter_sound {K : Nat → Prop} {ρ0 : Rho} {G0 : Heap} {w0 : World} {dS : List Deferred} {m : Nat} {c : Code} {f : Step'}
    (hg : ∀ s e s', f s = some (e, s') → Grow s s')
    (hf : ∀ s e s', f s = some (e, s') → s'.vc = true → (∀ k, k < G0.length → s'.t.testBit k = true → K k) → (∀ k, G0.length ≤ k → k < s'.G.length → ρ0 k = none) → ∀ a w, Rl K ρ0 G0 w0 dS m s a w → c.wp P (Lands' K ρ0 G0 w0 dS m e s') a w) :
    ∀ (n : Nat) (s : St) (e : Ex) (s' : St), iter n f s = some (e, s') → s'.vc = true → (∀ k, k < G0.length → s'.t.testBit k = true → K k) → (∀ k, G0.length ≤ k → k < s'.G.length → ρ0 k = none) → ∀ a w, Rl K ρ0 G0 w0 dS m s a w →
      Code.rounds P c (Lands' K ρ0 G0 w0 dS m e s') n a w := by
  intro n
  induction n with
  | zero => intro s e s' h; cases h
  | succ n ih =>
    intro s e s' h hvc hK hfr a w hR
    rw [rounds_succ]
    simp only [iter] at h
    split at h
    · rename_i s1 h1
      have hgr := iter_grow hg n s1 e s' h
      have hc := hf s .normal s1 h1 (hgr.vc hvc) (fun k hk hb => hK k hk (hgr.t k hb)) (fun k hk hlt => hfr k hk (Nat.lt_of_lt_of_le hlt hgr.G)) a w hR
      refine wp_mono hc ?_
      rintro e1 a1 w1 ⟨rfl, hR1⟩
      exact ih s1 e s' h hvc hK hfr a1 w1 hR1
    · rename_i r hr
      have hc := hf s e s' h hvc hK hfr a w hR
      refine wp_mono hc ?_
      rintro e1 a1 w1 ⟨rfl, hR1⟩
      cases e
      · exact (hr s' h).elim
      all_goals exact ⟨rfl, hR1⟩

theorem evCode_sound (henv : EnvOK P env) (hmix : P.follows .mixedOrders = true) {n : Cf} {K : Nat → Prop} {ρ0 : Rho} {G0 : Heap} {w0 : World} {dS : List Deferred} {m : Nat} : ∀ (c : Code) (s : St) (e : Ex) (s' : St),
    evCode P env n c s = some (e, s') → s'.vc = true → (∀ k, k < G0.length → s'.t.testBit k = true → K k) → (∀ k, G0.length ≤ k → k < s'.G.length → ρ0 k = none) → ∀ a w, Rl K ρ0 G0 w0 dS m s a w → c.wp P (Lands' K ρ0 G0 w0 dS m e s') a w := by
  intro c
  induction c with
  | skip => intro s e s' h _ _ _ a w hR; simp only [evCode] at h; cases h; exact wp_skip ⟨rfl, hR⟩
  | region id ops draw => intro s e s' h hvc hK hfr a w hR; simp only [evCode] at h; exact evRegion_sound henv hmix h hvc hK hfr hR
  | seq x y ihx ihy =>
    intro s e s' h hvc hK hfr a w hR
    simp only [evCode] at h
    split at h
    · rename_i s1 h1
      have hgr := evCode_grow henv _ _ _ _ h
      refine wp_seq (wp_mono (ihx _ _ _ h1 (hgr.vc hvc) (fun k hk hb => hK k hk (hgr.t k hb)) (fun k hk hlt => hfr k hk (Nat.lt_of_lt_of_le hlt hgr.G)) a w hR) ?_)
      rintro e1 a1 w1 ⟨rfl, hR1⟩
      exact ihy _ _ _ h hvc hK hfr a1 w1 hR1
    · rename_i r hr
      refine wp_seq (wp_mono (ihx _ _ _ h hvc hK hfr a w hR) ?_)
      rintro e1 a1 w1 ⟨rfl, hR1⟩
      cases e
      · exact (hr s' h).elim
      all_goals exact ⟨rfl, hR1⟩
  | cond c x y ihx ihy =>
    intro s e s' h hvc hK hfr a w hR
    simp only [evCode] at h
    have hv : (∀ t, stripV (ev s.tm c) = .bool t → stripG (ev s.tm c) = true → a.eval c = .bool t) := by
      intro t ht hg
      obtain ⟨⟨ρ, _, htm, _⟩, _⟩ := hR
      have := strip_R (Act.eval_ev (x := c) (a := a) fun t _ => htm t) hg
      rw [ht] at this
      exact this
    split at h
    · rename_i o ho
      split at h
      · rename_i t ht
        cases o with
        | true =>
          have hgr := evCode_grow henv _ _ _ _ h
          have hvs := hgr.vc hvc
          simp only [Bool.and_eq_true] at hvs
          have hb := hv _ ht hvs.2.1
          rw [hvs.1] at hb
          exact wp_cond_true hb (ihx _ _ _ h hvc hK hfr a w ⟨hR.ex, hR.sz, hR.dfr, hR.stat, hR.len⟩)
        | false =>
          have hgr := evCode_grow henv _ _ _ _ h
          have hvs := hgr.vc hvc
          simp only [Bool.and_eq_true, Bool.not_eq_true'] at hvs
          have hb := hv _ ht hvs.2.1
          rw [hvs.1] at hb
          exact wp_cond_false hb (ihy _ _ _ h hvc hK hfr a w ⟨hR.ex, hR.sz, hR.dfr, hR.stat, hR.len⟩)
      · cases h
    split at h
    · rename_i ht
      have hgr := evCode_grow henv _ _ _ _ h
      have hvs := hgr.vc hvc
      simp only [Bool.and_eq_true] at hvs
      exact wp_cond_true (hv _ ht hvs.1) (ihx _ _ _ h hvc hK hfr a w ⟨hR.ex, hR.sz, hR.dfr, hR.stat, hR.len⟩)
    · rename_i ht
      have hgr := evCode_grow henv _ _ _ _ h
      have hvs := hgr.vc hvc
      simp only [Bool.and_eq_true] at hvs
      exact wp_cond_false (hv _ ht hvs.1) (ihy _ _ _ h hvc hK hfr a w ⟨hR.ex, hR.sz, hR.dfr, hR.stat, hR.len⟩)
    · cases h
  | block id b ih =>
    intro s e s' h hvc hK hfr a w hR
    simp only [evCode] at h
    split at h
    · rename_i id' s1 h1
      have hs : s1 = s' := by cases hb : Nat.beq id' id <;> rw [hb] at h <;> cases h <;> rfl
      subst hs
      refine wp_block (wp_mono (ih _ _ _ h1 hvc hK hfr a w hR) ?_)
      rintro e1 a1 w1 ⟨rfl, hR1⟩
      cases hb : Nat.beq id' id with
      | true =>
        rw [hb] at h; cases h
        have := Nat.eq_of_beq_eq_true hb
        show Exit.inBlock id _ (.exit id') a1 w1
        simp only [Exit.inBlock, this, if_true]
        exact ⟨rfl, hR1⟩
      | false =>
        rw [hb] at h; cases h
        have : ¬ id' = id := fun e => by rw [e, Nat.beq_refl] at hb; cases hb
        show Exit.inBlock id _ (.exit id') a1 w1
        simp only [Exit.inBlock, this, if_false]
        exact ⟨rfl, hR1⟩
    · rename_i r hr
      refine wp_block (wp_mono (ih _ _ _ h hvc hK hfr a w hR) ?_)
      rintro e1 a1 w1 ⟨rfl, hR1⟩
      cases e
      case exit id' => exact (hr id' s' h).elim
      all_goals exact ⟨rfl, hR1⟩
  | loop b ih =>
    intro s e s' h hvc hK hfr a w hR
    simp only [evCode] at h
    exact wp_loop_rounds n.n (iter_sound (evCode_grow henv b) (fun s e s' h => ih s e s' h) n.n s e s' h hvc hK hfr a w hR)
  | exit id => intro s e s' h _ _ _ a w hR; simp only [evCode] at h; cases h; exact wp_exit ⟨rfl, hR⟩
  | label => intro s e s' h _ _ _ a w hR; simp only [evCode] at h; cases h; exact wp_label ⟨rfl, hR⟩
  | goto l => intro s e s' h _ _ _ a w hR; simp only [evCode] at h; cases h; exact wp_goto ⟨rfl, hR⟩
  | ret => intro s e s' h _ _ _ a w hR; simp only [evCode] at h; cases h; exact wp_ret ⟨rfl, hR⟩
  | _ => intro s e s' h; simp [evCode] at h


/-- What code does to the abstract heap, whatever was logged before. -/
structure StatC (s s' : St) : Prop where
  ex : ∃ t w, Stat s.G ⟨true, .any, s'.G, t, w⟩ ∧ s'.t = s.t ||| t ∧ s'.w = s.w ||| w

theorem StatC.refl (s s' : St) (hG : s'.G = s.G) (ht : s'.t = s.t) (hw : s'.w = s.w) : StatC s s' := ⟨0, 0, by rw [hG]; exact Stat.pure _ _ _ _, by simp [ht], by simp [hw]⟩
theorem StatC.trans {a b c : St} (h : StatC a b) (h' : StatC b c) : StatC a c := by
  obtain ⟨t1, w1, s1, e1, e2⟩ := h
  obtain ⟨t2, w2, s2, e3, e4⟩ := h'
  exact ⟨t1 ||| t2, w1 ||| w2, s1.trans s2 true .any, by rw [e3, e1, Nat.or_assoc], by rw [e4, e2, Nat.or_assoc]⟩

theorem evRegion_statC (henv : EnvOK P env) {n : Cf} {ops : Array Oper} {draw : Bool} {s s' : St} {e : Ex} (h : evRegion P env n ops.toList draw s = some (e, s')) : StatC s s' := by
  unfold evRegion at h
  split at h
  · rename_i rs hrs
    cases hb : ((!draw || logsOK ops.toList rs s.G.length) && (!strict n ops.toList || vcAll rs)) with
    | false => rw [hb] at h; cases h
    | true =>
      rw [hb] at h
      simp only [cond_true, forceS_eq, fin_eq] at h
      cases h
      let U : Run P env := ⟨n.sy, ops, s.tm, s.G, rs, hrs⟩
      exact ⟨tAll rs, wAll rs, ⟨(U.out_stat henv).len, (U.out_stat henv).wt, (U.out_stat henv).old⟩, rfl, rfl⟩
  · cases h

theorem iter_statC {f : Step'} (hf : ∀ s e s', f s = some (e, s') → StatC s s') : ∀ (n : Nat) (s : St) (e : Ex) (s' : St), iter n f s = some (e, s') → StatC s s'
  | 0, _, _, _, h => by cases h
  | n + 1, s, e, s', h => by
    simp only [iter] at h
    split at h
    · rename_i s1 h1
      exact (hf _ _ _ h1).trans (iter_statC hf n s1 e s' h)
    · exact hf _ _ _ h

theorem evCode_statC (henv : EnvOK P env) {n : Cf} : ∀ (c : Code) (s : St) (e : Ex) (s' : St), evCode P env n c s = some (e, s') → StatC s s' := by
  intro c
  induction c with
  | skip => intro s e s' h; simp only [evCode] at h; cases h; exact .refl _ _ rfl rfl rfl
  | region id ops draw => intro s e s' h; simp only [evCode] at h; exact evRegion_statC henv h
  | seq a b iha ihb =>
    intro s e s' h
    simp only [evCode] at h
    split at h
    · rename_i s1 h1
      exact (iha _ _ _ h1).trans (ihb _ _ _ h)
    · exact iha _ _ _ h
  | cond c x y ihx ihy =>
    intro s e s' h
    simp only [evCode] at h
    split at h
    · rename_i o ho
      split at h
      · rename_i t ht
        cases o with
        | true => exact (StatC.refl s ⟨s.tm, s.G, t && (stripG (ev s.tm c) && s.vc), s.t, s.w⟩ rfl rfl rfl).trans (ihx _ _ _ h)
        | false => exact (StatC.refl s ⟨s.tm, s.G, !t && (stripG (ev s.tm c) && s.vc), s.t, s.w⟩ rfl rfl rfl).trans (ihy _ _ _ h)
      · cases h
    split at h
    · exact (StatC.refl s ⟨s.tm, s.G, stripG (ev s.tm c) && s.vc, s.t, s.w⟩ rfl rfl rfl).trans (ihx _ _ _ h)
    · exact (StatC.refl s ⟨s.tm, s.G, stripG (ev s.tm c) && s.vc, s.t, s.w⟩ rfl rfl rfl).trans (ihy _ _ _ h)
    · cases h
  | block id b ih =>
    intro s e s' h
    simp only [evCode] at h
    split at h
    · rename_i id' s1 h1
      have := ih _ _ _ h1
      cases hb : Nat.beq id' id <;> rw [hb] at h <;> cases h <;> exact this
    · exact ih _ _ _ h
  | loop b ih => intro s e s' h; simp only [evCode] at h; exact iter_statC ih n.n s e s' h
  | exit id => intro s e s' h; simp only [evCode] at h; cases h; exact .refl _ _ rfl rfl rfl
  | label => intro s e s' h; simp only [evCode] at h; cases h; exact .refl _ _ rfl rfl rfl
  | goto l => intro s e s' h; simp only [evCode] at h; cases h; exact .refl _ _ rfl rfl rfl
  | ret => intro s e s' h; simp only [evCode] at h; cases h; exact .refl _ _ rfl rfl rfl
  | _ => intro s e s' h; simp [evCode] at h

theorem evCode_stat (henv : EnvOK P env) {n : Cf} (c : Code) (tm : List T) (G : Heap) {e : Ex} {s : St} (h : evCode P env n c ⟨tm, G, true, 0, 0⟩ = some (e, s)) : Stat G s.res := by
  obtain ⟨t, w, h1, h2, h3⟩ := evCode_statC henv c _ e s h
  simp only [Nat.zero_or] at h2 h3
  unfold St.res
  rw [h2, h3]
  exact h1

/-! ### Functions -/

def evResult (P : Program) (s : St) : ResultVar → Option (Bool × T × Nat)
  | .tmp t => some (true, tget s.tm t, 0)
  | .cell a t => match evLoad P s.G t (stripV (tget s.tm a)) with
    | some r => some (stripG (tget s.tm a) && r.vc, r.v, r.t)
    | none => none

def evResults (P : Program) (s : St) : List ResultVar → Option (Bool × List T × Nat)
  | [] => some (true, [], 0)
  | x :: r => match evResult P s x, evResults P s r with
    | some (vc, v, t), some (vc', vs, t') => some (vc && vc', v :: vs, t ||| t')
    | _, _ => none

def one : List T → T
  | [v] => v
  | vs => .tup (ofL vs)

def undefs : Nat → List T
  | 0 => []
  | n + 1 => .any :: undefs n

def fullR (G : Heap) (s : St) (vc : Bool) (vs : List T) (t : Nat) : Res := ⟨vc && s.vc, one vs, s.G, s.t ||| t, s.w⟩

/-- A function's body, from its arguments on. -/
def evFn (P : Program) (env : Env) (n : Cf) (fn : Func) : Model := fun args G =>
  match fn.body with
  | none => none
  | some c => match evCode P env n c ⟨args ++ undefs (fn.ntmps - args.length), G, true, 0, 0⟩ with
    | some (.ret, s) => match evResults P s fn.results.toList with
      | some (vc, vs, t) => some (fullR G s vc vs t)
      | none => none
    | some (.normal, s) => match evResults P s fn.results.toList with
      | some (vc, vs, t) => some (fullR G s vc vs t)
      | none => none
    | _ => none

theorem undefs_len (n : Nat) : (undefs n).length = n := by induction n <;> simp [undefs, *]

theorem VLs_len {ρ : Rho} : ∀ {ts : List T} {xs : List Value}, VLs ρ ts xs → ts.length = xs.length
  | [], _, h => by cases h; rfl
  | _ :: _, _, ⟨y, ys, e, _, hys⟩ => by subst e; simp [VLs_len hys]

theorem VLs_tget {ρ : Rho} : ∀ {ts : List T} {xs : List Value} (n t : Nat), VLs ρ ts xs → (R ρ (tget (ts ++ undefs n) t)).v ((xs ++ List.replicate n undef).getD t undef)
  | [], _, n, t, h => by
    cases h
    have : tget (undefs n) t = .any := by
      induction n generalizing t with
      | zero => rfl
      | succ n ih => cases t with
        | zero => rfl
        | succ t => exact ih t
    rw [List.nil_append, this]; trivial
  | _ :: _, _, n, 0, ⟨y, ys, e, hy, _⟩ => by subst e; exact hy
  | _ :: _, _, n, t + 1, ⟨y, ys, e, _, hys⟩ => by subst e; exact VLs_tget n t hys

def resSem (tmps : Array Value) : ResultVar → Sem Value
  | .tmp t => pure (tmps.getD t undef)
  | .cell ad t => do loadVar t (← asAddr (tmps.getD ad undef))

theorem evResults_sound {P : Program} {s : St} {ρ : Rho} {a : Act} {w : World} (htm : ∀ t, (R ρ (tget s.tm t)).v (a.tmps.getD t undef)) : ∀ {rs : List ResultVar} {vc : Bool} {vs : List T} {t : Nat},
    evResults P s rs = some (vc, vs, t) → vc = true → Sim (bitK t) ρ s.G w → ∃ xs, (rs.mapM (resSem a.tmps)).run P w = .ok xs w ∧ VLs ρ vs xs
  | [], _, _, _, h, _, _ => by cases h; exact ⟨[], rfl, rfl⟩
  | x :: r, vc, vs, t, h, hvc, hsim => by
    simp only [evResults] at h
    split at h
    · rename_i vc1 v t1 vc2 vs2 t2 h1 h2
      cases h
      simp only [Bool.and_eq_true] at hvc
      obtain ⟨xs, g1, g2⟩ := evResults_sound htm (rs := r) h2 hvc.2 (hsim.weak fun k _ hk => by unfold bitK at *; simp [Nat.testBit_or, hk])
      cases x with
      | tmp t =>
        cases h1
        refine ⟨a.tmps.getD t undef :: xs, ?_, _, _, rfl, htm t, g2⟩
        rw [List.mapM_cons]
        simp only [Sem.run_bind, resSem, Sem.run_pure, Result.andThen_ok, g1]
      | cell ad t =>
        simp only [evResult] at h1
        split at h1
        · rename_i rr hrr
          cases h1
          simp only [Bool.and_eq_true] at hvc
          have hx := strip_R (htm ad) hvc.1.1
          obtain ⟨v', k1, hrv⟩ := evLoad_val (P := P) hrr hvc.1.2 hx (hsim.weak fun k _ hk => by unfold bitK at *; simp [Nat.testBit_or, hk])
          refine ⟨v' :: xs, ?_, _, _, rfl, hrv, g2⟩
          -- the address is one
          have haddr : ∃ b o, a.tmps.getD ad undef = .pointer (some ⟨b, o, none⟩) := by
            unfold evLoad at hrr
            split at hrr
            · rename_i id path he
              rw [he] at hx
              obtain ⟨b, sz, _, hxe⟩ := hx
              exact ⟨b, _, hxe⟩
            · cases hrr
          obtain ⟨b, o, he⟩ := haddr
          rw [he] at k1
          simp only [Instr.loadAt, Instr.sureAddr, Sem.run_bind, Sem.run_pure, Result.andThen_ok] at k1
          have k3 : (resSem a.tmps (.cell ad t)).run P w = .ok v' w := by
            simp only [resSem, he, asAddr, Sem.run_bind, Sem.run_pure, Result.andThen_ok, k1]
          rw [List.mapM_cons]
          simp only [Sem.run_bind, k3, Sem.run_pure, Result.andThen_ok, g1]
        · cases h1
    · cases h

theorem one_sound {ρ : Rho} {vs : List T} {xs : List Value} (h : VLs ρ vs xs) : (R ρ (one vs)).v (if h : xs.toArray.size = 1 then xs.toArray[0] else .tuple xs.toArray) := by
  cases vs with
  | nil => cases h; exact ⟨#[], rfl, rfl⟩
  | cons v vs =>
    cases vs with
    | nil =>
      obtain ⟨y, ys, rfl, hy, hys⟩ := h
      cases hys
      simp only [one]
      exact hy
    | cons v2 vs =>
      have hl := VLs_len h
      have : ¬ xs.toArray.size = 1 := by simp at hl ⊢; omega
      rw [dif_neg this]
      exact ⟨xs.toArray, rfl, ofL_l h⟩

theorem SoundM.of_ev (henv : EnvOK P env) (hmix : P.follows .mixedOrders = true) {n : Cf} {f : FuncId} {fn : Func} (hf : P.funcs[f]? = some fn) (hname : (fn.name == "runtime.NumGoroutine") = false) (hbody : fn.body.isNone = false) : SoundM P f (evFn P env n fn) := by
  have shape : ∀ args G r, evFn P env n fn args G = some r → ∃ c e s vc vs t, fn.body = some c ∧ evCode P env n c ⟨args ++ undefs (fn.ntmps - args.length), G, true, 0, 0⟩ = some (e, s) ∧ (e = .ret ∨ e = .normal) ∧ evResults P s fn.results.toList = some (vc, vs, t) ∧ r = fullR G s vc vs t := by
    intro args G r h
    unfold evFn at h
    split at h
    · cases h
    · rename_i c hc
      split at h
      · rename_i s hs
        split at h
        · rename_i vc vs t hr
          cases h
          exact ⟨c, _, s, vc, vs, t, hc, hs, .inl rfl, hr, rfl⟩
        · cases h
      · rename_i s hs
        split at h
        · rename_i vc vs t hr
          cases h
          exact ⟨c, _, s, vc, vs, t, hc, hs, .inr rfl, hr, rfl⟩
        · cases h
      · cases h
  have statc : ∀ {c : Code} {args : List T} {G : Heap} {e : Ex} {s : St}, evCode P env n c ⟨args ++ undefs (fn.ntmps - args.length), G, true, 0, 0⟩ = some (e, s) → Stat G s.res := fun h => evCode_stat henv _ _ _ h
  refine SoundM.of_does ⟨fn, hf, hname, hbody⟩ ?_ ?_
  · intro args G r h
    obtain ⟨c, e, s, vc, vs, t, _, h2, _, _, rfl⟩ := shape args G r h
    have := statc h2
    exact ⟨this.len, fun k hk hw => by
      obtain ⟨a, b⟩ := this.wt k hk hw
      refine ⟨?_, b⟩
      show (s.t ||| t).testBit k = true
      rw [Nat.testBit_or]
      have a' : s.t.testBit k = true := a
      simp [a'], this.old⟩
  · intro args G r h hvc ρ w args' hsim hfr hargs
    obtain ⟨c, e, s, vc, vs, t, hc, h2, he, h3, rfl⟩ := shape args G r h
    simp only [fullR, Bool.and_eq_true] at hvc
    unfold Does
    refine calls_of_wp hf hc ?_
    have hst := statc h2
    have hlen := VLs_len hargs
    have hR0 : Rl (bitK (s.t ||| t)) ρ G w [] (args ++ undefs (fn.ntmps - args.length)).length ⟨args ++ undefs (fn.ntmps - args.length), G, true, 0, 0⟩
        { tmps := args'.toArray ++ Array.replicate (fn.ntmps - args'.toArray.size) undef, defers := [] } w := by
      refine ⟨⟨ρ, ?_, ?_, ?_⟩, ?_, rfl, ?_, rfl⟩
      · have hv : (R ρ T.any).v undef := trivial
        exact Post.pure hv 0
      · intro t'
        have := VLs_tget (fn.ntmps - args.length) t' hargs
        have e1 : (args'.toArray ++ Array.replicate (fn.ntmps - args'.toArray.size) undef).getD t' undef = (args' ++ List.replicate (fn.ntmps - args.length) undef).getD t' undef := by
          simp [Array.getD_eq_getD_getElem?, List.getD_eq_getElem?_getD, hlen, Array.getElem?_append, List.getElem?_append, Array.getElem?_replicate, List.getElem?_replicate]
        rw [e1]; exact this
      · exact hsim.weak fun k hl hk => by
          rcases hk with hk | hk
          · exact hk
          · omega
      · simp [hlen, undefs_len]
      · exact Stat.pure _ _ _ _
    have hcode := evCode_sound henv hmix (K := bitK (s.t ||| t)) (ρ0 := ρ) (G0 := G) (w0 := w) (dS := []) c _ e s h2 hvc.2 (fun k _ hb => by
      unfold bitK; rw [Nat.testBit_or, hb]; rfl) (fun k h4 h5 => hfr k h4 h5) _ _ hR0
    refine wp_mono hcode ?_
    rintro e' a' w' ⟨rfl, hR⟩
    obtain ⟨⟨ρ', hp, htm, hsim'⟩, hsz, hdfr, hst', hlen'⟩ := hR
    obtain ⟨xs, g1, g2⟩ := evResults_sound (P := P) htm h3 hvc.1 (hsim'.weak fun k _ hk => by
        left; unfold bitK at *; rw [Nat.testBit_or, hk, Bool.or_true])
    have hres : (results fn a'.tmps).run P w' = .ok (if h : xs.toArray.size = 1 then xs.toArray[0] else .tuple xs.toArray) w' := by
      have : results fn a'.tmps = (do let vs ← fn.results.mapM (resSem a'.tmps); pure (if h : vs.size = 1 then vs[0] else .tuple vs)) := rfl
      rw [this, Sem.run_bind, Array.mapM_eq_mapM_toList, Sem.run_map, g1]
      rfl
    have fin : bodyPost P fn (fun e w'_1 => ∃ v', e = .returned v' ∧ ∃ ρ', Post ρ ρ' G w (fullR G s vc vs t) v' w'_1) .ret a' w' := by
      refine ⟨hdfr, _, hres, _, rfl, ρ', ?_⟩
      exact ⟨hp.ext, hp.dom, one_sound g2, hp.sim, hp.vac, hp.new, hp.inj, hp.frame, hp.size, hp.os, hp.tape, hp.output, hp.ro, hp.dis⟩
    rcases he with rfl | rfl
    · exact fin
    · exact fin

end
end Go.AE

/-! Functions that only compute: pure models. No condition. -/
namespace Go.AE
open Go
noncomputable section

abbrev PModel := List T → Option (Bool × T)

def pureModel (m : PModel) : Model := fun args G =>
  match m args with
  | some (vc, v) => some ⟨vc, v, G, 0, 0⟩
  | none => none

def argsOK : List T → Bool
  | [] => true
  | a :: r => noPtr a && argsOK r

theorem argsOK_VLs {ρ ρ' : Rho} (hro : ∀ b cs, ρ.ro b = some cs → ρ'.ro b = some cs) : ∀ {ts : List T} {xs : List Value}, argsOK ts = true → VLs ρ ts xs → VLs ρ' ts xs
  | [], _, _, h => h
  | t :: ts, _, ha, ⟨y, ys, e, hy, hys⟩ => by
    simp only [argsOK, Bool.and_eq_true] at ha
    exact ⟨y, ys, e, (noPtr_R ha.1 ρ ρ' hro).2.1 _ hy, argsOK_VLs hro ha.2 hys⟩

theorem VLs_mono {ρ ρ' : Rho} (h : ρ.Ext ρ') : ∀ {ts : List T} {xs : List Value}, VLs ρ ts xs → VLs ρ' ts xs
  | [], _, h' => h'
  | _ :: _, _, ⟨y, ys, e, hy, hys⟩ => ⟨y, ys, e, R_v_mono h hy, VLs_mono h hys⟩

theorem Sim.none (ρ : Rho) (w : World) (h : RoOK ρ w) (K : Nat → Prop) : Sim K ρ [] w :=
  ⟨fun k t p _ hg => by simp [hget] at hg, fun k t _ hg => by simp [hget] at hg, fun k k' t t' p p' _ _ hg => by simp [hget] at hg, h, fun k t p _ hg => by simp [hget] at hg⟩

/-- A run in no memory of its own, of which only a value is kept. -/
theorem Post.ofBare {ρ ρ' : Rho} {G : Heap} {w w' : World} {r : Res} {v : T} {v0 v' : Value} (hp : Post ρ.bare ρ' [] w r v0 w') (hv : (R (ρ.keep ρ') v).v v') (vc : Bool) (t : Nat) : Post ρ (ρ.keep ρ') G w ⟨vc, v, G, t, 0⟩ v' w' where
  ext := ⟨fun _ _ h => h, hp.ext.ro⟩
  dom := fun _ _ => rfl
  val := hv
  sim := fun k t p hk hg => by
    rcases hk with hk | hk
    · have : k < G.length := hget_lt hg
      omega
    · simp at hk
  vac := fun k t hk hg => by
    rcases hk with hk | hk
    · have : k < G.length := hget_lt hg
      omega
    · simp at hk
  new := fun k t p hk hg => by
    have : k < G.length := hget_lt hg
    omega
  inj := fun k k' t t' p p' hk _ hg => by
    have : k < G.length := hget_lt hg
    omega
  frame := fun b hb _ => hp.frame b hb fun k p hk => by simp at hk
  size := hp.size
  os := hp.os
  tape := hp.tape
  output := hp.output
  ro := hp.ro
  dis := fun k t p hk hg => by
    rcases hk with hk | hk
    · have : k < G.length := hget_lt hg
      omega
    · simp at hk

theorem SoundM.pure {P : Program} {f : FuncId} {M : Model} {m : PModel} (hs : SoundM P f M)
    (h : ∀ args vc v, m args = some (vc, v) → vc = true → argsOK args = true ∧ noPtr v = true ∧ ∃ r, M args [] = some r ∧ r.vc = true ∧ r.v = v) : SoundM P f (pureModel m) := by
  refine ⟨?_, ?_⟩
  · intro args G r hr
    unfold pureModel at hr
    split at hr
    · cases hr; exact Stat.pure _ _ _ _
    · cases hr
  · intro args G r hr hvc ρ w args' hsim _ hargs
    unfold pureModel at hr
    split at hr
    · rename_i vc v hm
      cases hr
      obtain ⟨h1, h2, r, h3, h4, h5⟩ := h args vc v hm hvc
      have hd := hs.lands args [] r h3 h4 ρ.bare w args' (Sim.none ρ.bare w hsim.ro.bare _) (fun _ _ _ => rfl) (argsOK_VLs (ρ := ρ) (ρ' := ρ.bare) (fun _ _ h => h) h1 hargs)
      refine Lands.mono ?_ hd
      rintro v' w' ⟨ρ', hp⟩
      refine ⟨_, hp.ofBare ?_ _ _⟩
      have := hp.val
      rw [h5] at this
      exact (noPtr_R h2 ρ' (ρ.keep ρ') (fun _ _ h => h)).2.1 _ this
    · cases hr

/-- The same, where what is told of arguments and value is less than what a model says; a model for each case. -/
theorem SoundM.refineX {P : Program} {f : FuncId} {m : PModel}
    (h : ∀ args vc v, m args = some (vc, v) → vc = true → ∀ ρ xs, VLs ρ args xs → ∃ M, SoundM P f M ∧ ∃ args2, VLs rho0 args2 xs ∧ ∃ r, M args2 [] = some r ∧ r.vc = true ∧ ∀ ρ' x, (R ρ' r.v).v x → (R ρ v).v x) : SoundM P f (pureModel m) := by
  refine ⟨?_, ?_⟩
  · intro args G r hr
    unfold pureModel at hr
    split at hr
    · cases hr; exact Stat.pure _ _ _ _
    · cases hr
  · intro args G r hr hvc ρ w args' hsim _ hargs
    unfold pureModel at hr
    split at hr
    · rename_i vc v hm
      cases hr
      obtain ⟨M, hs, args2, h1, r, h3, h4, h5⟩ := h args vc v hm hvc ρ args' hargs
      have hx : rho0.Ext ρ.bare := ⟨fun _ _ h => h, fun _ _ h => (by cases h)⟩
      have hd := hs.lands args2 [] r h3 h4 ρ.bare w args' (Sim.none ρ.bare w hsim.ro.bare _) (fun _ _ _ => rfl) (VLs_mono hx h1)
      refine Lands.mono ?_ hd
      rintro v' w' ⟨ρ', hp⟩
      exact ⟨_, hp.ofBare (R_v_mono (ρ := ρ) (ρ' := ρ.keep ρ') ⟨fun _ _ h => h, hp.ext.ro⟩ (h5 ρ' v' hp.val)) _ _⟩
    · cases hr

theorem SoundM.refine {P : Program} {f : FuncId} {M : Model} {m : PModel} (hs : SoundM P f M)
    (h : ∀ args vc v, m args = some (vc, v) → vc = true → ∀ ρ xs, VLs ρ args xs → ∃ args2, VLs rho0 args2 xs ∧ ∃ r, M args2 [] = some r ∧ r.vc = true ∧ ∀ ρ' x, (R ρ' r.v).v x → (R ρ v).v x) : SoundM P f (pureModel m) :=
  SoundM.refineX fun args vc v hm hvc ρ xs hx => ⟨M, hs, h args vc v hm hvc ρ xs hx⟩

/-- Condition and value of a run in an empty memory. -/
def mv (M : Model) (args : List T) : Option (Bool × T) := (M args []).map fun r => (r.vc, r.v)
theorem mv_some {M : Model} {args : List T} {vc : Bool} {v : T} (h : mv M args = some (vc, v)) : ∃ r, M args [] = some r ∧ r.vc = vc ∧ r.v = v := by
  unfold mv at h
  cases hm : M args [] with
  | none => rw [hm] at h; cases h
  | some r => rw [hm] at h; cases h; exact ⟨r, rfl, rfl, rfl⟩

/-- A model of one function, beside others. -/
def Env.set (env : Env) (f : FuncId) (m : Model) : Env := fun g => bif Nat.beq g f then some m else env g

theorem EnvOK.set {P : Program} {env : Env} (h : EnvOK P env) {f : FuncId} {m : Model} (hm : SoundM P f m) : EnvOK P (env.set f m) := by
  intro g m' hg
  unfold Env.set at hg
  cases hb : Nat.beq g f with
  | true =>
    rw [hb] at hg
    have := Nat.eq_of_beq_eq_true hb
    subst this
    cases hg
    exact hm
  | false =>
    rw [hb] at hg
    exact h g m' hg

def env0 : Env := fun _ => none
theorem env0_ok (P : Program) : EnvOK P env0 := fun _ _ h => by cases h

end
end Go.AE

/-! Runs of code between abstract states: rules, loops, what is forgotten. No condition. -/
namespace Go.AE
open Go
noncomputable section

variable {P : Program} {env : Env}

/-- So many blocks that are told. -/
def Told (n : Nat) (G : Heap) : Prop := G.length = n ∧ ∀ k, k < n → ∃ t, hget G k = some t
theorem Told.nil : Told 0 [] := ⟨rfl, fun k hk => absurd hk (Nat.not_lt_zero k)⟩

/-- From a state code comes to another one, in a function that began with n0 known blocks. -/
structure Tr (P : Program) (n0 : Nat) (c : Code) (s : St) (e : Ex) (s' : St) : Prop where
  len : n0 ≤ s.G.length → n0 ≤ s'.G.length
  t : ∀ k, k < n0 → s.t.testBit k = true → s'.t.testBit k = true
  tm : s'.tm.length = s.tm.length
  run : ∀ K ρ0 G0 w0 dS m, Told n0 G0 → (∀ k, k < G0.length → s'.t.testBit k = true → K k) → (∀ k, G0.length ≤ k → ρ0 k = none) →
    ∀ a w, Rl K ρ0 G0 w0 dS m s a w → c.wp P (Lands' K ρ0 G0 w0 dS m e s') a w

structure TrN (P : Program) (n0 : Nat) (b : Code) (n : Nat) (s : St) (e : Ex) (s' : St) : Prop where
  len : n0 ≤ s.G.length → n0 ≤ s'.G.length
  t : ∀ k, k < n0 → s.t.testBit k = true → s'.t.testBit k = true
  tm : s'.tm.length = s.tm.length
  run : ∀ K ρ0 G0 w0 dS m, Told n0 G0 → (∀ k, k < G0.length → s'.t.testBit k = true → K k) → (∀ k, G0.length ≤ k → ρ0 k = none) →
    ∀ a w, Rl K ρ0 G0 w0 dS m s a w → Code.rounds P b (Lands' K ρ0 G0 w0 dS m e s') n a w

theorem Rl.vc {K : Nat → Prop} {ρ0 : Rho} {G0 : Heap} {w0 : World} {dS : List Deferred} {m : Nat} {s : St} {a : Act} {w : World} (h : Rl K ρ0 G0 w0 dS m s a w) (vc : Bool) : Rl K ρ0 G0 w0 dS m ⟨s.tm, s.G, vc, s.t, s.w⟩ a w :=
  ⟨h.ex, h.sz, h.dfr, h.stat, h.len⟩

theorem Tr.of_ev (henv : EnvOK P env) (hmix : P.follows .mixedOrders = true) {n : Cf} {n0 : Nat} {c : Code} {s : St} {e : Ex} {vc : Bool} {tm' : List T} {G' : Heap} {t' w' : Nat}
    (h : evCode P env n c s = some (e, ⟨tm', G', vc, t', w'⟩)) (hvc : vc = true) : Tr P n0 c s e ⟨tm', G', true, t', w'⟩ := by
  subst hvc
  have hg := evCode_grow henv _ _ _ _ h
  exact ⟨fun h0 => Nat.le_trans h0 hg.G, fun k _ => hg.t k, hg.tm, fun K ρ0 G0 w0 dS m _ h1 h2 a w hR => evCode_sound henv hmix c s e _ h rfl h1 (fun k hk _ => h2 k hk) a w hR⟩

theorem Tr.seq {n0 : Nat} {x y : Code} {s s1 s2 : St} {e : Ex} (h : Tr P n0 x s .normal s1) (h' : Tr P n0 y s1 e s2) : Tr P n0 (.seq x y) s e s2 :=
  ⟨fun h0 => h'.len (h.len h0), fun k hk hb => h'.t k hk (h.t k hk hb), h'.tm.trans h.tm, fun K ρ0 G0 w0 dS m hn h1 h2 a w hR =>
    wp_seq (wp_mono (h.run K ρ0 G0 w0 dS m hn (fun k hk hb => h1 k hk (h'.t k (hn.1 ▸ hk) hb)) h2 a w hR) (by
      rintro e1 a1 w1 ⟨rfl, hR1⟩
      exact h'.run K ρ0 G0 w0 dS m hn h1 h2 a1 w1 hR1))⟩

theorem Tr.seqX {n0 : Nat} {x y : Code} {s s1 : St} {e : Ex} (h : Tr P n0 x s e s1) (he : e ≠ .normal) : Tr P n0 (.seq x y) s e s1 :=
  ⟨h.len, h.t, h.tm, fun K ρ0 G0 w0 dS m hn h1 h2 a w hR => wp_seq (wp_mono (h.run K ρ0 G0 w0 dS m hn h1 h2 a w hR) (by
      rintro e1 a1 w1 ⟨rfl, hR1⟩
      cases e
      · exact (he rfl).elim
      all_goals exact ⟨rfl, hR1⟩))⟩

theorem Tr.blockX {n0 id : Nat} {b : Code} {s s1 : St} (h : Tr P n0 b s (.exit id) s1) : Tr P n0 (.block id b) s .normal s1 :=
  ⟨h.len, h.t, h.tm, fun K ρ0 G0 w0 dS m hn h1 h2 a w hR => wp_block (wp_mono (h.run K ρ0 G0 w0 dS m hn h1 h2 a w hR) (by
      rintro e1 a1 w1 ⟨rfl, hR1⟩
      show Exit.inBlock id _ (.exit id) a1 w1
      simp only [Exit.inBlock, if_true]
      exact ⟨rfl, hR1⟩))⟩

theorem Tr.block {n0 id : Nat} {b : Code} {s s1 : St} {e : Ex} (h : Tr P n0 b s e s1) (he : ∀ i, e = .exit i → i ≠ id) : Tr P n0 (.block id b) s e s1 :=
  ⟨h.len, h.t, h.tm, fun K ρ0 G0 w0 dS m hn h1 h2 a w hR => wp_block (wp_mono (h.run K ρ0 G0 w0 dS m hn h1 h2 a w hR) (by
      rintro e1 a1 w1 ⟨rfl, hR1⟩
      cases e
      case exit i =>
        show Exit.inBlock id _ (.exit i) a1 w1
        simp only [Exit.inBlock, he i rfl, if_false]
        exact ⟨rfl, hR1⟩
      all_goals exact ⟨rfl, hR1⟩))⟩

theorem Tr.cond {n0 : Nat} {c : Operand} {x y : Code} {s s1 : St} {e : Ex} {t : Bool} (hc : ev s.tm c = .bool t) (h1 : t = true → Tr P n0 x s e s1) (h2 : t = false → Tr P n0 y s e s1) : Tr P n0 (.cond c x y) s e s1 := by
  have hv : ∀ K ρ0 G0 w0 dS m a w, Rl K ρ0 G0 w0 dS m s a w → a.eval c = .bool t := by
    intro K ρ0 G0 w0 dS m a w hR
    obtain ⟨⟨ρ, _, htm, _⟩, _⟩ := hR
    have := Act.eval_ev (x := c) (a := a) fun t _ => htm t
    rw [hc] at this
    exact this
  cases t with
  | true =>
    have h := h1 rfl
    exact ⟨h.len, h.t, h.tm, fun K ρ0 G0 w0 dS m hn g1 g2 a w hR => wp_cond_true (hv K ρ0 G0 w0 dS m a w hR) (h.run K ρ0 G0 w0 dS m hn g1 g2 a w hR)⟩
  | false =>
    have h := h2 rfl
    exact ⟨h.len, h.t, h.tm, fun K ρ0 G0 w0 dS m hn g1 g2 a w hR => wp_cond_false (hv K ρ0 G0 w0 dS m a w hR) (h.run K ρ0 G0 w0 dS m hn g1 g2 a w hR)⟩

theorem Tr.loop {n0 n : Nat} {b : Code} {s s1 : St} {e : Ex} (h : TrN P n0 b n s e s1) : Tr P n0 (.loop b) s e s1 :=
  ⟨h.len, h.t, h.tm, fun K ρ0 G0 w0 dS m hn h1 h2 a w hR => wp_loop_rounds n (h.run K ρ0 G0 w0 dS m hn h1 h2 a w hR)⟩

theorem TrN.next {n0 n : Nat} {b : Code} {s s1 s2 : St} {e : Ex} (h : Tr P n0 b s .normal s1) (h' : TrN P n0 b n s1 e s2) : TrN P n0 b (n + 1) s e s2 :=
  ⟨fun h0 => h'.len (h.len h0), fun k hk hb => h'.t k hk (h.t k hk hb), h'.tm.trans h.tm, fun K ρ0 G0 w0 dS m hn h1 h2 a w hR => by
    rw [rounds_succ]
    refine wp_mono (h.run K ρ0 G0 w0 dS m hn (fun k hk hb => h1 k hk (h'.t k (hn.1 ▸ hk) hb)) h2 a w hR) ?_
    rintro e1 a1 w1 ⟨rfl, hR1⟩
    exact h'.run K ρ0 G0 w0 dS m hn h1 h2 a1 w1 hR1⟩

theorem TrN.done {n0 n : Nat} {b : Code} {s s1 : St} {e : Ex} (h : Tr P n0 b s e s1) (he : e ≠ .normal) : TrN P n0 b (n + 1) s e s1 :=
  ⟨h.len, h.t, h.tm, fun K ρ0 G0 w0 dS m hn h1 h2 a w hR => by
    rw [rounds_succ]
    refine wp_mono (h.run K ρ0 G0 w0 dS m hn h1 h2 a w hR) ?_
    rintro e1 a1 w1 ⟨rfl, hR1⟩
    cases e
    · exact (he rfl).elim
    all_goals exact ⟨rfl, hR1⟩⟩

/-! ### Forgetting -/

def Rho.cut (ρ : Rho) (n : Nat) : Rho := ⟨fun k => if k < n then ρ k else none, ρ.ro⟩

def idsB (n : Nat) : T → Bool
  | .ptr id _ => Nat.blt id n
  | .slice id .. => Nat.blt id n
  | .fn _ c => idsB n c
  | .opt _ t => idsB n t
  | .tup t => idsB n t
  | .cons h t => idsB n h && idsB n t
  | .rows m _ f => allN (fun i => idsB n (f i)) m
  | _ => true

theorem idsB_R {n : Nat} {t : T} (h : idsB n t = true) (ρ : Rho) : (∀ cs, (R ρ t).c cs → (R (ρ.cut n) t).c cs) ∧ (∀ x, (R ρ t).v x → (R (ρ.cut n) t).v x) ∧ (∀ xs, (R ρ t).l xs → (R (ρ.cut n) t).l xs) := by
  induction t with
  | ptr id path =>
    have hid : id < n := Nat.le_of_ble_eq_true h
    have hp : ∀ x, (∃ b sz, ρ id = some (b, sz) ∧ x = Value.pointer (some ⟨b, poff path, none⟩)) → (∃ b sz, ρ.cut n id = some (b, sz) ∧ x = Value.pointer (some ⟨b, poff path, none⟩)) := by
      rintro x ⟨b, sz, e, hx⟩; exact ⟨b, sz, by simp [Rho.cut, hid, e], hx⟩
    refine ⟨?_, hp, fun _ h => h⟩
    rintro cs ⟨x, hcs, hx⟩; exact ⟨x, hcs, hp x hx⟩
  | slice id path lo m len cap =>
    have hid : id < n := Nat.le_of_ble_eq_true h
    have hp : ∀ x, SliceR ρ.ids id path lo m len cap x → SliceR (ρ.cut n).ids id path lo m len cap x := fun x hx => hx.mono fun p e => by simp [Rho.cut, hid, e]
    refine ⟨?_, hp, fun _ h => h⟩
    rintro cs ⟨x, hcs, hx⟩; exact ⟨x, hcs, hp x hx⟩
  | fn f cap ih =>
    have ih := ih h
    have hp : ∀ x, (∃ vs, x = Value.func f #[] vs ∧ (R ρ cap).l vs.toList) → (∃ vs, x = Value.func f #[] vs ∧ (R (ρ.cut n) cap).l vs.toList) := by
      rintro x ⟨vs, hx, hl⟩; exact ⟨vs, hx, ih.2.2 _ hl⟩
    refine ⟨?_, hp, fun _ h => h⟩
    rintro cs ⟨x, hcs, hx⟩; exact ⟨x, hcs, hp x hx⟩
  | opt g t ih => exact ⟨fun _ h => h, fun x hx => ⟨fun hg => (ih h).2.1 _ (hx.1 hg), hx.2⟩, fun _ h => h⟩
  | tup t ih => exact ⟨fun _ h => h, fun x ⟨vs, hx, hl⟩ => ⟨vs, hx, (ih h).2.2 _ hl⟩, fun _ h => h⟩
  | cons a b iha ihb =>
    simp only [idsB, Bool.and_eq_true] at h
    have iha := iha h.1
    have ihb := ihb h.2
    refine ⟨?_, ?_, ?_⟩
    · rintro cs ⟨x, y, e, hx, hy⟩; exact ⟨x, y, e, iha.1 _ hx, ihb.1 _ hy⟩
    · rintro v ⟨cs, hv, x, y, e, hx, hy⟩; exact ⟨cs, hv, x, y, e, iha.1 _ hx, ihb.1 _ hy⟩
    · rintro xs ⟨y, ys, e, hy, hys⟩; exact ⟨y, ys, e, iha.2.1 _ hy, ihb.2.2 _ hys⟩
  | rows n' m f ih =>
    have h' := allN_spec h
    refine ⟨?_, ?_, fun _ h => h⟩
    · rintro cs ⟨e, hx⟩; exact ⟨e, fun i hi => (ih i (h' i hi)).1 _ (hx i hi)⟩
    · rintro v ⟨cs, hv, e, hx⟩; exact ⟨cs, hv, e, fun i hi => (ih i (h' i hi)).1 _ (hx i hi)⟩
  | fsi k n f cap => exact ⟨fun _ h => h, fun _ h => h, fun _ h => h⟩
  | fsr m n f cap ih => exact ⟨fun _ h => h, fun _ h => h, fun _ h => h⟩
  | fp t ih => exact ⟨fun _ h => h, fun _ h => h, fun _ h => h⟩
  | _ => exact ⟨fun _ h => h, fun _ h => h, fun _ h => h⟩

/-- The temporaries that are told, where they do not point to what is forgotten. -/
def tmTrim (n : Nat) (keep : Nat) : Nat → List T → List T
  | _, [] => []
  | i, t :: r => (bif keep.testBit i && idsB n t then t else .any) :: tmTrim n keep (i + 1) r

def heapOK (n : Nat) : Heap → Bool
  | [] => true
  | none :: r => heapOK n r
  | some t :: r => idsB n t && heapOK n r

theorem tmTrim_len (n keep : Nat) : ∀ (i : Nat) (l : List T), (tmTrim n keep i l).length = l.length
  | _, [] => rfl
  | i, _ :: r => by simp [tmTrim, tmTrim_len n keep (i + 1) r]

theorem tmTrim_get (n keep : Nat) : ∀ (i : Nat) (l : List T) (t : Nat), tget (tmTrim n keep i l) t = .any ∨ (tget (tmTrim n keep i l) t = tget l t ∧ idsB n (tget l t) = true)
  | _, [], _ => .inl rfl
  | i, x :: r, 0 => by
    simp only [tmTrim, tget]
    cases h : (keep.testBit i && idsB n x)
    · exact .inl rfl
    · simp only [Bool.and_eq_true] at h; exact .inr ⟨rfl, h.2⟩
  | i, _ :: r, t + 1 => tmTrim_get n keep (i + 1) r t

theorem heapOK_get {n : Nat} : ∀ {G : Heap} {k : Nat} {t : T}, heapOK n G = true → hget G k = some t → idsB n t = true
  | none :: r, k, t, h, hg => by
    cases k with
    | zero => simp [hget] at hg
    | succ k => exact heapOK_get (G := r) h hg
  | some x :: r, k, t, h, hg => by
    simp only [heapOK, Bool.and_eq_true] at h
    cases k with
    | zero => simp only [hget] at hg; cases hg; exact h.1
    | succ k => exact heapOK_get (G := r) h.2 hg

theorem hget_take {G : Heap} {n k : Nat} (h : k < n) : hget (G.take n) k = hget G k := by
  induction G generalizing n k with
  | nil => simp
  | cons x r ih =>
    cases n with
    | zero => omega
    | succ n => cases k with
      | zero => rfl
      | succ k => simp only [List.take_succ_cons, hget]; exact ih (by omega)

theorem hget_take_le {G : Heap} {n k : Nat} {t : T} (h : hget (G.take n) k = some t) : k < n ∧ hget G k = some t := by
  have h1 := hget_lt h
  have h2 : k < n := by simp at h1; omega
  exact ⟨h2, by rw [hget_take h2] at h; exact h⟩

def St.trim (s : St) (n keep t w : Nat) : St := ⟨tmTrim n keep 0 s.tm, s.G.take n, true, t, w⟩

theorem Blk.cut {ρ : Rho} {n : Nat} {t : T} {p : Nat × Nat} {w : World} (h : idsB n t = true) (hb : Blk ρ t p w) : Blk (ρ.cut n) t p w := by
  obtain ⟨cs, ty, fr, h1, h2, h3, h4, h5⟩ := hb
  exact ⟨cs, ty, fr, h1, h2, h3, (idsB_R h ρ).1 _ h4, h5⟩

theorem Rl.trim {K : Nat → Prop} {ρ0 : Rho} {G0 : Heap} {w0 : World} {dS : List Deferred} {m : Nat} {s : St} {a : Act} {w : World} (h : Rl K ρ0 G0 w0 dS m s a w) {n keep t' w' : Nat}
    (hn : G0.length ≤ n) (hok : heapOK n (s.G.take n) = true) (hfr : ∀ k, G0.length ≤ k → ρ0 k = none) (ht : ∀ k, k < G0.length → s.t.testBit k = true → t'.testBit k = true) (hw : ∀ k, k < G0.length → w'.testBit k = s.w.testBit k) (hK : ∀ k, k < G0.length → t'.testBit k = true → K k) :
    Rl K ρ0 G0 w0 dS m (s.trim n keep t' w') a w := by
  obtain ⟨⟨ρ, hp, htm, hsim⟩, hsz, hdfr, hst, hlen⟩ := h
  have hl : G0.length ≤ s.G.length := hst.len
  have cutEq : ∀ k, k < n → ρ.cut n k = ρ k := fun k hk => by simp [Rho.cut, hk]
  have hlt : ∀ k t, hget (s.G.take n) k = some t → k < n ∧ hget s.G k = some t := fun k t hg => hget_take_le hg
  refine ⟨⟨ρ.cut n, ?_, ?_, ?_⟩, hsz, hdfr, ?_, ?_⟩
  · exact {
      ext := ⟨fun k p hk => (by
        by_cases hkn : k < n
        · rw [cutEq k hkn]; exact hp.ext k p hk
        · rw [hfr k (by omega)] at hk; cases hk), hp.ext.ro⟩
      ro := hp.ro
      dis := fun k t p hk hg hr => by
        obtain ⟨hkn, hg'⟩ := hlt k t hg
        have hk2 : G0.length ≤ k ∨ s.w.testBit k = true := by
          rcases hk with hk | hk
          · exact .inl hk
          · rcases Nat.lt_or_ge k G0.length with h | h
            · right; rw [← hw k h]; exact hk
            · exact .inl h
        rw [cutEq k hkn] at hr
        exact hp.dis k t p hk2 hg' hr
      dom := fun k hk => by
        rcases hk with hk | hk
        · rw [cutEq k (by omega)]; exact hp.dom k (.inl hk)
        · have hk' : (s.G.take n).length ≤ k := hk
          simp only [List.length_take] at hk'
          by_cases hkn : k < n
          · rw [cutEq k hkn]; exact hp.dom k (.inr (by show s.G.length ≤ k; omega))
          · simp [Rho.cut, hkn, hfr k (by omega)]
      val := trivial
      vac := fun k t hk hg hr => by
        obtain ⟨hkn, hg'⟩ := hlt k t hg
        have hk2 : G0.length ≤ k ∨ s.w.testBit k = true := by
          rcases hk with hk | hk
          · exact .inl hk
          · rcases Nat.lt_or_ge k G0.length with h | h
            · right; rw [← hw k h]; exact hk
            · exact .inl h
        rw [cutEq k hkn] at hr
        exact hp.vac k t hk2 hg' hr
      sim := fun k t p hk hg hr => by
        obtain ⟨hkn, hg'⟩ := hlt k t hg
        have hk2 : G0.length ≤ k ∨ s.w.testBit k = true := by
          rcases hk with hk | hk
          · exact .inl hk
          · rcases Nat.lt_or_ge k G0.length with h | h
            · right; rw [← hw k h]; exact hk
            · exact .inl h
        rw [cutEq k hkn] at hr
        exact (hp.sim k t p hk2 hg' hr).cut (heapOK_get hok hg)
      new := fun k t p hk hg hr => by
        obtain ⟨hkn, hg'⟩ := hlt k t hg
        rw [cutEq k hkn] at hr
        rcases hp.new k t p hk hg' hr with h | ⟨j, q, h1, h2, h3, h4, h5⟩
        · exact .inl h
        · refine .inr ⟨j, q, h1, by rw [show (s.trim n keep t' w').res.w = w' from rfl, hw j h1]; exact h2, ?_, h4, h5⟩
          show hget (s.G.take n) j = none
          rw [hget_take (by omega)]; exact h3
      inj := fun k k' t t' p p' hk hk' hg hg' hr hr' he => by
        obtain ⟨hkn, g1⟩ := hlt k t hg
        obtain ⟨hkn', g1'⟩ := hlt k' t' hg'
        rw [cutEq k hkn] at hr
        rw [cutEq k' hkn'] at hr'
        exact hp.inj k k' t t' p p' hk hk' g1 g1' hr hr' he
      frame := fun b hb hne => hp.frame b hb fun k p h1 h2 h3 => hne k p h1 (by
        show w'.testBit k = true
        rw [hw k h1]; exact h2) h3
      size := hp.size
      os := hp.os
      tape := hp.tape
      output := hp.output }
  · intro t
    have := htm t
    rcases tmTrim_get n keep 0 s.tm t with h | ⟨h, hi⟩
    · show (R (ρ.cut n) (tget (tmTrim n keep 0 s.tm) t)).v _
      rw [h]; trivial
    · show (R (ρ.cut n) (tget (tmTrim n keep 0 s.tm) t)).v _
      rw [h]
      exact (idsB_R hi ρ).2.1 _ this
  · refine ⟨fun k t p hk hg hr => ?_, fun k t hk hg hr => ?_, fun k k' t t' p p' hk hk' hg hg' hr hr' he => ?_, ?_, fun k t p hk hg hr => ?_⟩
    · obtain ⟨hkn, hg'⟩ := hlt k t hg
      rw [cutEq k hkn] at hr
      exact (hsim.blk k t p hk hg' hr).cut (heapOK_get hok hg)
    · obtain ⟨hkn, hg'⟩ := hlt k t hg
      rw [cutEq k hkn] at hr
      exact hsim.vac k t hk hg' hr
    · obtain ⟨hkn, g1⟩ := hlt k t hg
      obtain ⟨hkn', g1'⟩ := hlt k' t' hg'
      rw [cutEq k hkn] at hr
      rw [cutEq k' hkn'] at hr'
      exact hsim.inj k k' t t' p p' hk hk' g1 g1' hr hr' he
    · exact hsim.ro
    · obtain ⟨hkn, g1⟩ := hlt k t hg
      rw [cutEq k hkn] at hr
      exact hsim.dis k t p hk g1 hr
  · refine ⟨?_, fun k hk hb => ?_, fun k hk hb => ?_⟩
    · show G0.length ≤ (s.G.take n).length
      simp; omega
    · have hb' : s.w.testBit k = true := by rw [← hw k hk]; exact hb
      obtain ⟨h1, h2⟩ := hst.wt k hk hb'
      exact ⟨ht k hk h1, h2⟩
    · have hb' : s.w.testBit k = false := by rw [← hw k hk]; exact hb
      show hget (s.G.take n) k = hget G0 k
      rw [hget_take (by omega)]
      exact hst.old k hk hb'
  · show (tmTrim n keep 0 s.tm).length = m
    rw [tmTrim_len]; exact hlen

/-- What was made since is forgotten, and the temporaries that are not told. -/
theorem Tr.trim {n0 : Nat} {c : Code} {s s1 : St} {e : Ex} (h : Tr P n0 c s e s1) (n keep t' w' : Nat) (hn : Nat.ble n0 n = true) (hs : Nat.ble s.G.length n = true) (h1 : Nat.ble n s1.G.length = true) (hok : heapOK n (s1.G.take n) = true)
    (ht : ∀ k, k < n0 → s1.t.testBit k = true → t'.testBit k = true) (hw : ∀ k, k < n0 → w'.testBit k = s1.w.testBit k) : Tr P n0 c s e (s1.trim n keep t' w') := by
  have hn := Nat.le_of_ble_eq_true hn
  have hs := Nat.le_of_ble_eq_true hs
  have h1 := Nat.le_of_ble_eq_true h1
  refine ⟨?_, fun k hk hb => ht k hk (h.t k hk hb), ?_, fun K ρ0 G0 w0 dS m hG g1 g2 a w hR => ?_⟩
  · intro _
    show n0 ≤ (s1.G.take n).length
    simp; omega
  · show (tmTrim n keep 0 s1.tm).length = _
    rw [tmTrim_len]; exact h.tm
  · have hG1 := hG.1
    have hr := h.run K ρ0 G0 w0 dS m hG (fun k hk hb => g1 k hk (ht k (hG.1 ▸ hk) hb)) g2 a w hR
    refine wp_mono hr ?_
    rintro e1 a1 w1 ⟨rfl, hR1⟩
    exact ⟨rfl, hR1.trim (by omega) hok g2 (fun k hk hb => ht k (hG.1 ▸ hk) hb) (fun k hk => hw k (hG.1 ▸ hk)) g1⟩

/-- The same for a function that began with no known block: what is logged does not matter. -/
theorem Tr.trim0 {c : Code} {s s1 : St} {e : Ex} (h : Tr P 0 c s e s1) (n keep : Nat) (hs : Nat.ble s.G.length n = true) (h1 : Nat.ble n s1.G.length = true) (hok : heapOK n (s1.G.take n) = true) : Tr P 0 c s e (s1.trim n keep 0 0) :=
  h.trim n keep 0 0 rfl hs h1 hok (fun k hk => by omega) (fun k hk => by omega)

/-! ### Whole functions -/

/-- The state at a function's entry, where it knows no block. -/
theorem Rl.start {ρ : Rho} {w : World} {args : List T} {args' : List Value} {n : Nat} (hargs : VLs ρ.bare args args') (hro : RoOK ρ w) (hlen : args.length = args'.length) :
    Rl (fun _ => True) ρ.bare [] w [] (args ++ undefs (n - args.length)).length ⟨args ++ undefs (n - args.length), [], true, 0, 0⟩
      { tmps := args'.toArray ++ Array.replicate (n - args'.toArray.size) undef, defers := [] } w := by
  refine ⟨⟨ρ.bare, ?_, ?_, ?_⟩, ?_, rfl, ?_, rfl⟩
  · have hv : (R ρ.bare T.any).v undef := trivial
    exact Post.pure hv 0
  · intro t'
    have := VLs_tget (n - args.length) t' hargs
    have e1 : (args'.toArray ++ Array.replicate (n - args'.toArray.size) undef).getD t' undef = (args' ++ List.replicate (n - args.length) undef).getD t' undef := by
      simp [Array.getD_eq_getD_getElem?, List.getD_eq_getElem?_getD, hlen, Array.getElem?_append, List.getElem?_append, Array.getElem?_replicate, List.getElem?_replicate]
    rw [e1]; exact this
  · exact Sim.none ρ.bare w hro.bare _
  · simp [hlen, undefs_len]
  · exact Stat.pure _ _ _ _
theorem results_run {fn : Func} {tmps : Array Value} {xs : List Value} {w : World} (g1 : (fn.results.toList.mapM (resSem tmps)).run P w = .ok xs w) :
    (results fn tmps).run P w = .ok (if h : xs.toArray.size = 1 then xs.toArray[0] else .tuple xs.toArray) w := by
  have : results fn tmps = (do let vs ← fn.results.mapM (resSem tmps); Pure.pure (if h : vs.size = 1 then vs[0] else .tuple vs)) := rfl
  rw [this, Sem.run_bind, Array.mapM_eq_mapM_toList, Sem.run_map, g1]
  rfl


end
end Go.AE

/-! A model whose number is taken for granted, and owed. No condition. -/
namespace Go.AE
open Go
noncomputable section



theorem Tr.of_map {P : Program} {env : Env} (henv : EnvOK P env) (hmix : P.follows .mixedOrders = true) {n : Cf} {c : Code} {s : St} {e : Ex} {vc : Bool} {tm' : List T} {G' : Heap} {N keep : Nat}
    (h : (evCode P env n c s).map (fun r => (r.1, r.2.vc, tmTrim N keep 0 r.2.tm, r.2.G.take N, Nat.ble N r.2.G.length)) = some (e, vc, tm', G', true)) (hvc : vc = true) (hs : Nat.ble s.G.length N = true) (hok : heapOK N G' = true) :
    Tr P 0 c s e ⟨tm', G', true, 0, 0⟩ := by
  cases hr : evCode P env n c s with
  | none => rw [hr] at h; cases h
  | some r =>
    obtain ⟨e1, tm1, G1, vc1, t1, w1⟩ := r
    rw [hr] at h
    simp only [Option.map_some, Option.some.injEq, Prod.mk.injEq] at h
    obtain ⟨rfl, rfl, rfl, rfl, hl⟩ := h
    exact (Tr.of_ev henv hmix hr hvc).trim0 N keep hs hl hok

end
end Go.AE

/-! From a model that answers true to the row of a law. No condition. -/
namespace Go.AE
open Go Go.RowKit Go.ChangeShapes Go.WideShapes
noncomputable section

theorem Post.below {ρ ρ' : Rho} {w w' : World} {vc : Bool} {v : T} {v' : Value} (h : Post ρ ρ' [] w ⟨vc, v, [], 0, 0⟩ v' w') : Below w.heap.size w w' :=
  ⟨h.os, h.tape, h.output, h.size, fun k hk => h.frame k hk fun j p hj => absurd hj (by simp)⟩

/-- The function answers true and turns nothing that was there. -/
def Tells (P : Program) (f : FuncId) (xs : List Value) (w : World) : Prop :=
  Calls P f xs.toArray w fun e w' => e = .returned (.bool true) ∧ Below w.heap.size w w'

theorem SoundM.tells {P : Program} {f : FuncId} {fn : Func} {m : PModel} (hf : P.funcs[f]? = some fn) (hname : (fn.name == "runtime.NumGoroutine") = false) (hbody : fn.body.isNone = false)
    (h : SoundM P f (pureModel m)) {args : List T} (hm : m args = some (true, .bool true)) {xs : List Value} (hx : VLs rho0 args xs) (w : World) : Tells P f xs w := by
  have hr : pureModel m args [] = some ⟨true, .bool true, [], 0, 0⟩ := by unfold pureModel; rw [hm]
  have hd := h.lands args [] _ hr rfl rho0 w xs (Sim.none _ _ (rho0_ok w) _) (fun _ _ _ => rfl) hx
  simp only [callFunc, Sem.run_bind, run_program, Result.andThen_ok, hf, hname, hbody] at hd
  refine Calls.mono hd ?_
  rintro e w' ⟨v, rfl, ρ', hp⟩
  have hv : v = .bool true := hp.val
  exact ⟨by rw [hv], hp.below⟩

section data
variable {H : Type} {enc : TypeId × Value → H} {P : Program}


end data


end
end Go.AE

/-! Loops whose rounds are told one by one; states told by what is kept. No condition. -/
namespace Go.AE
open Go
noncomputable section

variable {P : Program} {env : Env}

def cL : Code → Code
  | .seq a _ => a
  | c => c
def cR : Code → Code
  | .seq _ b => b
  | c => c
def cB : Code → Code
  | .block _ b => b
  | .loop b => b
  | c => c
def bodyC (fn : Func) : Code := match fn.body with
  | some c => c
  | none => .skip

def pickT (i : Nat) : List (Nat × T) → T
  | [] => .any
  | (j, t) :: r => bif Nat.beq i j then t else pickT i r
/-- Temporaries of which a few are told. -/
def tmk (l : List (Nat × T)) : Nat → Nat → List T
  | _, 0 => []
  | i, n + 1 => pickT i l :: tmk l (i + 1) n

def cutN (N keep : Nat) (r : Ex × St) : Ex × Bool × List T × Heap × Bool := (r.1, r.2.vc, tmTrim N keep 0 r.2.tm, r.2.G.take N, Nat.ble N r.2.G.length)

def stOf (tm : List T) (G : Heap) : St := ⟨tm, G, true, 0, 0⟩

theorem Tr.ev (henv : EnvOK P env) (hmix : P.follows .mixedOrders = true) {n : Cf} {c : Code} {tm : List T} {G : Heap} {e : Ex} {vc : Bool} {tm' : List T} {G' : Heap} {N keep : Nat}
    (h : (evCode P env n c (stOf tm G)).map (cutN N keep) = some (e, vc, tm', G', true)) (hvc : vc = true) (hs : Nat.ble G.length N = true) (hok : heapOK N G' = true) : Tr P 0 c (stOf tm G) e (stOf tm' G') :=
  Tr.of_map (s := stOf tm G) henv hmix h hvc hs hok

theorem TrN.iter {n0 : Nat} {b : Code} {S : Nat → St} {s' : St} {e : Ex} (he : e ≠ .normal) : ∀ (n k : Nat), (∀ i, k ≤ i → i < k + n → Tr P n0 b (S i) .normal (S (i + 1))) → Tr P n0 b (S (k + n)) e s' → TrN P n0 b (n + 1) (S k) e s'
  | 0, k, _, h => TrN.done h he
  | n + 1, k, hs, h => by
    refine TrN.next (hs k (Nat.le_refl _) (by omega)) (TrN.iter he n (k + 1) (fun i h1 h2 => hs i (by omega) (by omega)) ?_)
    rw [show k + 1 + n = k + (n + 1) by omega]
    exact h

/-- A loop that is left by its block's end. -/
theorem Tr.iter {n0 id : Nat} {b : Code} {S : Nat → St} {s' : St} {n : Nat} (hs : ∀ i, i < n → Tr P n0 b (S i) .normal (S (i + 1))) (h : Tr P n0 b (S n) (.exit id) s') : Tr P n0 (.block id (.loop b)) (S 0) .normal s' :=
  Tr.blockX (Tr.loop (TrN.iter (by intro h; cases h) n 0 (fun i _ h2 => hs i (by omega)) (by rw [Nat.zero_add]; exact h)))

theorem Tr.forget {c : Code} {s s2 : St} {e : Ex} (keep : Nat) (h : Tr P 0 c ⟨tmTrim s.G.length keep 0 s.tm, s.G, true, 0, 0⟩ e s2) (hok : heapOK s.G.length s.G = true) : Tr P 0 c s e s2 := by
  refine ⟨h.len, fun k hk _ => absurd hk (by omega), ?_, fun K ρ0 G0 w0 dS m hG g1 g2 a w hR => ?_⟩
  · have := h.tm
    simp only [tmTrim_len] at this
    exact this
  · have hG1 := hG.1
    refine h.run K ρ0 G0 w0 dS m hG g1 g2 a w ?_
    have hr := hR.trim (n := s.G.length) (keep := keep) (t' := 0) (w' := 0) (by omega) (by rw [List.take_length]; exact hok) g2 (fun k hk => by omega) (fun k hk => by omega) (fun k hk => by omega)
    unfold St.trim at hr
    rw [List.take_length] at hr
    exact hr

/-- The first parts of a row of code, and what is behind them. -/
def preC : Nat → Code → Code
  | k + 1, .seq a b => .seq a (preC k b)
  | _, _ => .skip
def postC : Nat → Code → Code
  | k + 1, .seq _ b => postC k b
  | _, c => c

def St.clean (s : St) : St := ⟨s.tm, s.G, true, s.t, s.w⟩

theorem Tr.pre_aux {n0 : Nat} (henv : EnvOK P env) (hmix : P.follows .mixedOrders = true) {n : Cf} {s1 s2 : St} {e : Ex} : ∀ (k : Nat) (c : Code) (s : St), evCode P env n (preC k c) s = some (.normal, s1) → s1.vc = true →
    Tr P n0 (postC k c) s1.clean e s2 → Tr P n0 c s.clean e s2
  | 0, c, s, h, _, h2 => by
    have h' : some (Ex.normal, s) = some (Ex.normal, s1) := h
    cases h'
    exact h2
  | k + 1, c, s, h, hvc, h2 => by
    cases c with
    | seq a b =>
      simp only [preC, evCode] at h
      cases ha : evCode P env n a s with
      | none => rw [ha] at h; cases h
      | some r =>
        obtain ⟨e1, s'⟩ := r
        rw [ha] at h
        cases e1 with
        | normal =>
          simp only at h
          have hg := evCode_grow henv _ _ _ _ h
          have hv := hg.vc hvc
          have ih := Tr.pre_aux henv hmix k b s' h hvc h2
          have hg1 := evCode_grow henv _ _ _ _ ha
          have hv1 := hg1.vc hv
          have e1 : s.clean = s := by unfold St.clean; cases s; simp only at hv1; subst hv1; rfl
          rw [e1]
          refine Tr.seq (s1 := s'.clean) ?_ ih
          exact Tr.of_ev (s := s) henv hmix (vc := s'.vc) ha hv
        | _ => simp at h
    | _ =>
      have h' : some (Ex.normal, s) = some (Ex.normal, s1) := h
      cases h'
      exact h2

def cutP (keep : Nat) (r : Ex × St) : Ex × Bool × List T × Heap × Bool := (r.1, r.2.vc, tmTrim r.2.G.length keep 0 r.2.tm, r.2.G, heapOK r.2.G.length r.2.G)

/-- The first k parts of code, run by the evaluator, ahead of the rest. -/
theorem Tr.pre (henv : EnvOK P env) (hmix : P.follows .mixedOrders = true) {n : Cf} (k keep : Nat) {c : Code} {tm : List T} {G : Heap} {e : Ex} {s2 : St} {vc : Bool} {tm' : List T} {G' : Heap}
    (h : (evCode P env n (preC k c) (stOf tm G)).map (cutP keep) = some (.normal, vc, tm', G', true)) (hvc : vc = true) (h2 : Tr P 0 (postC k c) (stOf tm' G') e s2) : Tr P 0 c (stOf tm G) e s2 := by
  cases hr : evCode P env n (preC k c) (stOf tm G) with
  | none => rw [hr] at h; cases h
  | some r =>
    obtain ⟨e1, s1⟩ := r
    rw [hr] at h
    simp only [Option.map_some, Option.some.injEq, cutP, Prod.mk.injEq] at h
    obtain ⟨rfl, h1, h3, h4, h5⟩ := h
    have := Tr.pre_aux henv hmix (e := e) (s2 := s2) k c (stOf tm G) hr (h1.trans hvc) (Tr.forget keep (s := s1.clean) (by
      have e1 : (⟨tmTrim s1.clean.G.length keep 0 s1.clean.tm, s1.clean.G, true, 0, 0⟩ : St) = stOf tm' G' := by
        show (⟨tmTrim s1.G.length keep 0 s1.tm, s1.G, true, 0, 0⟩ : St) = _
        rw [h3, h4]; rfl
      rw [e1]; exact h2) h5)
    exact this

theorem beq_ne {i j : Nat} (h : j ≠ i) : Nat.beq j i = false := by
  cases hb : Nat.beq j i
  · rfl
  · exact absurd (Nat.eq_of_beq_eq_true hb) h

/-! ### The same in a function that is told of some blocks, and writes none of them -/


theorem mask_bit {n0 k : Nat} (h : k < n0) : (2 ^ n0 - 1).testBit k = true := by rw [Nat.testBit_two_pow_sub_one]; simpa using h





/-! ### Jumps back to a label -/

theorem least {p : Nat → Prop} (h : ∃ n, p n) : ∃ n, p n ∧ ∀ m, m < n → ¬ p m := by
  obtain ⟨n, hn⟩ := h
  induction n using Nat.strongRecOn with
  | _ n ih =>
    by_cases h : ∃ m, m < n ∧ p m
    · obtain ⟨m, hm, hp⟩ := h
      exact ih m hm hp
    · exact ⟨n, hn, fun m hm hp => h ⟨m, hm, hp⟩⟩

open Classical in
theorem wp_scope_rounds {c rest : Code} {Q : Exit → Act → World → Prop} {a : Act} {w : World} (l : Nat) (hf : findLabel c l = some rest) (J : Nat → Act → World → Prop) (h0 : ∀ a w, ¬ J 0 a w)
    (pass : ∀ n a w, J (n + 1) a w → rest.wp P (Exit.jump l (J n) Q) a w) {n : Nat} (first : c.wp P (Exit.jump l (J n) Q) a w) : (Code.scope c).wp P Q a w := by
  let μ : Act → World → Nat := fun a w => if h : ∃ n, J n a w then Classical.choose (least h) else 0
  have hμ : ∀ a w k, J k a w → μ a w ≤ k ∧ J (μ a w) a w := fun a w k hk => by
    have h : ∃ n, J n a w := ⟨k, hk⟩
    have e : μ a w = Classical.choose (least h) := dif_pos h
    have hc := Classical.choose_spec (least h)
    rw [e]
    refine ⟨?_, hc.1⟩
    rcases Nat.lt_or_ge k (Classical.choose (least h)) with h1 | h1
    · exact absurd hk (hc.2 k h1)
    · exact h1
  refine wp_scope_jumps l (fun a w => ∃ n, J n a w) μ hf ?_ ?_
  · refine wp_mono first ?_
    intro e a w he
    cases e <;> first | exact he | exact ⟨he.1, n, he.2⟩
  · rintro a w ⟨k, hk⟩
    obtain ⟨_, hm⟩ := hμ a w k hk
    cases hq : μ a w with
    | zero => rw [hq] at hm; exact absurd hm (h0 a w)
    | succ m =>
      rw [hq] at hm
      refine wp_mono (pass m a w hm) ?_
      intro e a' w' he
      cases e <;> first | exact he | exact ⟨he.1, ⟨m, he.2⟩, by have := (hμ a' w' m he.2).1; omega⟩

/-- A scope in which the run comes back to a label so many times. -/
theorem Tr.scope {n0 l n : Nat} {c rest : Code} {s s' : St} {S : Nat → St} {e : Ex} (hf : findLabel c l = some rest) (first : Tr P n0 c s (.goto l) (S 0)) (step : ∀ i, i < n → Tr P n0 rest (S i) (.goto l) (S (i + 1))) (last : Tr P n0 rest (S n) e s')
    (he : ∀ l', e ≠ .goto l') : Tr P n0 (.scope c) s e s' := by
  have grow : ∀ i, i ≤ n → (n0 ≤ (S 0).G.length → n0 ≤ (S i).G.length) ∧ (∀ k, k < n0 → (S 0).t.testBit k = true → (S i).t.testBit k = true) ∧ (S i).tm.length = (S 0).tm.length := by
    intro i
    induction i with
    | zero => intro _; exact ⟨fun h => h, fun _ _ h => h, rfl⟩
    | succ i ih =>
      intro hi
      obtain ⟨h1, h2, h3⟩ := ih (by omega)
      have hs := step i (by omega)
      exact ⟨fun h0 => hs.len (h1 h0), fun k hk h => hs.t k hk (h2 k hk h), hs.tm.trans h3⟩
  have back : ∀ d, d ≤ n → ∀ k, k < n0 → (S (n - d)).t.testBit k = true → s'.t.testBit k = true := by
    intro d
    induction d with
    | zero => intro _ k hk h; exact last.t k hk h
    | succ d ih =>
      intro hd k hk h
      refine ih (by omega) k hk ?_
      have := (step (n - (d + 1)) (by omega)).t k hk h
      rwa [show n - (d + 1) + 1 = n - d by omega] at this
  obtain ⟨g1, g2, g3⟩ := grow n (Nat.le_refl _)
  refine ⟨fun h0 => last.len (g1 (first.len h0)), fun k hk h => last.t k hk (g2 k hk (first.t k hk h)), last.tm.trans (g3.trans first.tm), fun K ρ0 G0 w0 dS m hG h1 h2 a w hR => ?_⟩
  have hK : ∀ i, i ≤ n → ∀ k, k < G0.length → (S i).t.testBit k = true → K k := fun i hi k hk hb => h1 k hk (by
    have := back (n - i) (by omega) k (hG.1 ▸ hk)
    rw [show n - (n - i) = i by omega] at this
    exact this hb)
  let J : Nat → Act → World → Prop := fun j a w => ∃ i, i ≤ n ∧ j = n - i + 1 ∧ Rl K ρ0 G0 w0 dS m (S i) a w
  refine wp_scope_rounds l hf J (fun a w h => by obtain ⟨i, _, h, _⟩ := h; omega) ?_ (n := n + 1) ?_
  · rintro j a w ⟨i, hi, hj, hR⟩
    by_cases hin : i = n
    · subst hin
      refine wp_mono (last.run K ρ0 G0 w0 dS m hG h1 h2 a w hR) ?_
      rintro e' a' w' ⟨rfl, hR'⟩
      cases e with
      | goto l' => exact absurd rfl (he l')
      | _ => exact ⟨rfl, hR'⟩
    · refine wp_mono ((step i (by omega)).run K ρ0 G0 w0 dS m hG (hK (i + 1) (by omega)) h2 a w hR) ?_
      rintro e' a' w' ⟨rfl, hR'⟩
      exact ⟨rfl, i + 1, by omega, by omega, hR'⟩
  · refine wp_mono (first.run K ρ0 G0 w0 dS m hG (hK 0 (Nat.zero_le _)) h2 a w hR) ?_
    rintro e' a' w' ⟨rfl, hR'⟩
    exact ⟨rfl, 0, Nat.zero_le _, by omega, hR'⟩

end
end Go.AE

/-! Models of functions that are told values alone, at any call: what is told is lent for the call. No condition. -/
namespace Go.AE
open Go
noncomputable section

/-- Other names for the blocks. -/
def ren (σ : Nat → Nat) : T → T
  | .ptr id p => .ptr (σ id) p
  | .slice id p lo m n c => .slice (σ id) p lo m n c
  | .fn f c => .fn f (ren σ c)
  | .opt g t => .opt g (ren σ t)
  | .tup t => .tup (ren σ t)
  | .cons h t => .cons (ren σ h) (ren σ t)
  | .rows n m f => .rows n m fun i => ren σ (f i)
  | t => t

theorem ren_size (σ : Nat → Nat) (t : T) : (ren σ t).size = t.size := by
  induction t <;> simp_all [ren, T.size]

theorem R_ren {σ : Nat → Nat} {ρ ρ' : Rho} (h : ∀ id p, ρ id = some p → ρ' (σ id) = some p) (hro : ∀ b cs, ρ.ro b = some cs → ρ'.ro b = some cs) (t : T) :
    (∀ cs, (R ρ t).c cs → (R ρ' (ren σ t)).c cs) ∧ (∀ x, (R ρ t).v x → (R ρ' (ren σ t)).v x) ∧ (∀ xs, (R ρ t).l xs → (R ρ' (ren σ t)).l xs) := by
  induction t with
  | ptr id path =>
    have hp : ∀ x, (∃ b sz, ρ id = some (b, sz) ∧ x = Value.pointer (some ⟨b, poff path, none⟩)) → (∃ b sz, ρ' (σ id) = some (b, sz) ∧ x = Value.pointer (some ⟨b, poff path, none⟩)) := by
      rintro x ⟨b, sz, e, hx⟩; exact ⟨b, sz, h _ _ e, hx⟩
    refine ⟨?_, hp, fun _ h => h⟩
    rintro cs ⟨x, hcs, hx⟩; exact ⟨x, hcs, hp x hx⟩
  | slice id path lo m len cap =>
    have hp : ∀ x, SliceR ρ.ids id path lo m len cap x → SliceR ρ'.ids (σ id) path lo m len cap x := fun x hx => hx.mono fun p e => h _ _ e
    refine ⟨?_, hp, fun _ h => h⟩
    rintro cs ⟨x, hcs, hx⟩; exact ⟨x, hcs, hp x hx⟩
  | fn f cap ih =>
    have hp : ∀ x, (∃ vs, x = Value.func f #[] vs ∧ (R ρ cap).l vs.toList) → (∃ vs, x = Value.func f #[] vs ∧ (R ρ' (ren σ cap)).l vs.toList) := by
      rintro x ⟨vs, hx, hl⟩; exact ⟨vs, hx, ih.2.2 _ hl⟩
    refine ⟨?_, hp, fun _ h => h⟩
    rintro cs ⟨x, hcs, hx⟩; exact ⟨x, hcs, hp x hx⟩
  | opt g t ih => exact ⟨fun _ h => h, fun x hx => ⟨fun hg => ih.2.1 _ (hx.1 hg), hx.2⟩, fun _ h => h⟩
  | tup t ih => exact ⟨fun _ h => h, fun x ⟨vs, hx, hl⟩ => ⟨vs, hx, ih.2.2 _ hl⟩, fun _ h => h⟩
  | cons x y iha ihb =>
    refine ⟨?_, ?_, ?_⟩
    · rintro cs ⟨x, y, e, hx, hy⟩; exact ⟨x, y, e, iha.1 _ hx, ihb.1 _ hy⟩
    · rintro v ⟨cs, hv, x, y, e, hx, hy⟩; exact ⟨cs, hv, x, y, e, iha.1 _ hx, ihb.1 _ hy⟩
    · rintro xs ⟨y, ys, e, hy, hys⟩; exact ⟨y, ys, e, iha.2.1 _ hy, ihb.2.2 _ hys⟩
  | rows n' m f ih =>
    refine ⟨?_, ?_, fun _ h => h⟩
    · rintro cs ⟨e, hx⟩; exact ⟨e, fun i hi => (ih i).1 _ (hx i hi)⟩
    · rintro v ⟨cs, hv, e, hx⟩; exact ⟨cs, hv, e, fun i hi => (ih i).1 _ (hx i hi)⟩
  | fsi k n f cap =>
    have hp : ∀ x, (R ρ (.fsi k n f cap)).v x → (R ρ' (.fsi k n f cap)).v x := fun x hx => Frz.mono (m := 1) (n := n) (q := fun i cs => cs = [.int k (f i)]) (cap := cap) hro (fun _ _ _ h => h) hx
    exact ⟨fun cs ⟨x, e, hx⟩ => ⟨x, e, hp x hx⟩, hp, fun _ h => h⟩
  | fsr m n f cap ih =>
    have hp : ∀ x, (R ρ (.fsr m n f cap)).v x → (R ρ' (.fsr m n f cap)).v x := fun x hx => Frz.mono (m := m) (n := n) (q := fun i cs => (R ρ.bare (f i)).c cs) (cap := cap) hro (fun i _ _ h' => (R_mono (Rho.Ext.bare hro) (f i)).1 _ h') hx
    exact ⟨fun cs ⟨x, e, hx⟩ => ⟨x, e, hp x hx⟩, hp, fun _ h => h⟩
  | fp t ih =>
    have hp : ∀ x, (R ρ (.fp t)).v x → (R ρ' (.fp t)).v x := fun x hx => FrzP.mono (m := t.size) (q := (R ρ.bare t).c) hro (fun _ h' => (R_mono (Rho.Ext.bare hro) t).1 _ h') hx
    exact ⟨fun cs ⟨x, e, hx⟩ => ⟨x, e, hp x hx⟩, hp, fun _ h => h⟩
  | _ => exact ⟨fun _ h => h, fun _ h => h, fun _ h => h⟩

def renO (σ : Nat → Nat) : Option T → Option T
  | some t => some (ren σ t)
  | none => none

theorem hget_append_right : ∀ (G H : Heap) (j : Nat), hget (G ++ H) (G.length + j) = hget H j
  | [], H, j => by simp
  | x :: r, H, j => by
    rw [List.cons_append, List.length_cons, show r.length + 1 + j = r.length + j + 1 by omega]
    exact hget_append_right r H j

theorem hget_map (σ : Nat → Nat) : ∀ (H : Heap) (j : Nat), hget (H.map (renO σ)) j = renO σ (hget H j)
  | [], _ => rfl
  | _ :: _, 0 => rfl
  | _ :: r, j + 1 => hget_map σ r j

variable {P : Program}

/-! ### Functions that are told values alone -/

/-- What such a function comes to: a condition, a value, the blocks that it made; and whether none of these leans on what it was told. -/
structure VRes where
  vc : Bool
  v : T
  H : Heap
  fr : Bool
abbrev VModel := List T → Option VRes

def Rho.fresh (ρ : Rho) (n : Nat) : Rho := ⟨ρ.ids, fun b => if b < n then none else ρ.ro b⟩

structure SoundV (P : Program) (f : FuncId) (m : VModel) : Prop where
  lands : ∀ args r, m args = some r → r.vc = true → ∀ ρ w args', (∀ k, ρ k = none) → RoOK ρ w → VLs ρ args args' →
    Lands P (fun v' w' => ∃ ρ', Post ρ ρ' [] w ⟨true, r.v, r.H, 0, 0⟩ v' w' ∧ (r.fr = true → (R (ρ'.fresh w.heap.size) r.v).v v' ∧ ∀ k t p, hget r.H k = some t → ρ' k = some p → Blk (ρ'.fresh w.heap.size) t p w'))
      ((callFunc f args'.toArray).run P w)

/-- No slice or pointer into what nobody writes. -/
def noFz : T → Bool
  | .fsi .. | .fsr .. | .fp _ => false
  | .fn _ c => noFz c
  | .opt _ t => noFz t
  | .tup t => noFz t
  | .cons h t => noFz h && noFz t
  | .rows n _ f => allN (fun i => noFz (f i)) n
  | _ => true
def noFzH : Heap → Bool
  | [] => true
  | some t :: r => noFz t && noFzH r
  | none :: r => noFzH r

theorem noFz_R {t : T} (h : noFz t = true) (ρ ρ' : Rho) (hi : ρ'.ids = ρ.ids) : (∀ cs, (R ρ t).c cs → (R ρ' t).c cs) ∧ (∀ x, (R ρ t).v x → (R ρ' t).v x) ∧ (∀ xs, (R ρ t).l xs → (R ρ' t).l xs) := by
  induction t with
  | ptr id path =>
    have hp : ∀ x, (R ρ (.ptr id path)).v x → (R ρ' (.ptr id path)).v x := by
      rintro x ⟨b, sz, e, hx⟩; exact ⟨b, sz, by rw [hi]; exact e, hx⟩
    exact ⟨fun cs ⟨x, e, hx⟩ => ⟨x, e, hp x hx⟩, hp, fun _ h => h⟩
  | slice id path lo m len cap =>
    have hp : ∀ x, (R ρ (.slice id path lo m len cap)).v x → (R ρ' (.slice id path lo m len cap)).v x := fun x hx => SliceR.mono (fun p e => by rw [hi]; exact e) hx
    exact ⟨fun cs ⟨x, e, hx⟩ => ⟨x, e, hp x hx⟩, hp, fun _ h => h⟩
  | fn f cap ih =>
    have ih := ih h
    have hp : ∀ x, (∃ vs, x = Value.func f #[] vs ∧ (R ρ cap).l vs.toList) → (∃ vs, x = Value.func f #[] vs ∧ (R ρ' cap).l vs.toList) := by
      rintro x ⟨vs, hx, hl⟩; exact ⟨vs, hx, ih.2.2 _ hl⟩
    refine ⟨?_, hp, fun _ h => h⟩
    rintro cs ⟨x, hcs, hx⟩; exact ⟨x, hcs, hp x hx⟩
  | opt g t ih => exact ⟨fun _ h => h, fun x hx => ⟨fun hg => (ih h).2.1 _ (hx.1 hg), hx.2⟩, fun _ h => h⟩
  | tup t ih => exact ⟨fun _ h => h, fun x ⟨vs, hx, hl⟩ => ⟨vs, hx, (ih h).2.2 _ hl⟩, fun _ h => h⟩
  | cons a b iha ihb =>
    simp only [noFz, Bool.and_eq_true] at h
    have iha := iha h.1
    have ihb := ihb h.2
    refine ⟨?_, ?_, ?_⟩
    · rintro cs ⟨x, y, e, hx, hy⟩; exact ⟨x, y, e, iha.1 _ hx, ihb.1 _ hy⟩
    · rintro v ⟨cs, hv, x, y, e, hx, hy⟩; exact ⟨cs, hv, x, y, e, iha.1 _ hx, ihb.1 _ hy⟩
    · rintro xs ⟨y, ys, e, hy, hys⟩; exact ⟨y, ys, e, iha.2.1 _ hy, ihb.2.2 _ hys⟩
  | rows n m f ih =>
    have h' := allN_spec h
    refine ⟨?_, ?_, fun _ h => h⟩
    · rintro cs ⟨e, hx⟩; exact ⟨e, fun i hi => (ih i (h' i hi)).1 _ (hx i hi)⟩
    · rintro v ⟨cs, hv, e, hx⟩; exact ⟨cs, hv, e, fun i hi => (ih i (h' i hi)).1 _ (hx i hi)⟩
  | fsi => cases h
  | fsr => cases h
  | fp => cases h
  | _ => exact ⟨fun _ h => h, fun _ h => h, fun _ h => h⟩

theorem noFzH_get : ∀ {G : Heap} {k : Nat} {t : T}, noFzH G = true → hget G k = some t → noFz t = true
  | none :: r, k, t, h, hg => by
    cases k with
    | zero => simp [hget] at hg
    | succ k => exact noFzH_get (G := r) h hg
  | some x :: r, k, t, h, hg => by
    simp only [noFzH, Bool.and_eq_true] at h
    cases k with
    | zero => cases hg; exact h.1
    | succ k => exact noFzH_get (G := r) h.2 hg
  | [], k, t, _, hg => by cases hg

theorem Blk.ofFz {ρ ρ' : Rho} {t : T} {p : Nat × Nat} {w : World} (h : noFz t = true) (hi : ρ'.ids = ρ.ids) (hb : Blk ρ t p w) : Blk ρ' t p w := by
  obtain ⟨cs, ty, fr, h1, h2, h3, h4, h5⟩ := hb
  exact ⟨cs, ty, fr, h1, h2, h3, (noFz_R h ρ ρ' hi).1 _ h4, h5⟩

theorem fresh_of_noFz {ρ' : Rho} {n : Nat} {v : T} {H : Heap} {v' : Value} {w' : World} (h : (noFz v && noFzH H) = true) (hv : (R ρ' v).v v') (hb : ∀ k t p, hget H k = some t → ρ' k = some p → Blk ρ' t p w') :
    (R (ρ'.fresh n) v).v v' ∧ ∀ k t p, hget H k = some t → ρ' k = some p → Blk (ρ'.fresh n) t p w' := by
  simp only [Bool.and_eq_true] at h
  exact ⟨(noFz_R h.1 ρ' (ρ'.fresh n) rfl).2.1 _ hv, fun k t p hg hp => Blk.ofFz (ρ := ρ') (ρ' := ρ'.fresh n) (noFzH_get h.2 hg) rfl (hb k t p hg hp)⟩

/-- Told by values alone. -/
def plainT (t : T) : Bool := noPtr t && noFz t
theorem plain_R {t : T} (h : plainT t = true) (ρ ρ' : Rho) : (∀ cs, (R ρ t).c cs → (R ρ' t).c cs) ∧ (∀ x, (R ρ t).v x → (R ρ' t).v x) ∧ (∀ xs, (R ρ t).l xs → (R ρ' t).l xs) := by
  simp only [plainT, Bool.and_eq_true] at h
  have h1 := noFz_R h.2 ρ ⟨ρ.ids, fun _ => none⟩ rfl
  have h2 := noPtr_R h.1 ⟨ρ.ids, fun _ => none⟩ ρ' (fun _ _ h => by cases h)
  exact ⟨fun cs hc => h2.1 _ (h1.1 _ hc), fun x hx => h2.2.1 _ (h1.2.1 _ hx), fun xs hx => h2.2.2 _ (h1.2.2 _ hx)⟩
def argsP : List T → Bool
  | [] => true
  | a :: r => plainT a && argsP r
theorem argsP_VLs {ρ ρ' : Rho} : ∀ {ts : List T} {xs : List Value}, argsP ts = true → VLs ρ ts xs → VLs ρ' ts xs
  | [], _, _, h => h
  | t :: ts, _, ha, ⟨y, ys, e, hy, hys⟩ => by
    simp only [argsP, Bool.and_eq_true] at ha
    exact ⟨y, ys, e, (plain_R ha.1 ρ ρ').2.1 _ hy, argsP_VLs ha.2 hys⟩

theorem Post.start0 {ρ ρ' : Rho} {w w' : World} {r : Res} {v' : Value} (h : Post ρ ρ' [] w r v' w') : Post ρ ρ' [] w ⟨true, r.v, r.G, 0, 0⟩ v' w' where
  ext := h.ext
  dom := h.dom
  val := h.val
  sim := fun k t p _ hg hp => h.sim k t p (.inl (Nat.zero_le _)) hg hp
  vac := fun k t _ hg hp => h.vac k t (.inl (Nat.zero_le _)) hg hp
  new := fun k t p hk hg hp => by
    rcases h.new k t p hk hg hp with h1 | ⟨j, q, hj, _⟩
    · exact .inl h1
    · simp at hj
  inj := h.inj
  frame := fun b hb _ => h.frame b hb fun k p hk => by simp at hk
  size := h.size
  os := h.os
  tape := h.tape
  output := h.output
  ro := h.ro
  dis := fun k t p _ hg hp => h.dis k t p (.inl (Nat.zero_le _)) hg hp

/-- A function's own code, run by the evaluator. -/
def vEv (M : Model) : VModel := fun args => match M args [] with
  | some r => some ⟨r.vc, r.v, r.G, noFz r.v && noFzH r.G⟩
  | none => none
theorem SoundV.of_model {f : FuncId} {M : Model} (h : SoundM P f M) : SoundV P f (vEv M) := by
  refine ⟨fun args r hr hvc ρ w args' hρ hro hargs => ?_⟩
  unfold vEv at hr
  split at hr
  · rename_i r' hr'
    cases hr
    refine Lands.mono ?_ (h.lands args [] r' hr' hvc ρ w args' (Sim.none _ _ hro _) (fun k _ _ => hρ k) hargs)
    rintro v' w' ⟨ρ', hp⟩
    exact ⟨ρ', hp.start0, fun hf => fresh_of_noFz hf hp.val fun k t p hg hp' => hp.sim k t p (.inl (Nat.zero_le _)) hg hp'⟩
  · cases hr

/-- The same by a run that was shown part by part. -/
theorem SoundV.of_tr {f : FuncId} {fn : Func} {c : Code} (hf : P.funcs[f]? = some fn) (hname : (fn.name == "runtime.NumGoroutine") = false) (hb : fn.body = some c) {m : VModel}
    (h : ∀ args r, m args = some r → r.vc = true → ∃ e s vs t, (e = .ret ∨ e = .normal) ∧ Tr P 0 c ⟨args ++ undefs (fn.ntmps - args.length), [], true, 0, 0⟩ e s ∧
      evResults P s fn.results.toList = some (true, vs, t) ∧ one vs = r.v ∧ s.G = r.H ∧ (r.fr = true → (noFz r.v && noFzH r.H) = true)) : SoundV P f m := by
  refine ⟨fun args r hr hvc ρ w args' hρ hro hargs => ?_⟩
  obtain ⟨e, s, vs, t, he, htr, hres, hv, hG, hfr⟩ := h args r hr hvc
  have eρ : ρ.bare = ρ := by
    cases ρ with
    | mk ids ro =>
      have : ids = fun _ => none := funext hρ
      subst this
      rfl
  have hlen := VLs_len hargs
  have hd : Calls P f args'.toArray w fun e w' => ∃ v', e = .returned v' ∧ ∃ ρ', Post ρ ρ' [] w ⟨true, r.v, r.H, 0, 0⟩ v' w' := by
    refine calls_of_wp hf hb ?_
    have hR0 : Rl (fun _ => True) ρ.bare [] w [] (args ++ undefs (fn.ntmps - args.length)).length ⟨args ++ undefs (fn.ntmps - args.length), [], true, 0, 0⟩
        { tmps := args'.toArray ++ Array.replicate (fn.ntmps - args'.toArray.size) undef, defers := [] } w := Rl.start (by rw [eρ]; exact hargs) hro hlen
    have hrun := htr.run (fun _ => True) ρ.bare [] w [] _ Told.nil (fun _ _ _ => trivial) (fun _ _ => rfl) _ _ hR0
    refine wp_mono hrun ?_
    rintro e' a' w' ⟨rfl, hR⟩
    obtain ⟨⟨ρ', hp, htm, hsim'⟩, hsz, hdfr, hst', hlen'⟩ := hR
    obtain ⟨xs, g1, g2⟩ := evResults_sound (P := P) htm hres rfl (hsim'.weak fun _ _ _ => .inl trivial)
    have hres' : (results fn a'.tmps).run P w' = .ok (if h : xs.toArray.size = 1 then xs.toArray[0] else .tuple xs.toArray) w' := results_run g1
    have fin : bodyPost P fn (fun e w'_1 => ∃ v', e = .returned v' ∧ ∃ ρ', Post ρ ρ' [] w ⟨true, r.v, r.H, 0, 0⟩ v' w'_1) .ret a' w' := by
      refine ⟨hdfr, _, hres', _, rfl, ρ', ?_⟩
      have hval := one_sound g2
      rw [hv] at hval
      have h0 := hp.start0
      rw [eρ] at h0
      have hsG : s.res.G = r.H := hG
      rw [hsG] at h0
      exact { h0 with val := hval }
    rcases he with rfl | rfl
    · exact fin
    · exact fin
  have hl : Lands P (fun v' w' => ∃ ρ', Post ρ ρ' [] w ⟨true, r.v, r.H, 0, 0⟩ v' w') ((callFunc f args'.toArray).run P w) := by
    simp only [callFunc, Sem.run_bind, run_program, Result.andThen_ok, hf, hname, show fn.body.isNone = false by rw [hb]; rfl]
    exact hd
  refine Lands.mono ?_ hl
  rintro v' w' ⟨ρ', hp⟩
  exact ⟨ρ', hp, fun hf => fresh_of_noFz (hfr hf) hp.val fun k t p hg hp' => hp.sim k t p (.inl (Nat.zero_le _)) hg hp'⟩

/-- A model for each case, where what is told of arguments and value may be less. -/
theorem SoundV.refine {f : FuncId} {m : VModel}
    (h : ∀ args r, m args = some r → r.vc = true → ∀ ρ xs, (∀ k, ρ k = none) → VLs ρ args xs → ∃ M, SoundV P f M ∧ ∃ args2, VLs ρ args2 xs ∧ ∃ r2, M args2 = some r2 ∧ r2.vc = true ∧ r2.H = r.H ∧ (r.fr = true → r2.fr = true) ∧ ∀ ρ' x, (R ρ' r2.v).v x → (R ρ' r.v).v x) : SoundV P f m := by
  refine ⟨fun args r hr hvc ρ w args' hρ hro hargs => ?_⟩
  obtain ⟨M, hM, args2, ha, r2, h1, h2, h3, h4, h5⟩ := h args r hr hvc ρ args' hρ hargs
  refine Lands.mono ?_ (hM.lands args2 r2 h1 h2 ρ w args' hρ hro ha)
  rintro v' w' ⟨ρ', hp, hf⟩
  rw [h3] at hp
  refine ⟨ρ', { hp with val := h5 _ _ hp.val }, fun e => ?_⟩
  have := hf (h4 e)
  rw [h3] at this
  exact ⟨h5 _ _ this.1, this.2⟩

/-! ### Lending -/

def capOK (len : Nat) : Option Nat → Bool
  | none => true
  | some c => Nat.ble len c

def orN (f : Nat → Nat) : Nat → Nat
  | 0 => 0
  | n + 1 => f n ||| orN f n
theorem orN_bit {f : Nat → Nat} : ∀ {n i : Nat}, i < n → ∀ k, (f i).testBit k = true → (orN f n).testBit k = true
  | n + 1, i, hi, k, h => by
    simp only [orN, Nat.testBit_or, Bool.or_eq_true]
    by_cases e : i = n
    · left; rw [← e]; exact h
    · right; exact orN_bit (by omega) k h

/-- What is told by names of blocks, told by what stands in them: whether it may be, what it is, and the blocks that were looked at. -/
def lendW (F : Nat → Bool) (G : Heap) (deep : Bool) (inner : T → Bool × T × Nat) : T → Bool × T × Nat
  | .slice id path lo m len cap => bif F id then match hget G id with
      | some tr => match get tr path with
        | some (.ints k n f) => ((getOK tr path && decide (lo + len ≤ n)) && (Nat.beq m 1 && capOK len cap), .fsi k len (fun j => f (lo + j)) cap, 2 ^ id)
        | some (.rows n m' f) => ((getOK tr path && decide (lo + len ≤ n)) && (Nat.beq m m' && capOK len cap) && allN (fun j => (inner (f (lo + j))).1 && noPtr (inner (f (lo + j))).2.1) len,
            .fsr m len (fun j => (inner (f (lo + j))).2.1) cap, bif deep then 2 ^ id ||| orN (fun j => (inner (f (lo + j))).2.2) len else 2 ^ id)
        | _ => (false, .any, 0)
      | none => (false, .any, 0)
    else (true, .slice id path lo m len cap, 0)
  | .ptr id path => bif F id then match hget G id with
      | some tr => match get tr path with
        | some u => (getOK tr path && ((inner u).1 && noPtr (inner u).2.1), .fp (inner u).2.1, bif deep then 2 ^ id ||| (inner u).2.2 else 2 ^ id)
        | none => (false, .any, 0)
      | none => (false, .any, 0)
    else (true, .ptr id path, 0)
  | .cons h t => ((lendW F G deep inner h).1 && (lendW F G deep inner t).1, .cons (lendW F G deep inner h).2.1 (lendW F G deep inner t).2.1, (lendW F G deep inner h).2.2 ||| (lendW F G deep inner t).2.2)
  | .tup t => ((lendW F G deep inner t).1, .tup (lendW F G deep inner t).2.1, (lendW F G deep inner t).2.2)
  | .fn f t => ((lendW F G deep inner t).1, .fn f (lendW F G deep inner t).2.1, (lendW F G deep inner t).2.2)
  | .rows n m f => (allN (fun j => (lendW F G deep inner (f j)).1) n, .rows n m fun j => (lendW F G deep inner (f j)).2.1, orN (fun j => (lendW F G deep inner (f j)).2.2) n)
  | t => (true, t, 0)

def lend (F : Nat → Bool) (G : Heap) : Nat → T → Bool × T × Nat
  | 0 => lendW F G false fun t => (noPtr t, t, 0)
  | d + 1 => lendW F G true (lend F G d)

theorem blk_get {ρ : Rho} {tr u : T} {path : List Step} {p : Nat × Nat} {w : World} (hb : Blk ρ tr p w) (hg : get tr path = some u) (hok : getOK tr path = true) :
    ∃ cs ty fr, w.heap[p.1]? = some (.cells cs ty fr) ∧ poff path + u.size ≤ cs.size ∧ (R ρ u).c (cut cs.toList (poff path) u.size) := by
  obtain ⟨cs, ty, fr, h1, h2, h3, h4, h5⟩ := hb
  obtain ⟨h6, h7⟩ := get_sound h4 hg hok
  simp only [List.length_take, Array.length_toList] at h7
  rw [cut_take (by omega)] at h6
  exact ⟨cs, ty, fr, h1, by omega, h6⟩

/-- What was lent is what stands there. -/
def Lent (ρ ρ1 : Rho) (t t' : T) : Prop :=
  (∀ cs, (R ρ t).c cs → (R ρ1 t').c cs) ∧ (∀ x, (R ρ t).v x → (R ρ1 t').v x) ∧ (∀ xs, (R ρ t).l xs → (R ρ1 t').l xs)

theorem sliceR_shape {ids : Nat → Option (Nat × Nat)} {id : Nat} {path : List Step} {lo m len : Nat} {cap : Option Nat} {x : Value} (h : SliceR ids id path lo m len cap x) (hc : capOK len cap = true) :
    ∃ a c, x = .slice a len c ∧ len ≤ c ∧ (∀ c', cap = some c' → c = c') ∧ (0 < len → ∃ b sz, ids id = some (b, sz) ∧ a = some ⟨b, poff path + lo * m, none⟩) := by
  rcases h with ⟨b, sz, hr, hs⟩ | ⟨rfl, rfl, rfl, rfl⟩
  · cases cap with
    | some c =>
      simp only [SliceRel] at hs
      exact ⟨_, c, hs, Nat.le_of_ble_eq_true hc, fun c' e => Option.some.inj e, fun _ => ⟨b, sz, hr, rfl⟩⟩
    | none =>
      obtain ⟨rfl, _, (⟨c, rfl, _, hl⟩ | ⟨rfl, a, rfl, _⟩)⟩ := hs
      · exact ⟨_, c, rfl, hl, fun c' e => by (cases e), fun _ => ⟨b, sz, hr, by simp [poff]⟩⟩
      · exact ⟨_, _, rfl, Nat.le_refl _, fun c' e => by (cases e), fun h => absurd h (by omega)⟩
  · exact ⟨_, _, rfl, Nat.le_refl _, fun c' e => by (cases e), fun h => absurd h (by omega)⟩

theorem bit_left {a b k : Nat} (h : a.testBit k = true) : (a ||| b).testBit k = true := by rw [Nat.testBit_or, h]; rfl
theorem bit_right {a b k : Nat} (h : b.testBit k = true) : (a ||| b).testBit k = true := by rw [Nat.testBit_or, h, Bool.or_true]

theorem lendW_sound {F : Nat → Bool} {G : Heap} {deep : Bool} {inner : T → Bool × T × Nat} {K : Nat → Prop} {ρ ρ1 : Rho} {w : World} (hids : ρ1.ids = ρ.ids) (hro : ∀ b cs, ρ.ro b = some cs → ρ1.ro b = some cs)
    (hsim : Sim K ρ G w) (hl : ∀ id p t cs ty fr, F id = true → K id → hget G id = some t → ρ id = some p → w.heap[p.1]? = some (.cells cs ty fr) → ρ1.ro p.1 = some cs)
    (hdeep : deep = false → ∀ t, (inner t).2.2 = 0) (hin : ∀ t, (inner t).1 = true → (∀ k, (inner t).2.2.testBit k = true → K k) → Lent ρ ρ1 t (inner t).2.1) :
    ∀ t, (lendW F G deep inner t).1 = true → (∀ k, (lendW F G deep inner t).2.2.testBit k = true → K k) → Lent ρ ρ1 t (lendW F G deep inner t).2.1 := by
  have hext : ρ.Ext ρ1 := ⟨fun k p h => by rw [hids]; exact h, hro⟩
  have same : ∀ t, Lent ρ ρ1 t t := fun t => R_mono hext t
  have hnone : ∀ k : Nat, (0 : Nat).testBit k = true → K k := fun k h => by simp at h
  have toBare : ∀ t, noPtr t = true → ∀ cs, (R ρ1 t).c cs → (R ρ1.bare t).c cs := fun t h cs hc => (noPtr_R h ρ1 ρ1.bare (fun _ _ h => h)).1 cs hc
  intro t
  induction t with
  | slice id path lo m len cap =>
    intro hok hK
    simp only [lendW] at hok hK ⊢
    cases hF : F id with
    | false => rw [hF] at hok hK; simp only [cond_false]; exact same _
    | true =>
      rw [hF] at hok hK
      simp only [cond_true] at hok hK ⊢
      split at hok
      · rename_i tr htr
        rw [htr] at hK
        simp only at hK
        split at hok
        · rename_i k n f hg
          rw [hg] at hK
          simp only [Bool.and_eq_true, decide_eq_true_eq] at hok hK
          obtain ⟨⟨h1, h2⟩, h3, h4⟩ := hok
          have h3 := Nat.eq_of_beq_eq_true h3
          subst h3
          have hKid : K id := hK id (tb_self id)
          have hp : ∀ x, (R ρ (.slice id path lo 1 len cap)).v x → (R ρ1 (.fsi k len (fun j => f (lo + j)) cap)).v x := by
            intro x hx
            obtain ⟨a, c, rfl, h5, h6, h7⟩ := sliceR_shape hx h4
            refine ⟨a, c, rfl, h5, h6, fun h0 => ?_⟩
            obtain ⟨b, sz, hr, rfl⟩ := h7 h0
            obtain ⟨cs, ty, fr, g1, g2, g3⟩ := blk_get (hsim.blk id tr _ hKid htr hr) hg h1
            have hro1 := hl id _ tr cs ty fr hF hKid htr hr g1
            obtain ⟨g4, g5⟩ := g3
            simp only [T.size] at g2 g5
            refine ⟨b, poff path + lo * 1, cs, rfl, hro1, by omega, fun i hi => ?_⟩
            have := g5 (lo + i) (by omega)
            rw [cut_getElem (by omega)] at this
            have hlt : poff path + (lo + i) < cs.toList.length := by simp; omega
            have e : poff path + lo * 1 + i * 1 = poff path + (lo + i) := by omega
            rw [e]
            rw [List.getElem?_eq_getElem hlt] at this
            simp only [cut]
            rw [List.drop_eq_getElem_cons hlt, Option.some.inj this]
            rfl
          exact ⟨fun cs ⟨x, e, hx⟩ => ⟨x, e, hp x hx⟩, hp, fun _ h => h⟩
        · rename_i n m' f hg
          rw [hg] at hK
          simp only [Bool.and_eq_true, decide_eq_true_eq] at hok hK
          obtain ⟨⟨⟨h1, h2⟩, h3, h4⟩, h8⟩ := hok
          have h3 := Nat.eq_of_beq_eq_true h3
          subst h3
          have hKid : K id := hK id (by cases deep <;> simp [tb_self, Nat.testBit_or])
          have hKin : ∀ j, j < len → ∀ k, (inner (f (lo + j))).2.2.testBit k = true → K k := fun j hj k hb => by
            cases hd : deep with
            | true =>
              refine hK k ?_
              rw [hd, cond_true]
              exact bit_right (orN_bit (f := fun j => (inner (f (lo + j))).2.2) hj k hb)
            | false =>
              rw [hdeep hd] at hb
              exact hnone k hb
          have hp : ∀ x, (R ρ (.slice id path lo m len cap)).v x → (R ρ1 (.fsr m len (fun j => (inner (f (lo + j))).2.1) cap)).v x := by
            intro x hx
            obtain ⟨a, c, rfl, h5, h6, h7⟩ := sliceR_shape hx h4
            refine ⟨a, c, rfl, h5, h6, fun h0 => ?_⟩
            obtain ⟨b, sz, hr, rfl⟩ := h7 h0
            obtain ⟨cs, ty, fr, g1, g2, g3⟩ := blk_get (hsim.blk id tr _ hKid htr hr) hg h1
            have hro1 := hl id _ tr cs ty fr hF hKid htr hr g1
            obtain ⟨g4, g5⟩ := g3
            simp only [T.size] at g2 g4 g5
            have e1 : (lo + len) * m ≤ n * m := Nat.mul_le_mul_right _ h2
            rw [Nat.add_mul] at e1
            refine ⟨b, poff path + lo * m, cs, rfl, hro1, by omega, fun i hi => ?_⟩
            have e2 : (lo + i) * m + m ≤ n * m := by rw [← Nat.succ_mul]; exact Nat.mul_le_mul_right _ (by omega)
            have := g5 (lo + i) (by omega)
            have e3 : List.take m (List.drop ((lo + i) * m) (cut cs.toList (poff path) (n * m))) = cut cs.toList (poff path + lo * m + i * m) m := by
              simp only [cut]
              rw [List.drop_take, List.take_take, Nat.min_eq_left (by omega), List.drop_drop]
              congr 2
              rw [Nat.add_mul]; omega
            rw [e3] at this
            have h9 := allN_spec h8 i hi
            simp only [Bool.and_eq_true] at h9
            exact toBare _ h9.2 _ ((hin _ h9.1 (hKin i hi)).1 _ this)
          exact ⟨fun cs ⟨x, e, hx⟩ => ⟨x, e, hp x hx⟩, hp, fun _ h => h⟩
        · cases hok
      · cases hok
  | ptr id path =>
    intro hok hK
    simp only [lendW] at hok hK ⊢
    cases hF : F id with
    | false => rw [hF] at hok hK; simp only [cond_false]; exact same _
    | true =>
      rw [hF] at hok hK
      simp only [cond_true] at hok hK ⊢
      split at hok
      · rename_i tr htr
        rw [htr] at hK
        simp only at hK
        split at hok
        · rename_i u hg
          rw [hg] at hK
          simp only [Bool.and_eq_true] at hok hK
          obtain ⟨h1, h2, h3⟩ := hok
          have hKid : K id := hK id (by cases deep <;> simp [tb_self, Nat.testBit_or])
          have hKin : ∀ k, (inner u).2.2.testBit k = true → K k := fun k hb => by
            cases hd : deep with
            | true =>
              refine hK k ?_
              rw [hd, cond_true]
              exact bit_right hb
            | false =>
              rw [hdeep hd] at hb
              exact hnone k hb
          have hp : ∀ x, (R ρ (.ptr id path)).v x → (R ρ1 (.fp (inner u).2.1)).v x := by
            rintro x ⟨b, sz, hr, rfl⟩
            obtain ⟨cs, ty, fr, g1, g2, g3⟩ := blk_get (hsim.blk id tr _ hKid htr hr) hg h1
            have hro1 := hl id _ tr cs ty fr hF hKid htr hr g1
            have g4 := (hin u h2 hKin).1 _ g3
            have hsz : (inner u).2.1.size = u.size := by rw [← R_size g4, cut_len (by simpa using g2)]
            exact ⟨b, poff path, cs, rfl, hro1, by rw [hsz]; exact g2, by rw [hsz]; exact toBare _ h3 _ g4⟩
          exact ⟨fun cs ⟨x, e, hx⟩ => ⟨x, e, hp x hx⟩, hp, fun _ h => h⟩
        · cases hok
      · cases hok
  | cons a b iha ihb =>
    intro hok hK
    simp only [lendW, Bool.and_eq_true] at hok hK ⊢
    have iha := iha hok.1 fun k h => hK k (bit_left h)
    have ihb := ihb hok.2 fun k h => hK k (bit_right h)
    refine ⟨?_, ?_, ?_⟩
    · rintro cs ⟨x, y, e, hx, hy⟩; exact ⟨x, y, e, iha.1 _ hx, ihb.1 _ hy⟩
    · rintro v ⟨cs, hv, x, y, e, hx, hy⟩; exact ⟨cs, hv, x, y, e, iha.1 _ hx, ihb.1 _ hy⟩
    · rintro xs ⟨y, ys, e, hy, hys⟩; exact ⟨y, ys, e, iha.2.1 _ hy, ihb.2.2 _ hys⟩
  | tup t ih =>
    intro hok hK
    have ih := ih hok hK
    exact ⟨fun _ h => h, fun x ⟨vs, hx, hl⟩ => ⟨vs, hx, ih.2.2 _ hl⟩, fun _ h => h⟩
  | fn f t ih =>
    intro hok hK
    have ih := ih hok hK
    have hp : ∀ x, (R ρ (.fn f t)).v x → (R ρ1 (.fn f (lendW F G deep inner t).2.1)).v x := by
      rintro x ⟨vs, hx, hl⟩; exact ⟨vs, hx, ih.2.2 _ hl⟩
    exact ⟨fun cs ⟨x, e, hx⟩ => ⟨x, e, hp x hx⟩, hp, fun _ h => h⟩
  | rows n m f ih =>
    intro hok hK
    simp only [lendW] at hok hK ⊢
    have ih := fun i (hi : i < n) => ih i (allN_spec hok i hi) fun k h => hK k (orN_bit (f := fun j => (lendW F G deep inner (f j)).2.2) hi k h)
    exact ⟨fun cs ⟨h1, h2⟩ => ⟨h1, fun i hi => (ih i hi).1 _ (h2 i hi)⟩, fun x ⟨cs, e, h1, h2⟩ => ⟨cs, e, h1, fun i hi => (ih i hi).1 _ (h2 i hi)⟩, fun _ h => h⟩
  | _ => intro _ _; exact same _

theorem lend_soundF {F : Nat → Bool} {G : Heap} {K : Nat → Prop} {ρ ρ1 : Rho} {w : World} (hids : ρ1.ids = ρ.ids) (hro : ∀ b cs, ρ.ro b = some cs → ρ1.ro b = some cs)
    (hsim : Sim K ρ G w) (hall : ∀ k, K k) (hl : ∀ id p t cs ty fr, F id = true → K id → hget G id = some t → ρ id = some p → w.heap[p.1]? = some (.cells cs ty fr) → ρ1.ro p.1 = some cs) :
    ∀ (d : Nat) (t : T), (lend F G d t).1 = true → Lent ρ ρ1 t (lend F G d t).2.1
  | 0, t, h => lendW_sound (deep := false) (inner := fun t => (noPtr t, t, 0)) hids hro hsim hl (fun _ _ => rfl) (fun t _ _ => R_mono ⟨fun k p h => by rw [hids]; exact h, hro⟩ t) t h fun k _ => hall k
  | d + 1, t, h => lendW_sound (deep := true) (inner := lend F G d) hids hro hsim hl (fun h => by cases h) (fun t h _ => lend_soundF hids hro hsim hall hl d t h) t h fun k _ => hall k

theorem lend_sound {F : Nat → Bool} {G : Heap} {K : Nat} {ρ ρ1 : Rho} {w : World} (hids : ρ1.ids = ρ.ids) (hro : ∀ b cs, ρ.ro b = some cs → ρ1.ro b = some cs)
    (hsim : Sim (bitK K) ρ G w) (hl : ∀ id p t cs ty fr, F id = true → K.testBit id = true → hget G id = some t → ρ id = some p → w.heap[p.1]? = some (.cells cs ty fr) → ρ1.ro p.1 = some cs) :
    ∀ (d : Nat) (t : T), (lend F G d t).1 = true → (∀ k, (lend F G d t).2.2.testBit k = true → K.testBit k = true) → Lent ρ ρ1 t (lend F G d t).2.1
  | 0 => lendW_sound hids hro hsim hl (fun _ _ => rfl) fun t _ _ => R_mono ⟨fun k p h => by rw [hids]; exact h, hro⟩ t
  | d + 1 => lendW_sound hids hro hsim hl (fun h => by cases h) (lend_sound hids hro hsim hl d)

def lendL (F : Nat → Bool) (G : Heap) (d : Nat) : List T → Bool × List T × Nat
  | [] => (true, [], 0)
  | t :: r => ((lend F G d t).1 && (lendL F G d r).1, (lend F G d t).2.1 :: (lendL F G d r).2.1, (lend F G d t).2.2 ||| (lendL F G d r).2.2)

theorem lendL_sound {F : Nat → Bool} {G : Heap} {d : Nat} {K : Nat} {ρ ρ1 : Rho} {w : World} (hids : ρ1.ids = ρ.ids) (hro : ∀ b cs, ρ.ro b = some cs → ρ1.ro b = some cs)
    (hsim : Sim (bitK K) ρ G w) (hl : ∀ id p t cs ty fr, F id = true → K.testBit id = true → hget G id = some t → ρ id = some p → w.heap[p.1]? = some (.cells cs ty fr) → ρ1.ro p.1 = some cs) :
    ∀ (ts : List T) (xs : List Value), (lendL F G d ts).1 = true → (∀ k, (lendL F G d ts).2.2.testBit k = true → K.testBit k = true) → VLs ρ ts xs → VLs ρ1 (lendL F G d ts).2.1 xs
  | [], _, _, _, h => h
  | t :: r, xs, hok, hK, ⟨y, ys, e, hy, hys⟩ => by
    simp only [lendL, Bool.and_eq_true] at hok hK ⊢
    exact ⟨y, ys, e, (lend_sound hids hro hsim hl d t hok.1 fun k h => hK k (bit_left h)).2.1 _ hy, lendL_sound hids hro hsim hl r ys hok.2 (fun k h => hK k (bit_right h)) hys⟩

/-! ### Such a function at any call -/

/-- All blocks of a memory. -/
def allRo (w : World) : Nat → Option (Array Value) := fun b => match w.heap[b]? with
  | some (.cells cs _ _) => some cs
  | _ => none
theorem allRo_ok (w : World) (ids : Nat → Option (Nat × Nat)) : RoOK ⟨ids, allRo w⟩ w := by
  intro b cs h
  simp only [allRo] at h
  split at h
  · rename_i cs' ty fr h1
    cases h
    exact ⟨ty, fr, h1⟩
  · cases h

def lift (d : Nat) (m : VModel) : Model := fun args G =>
  match m (lendL (fun _ => true) G d args).2.1 with
  | some r => some ⟨((lendL (fun _ => true) G d args).1 && argsOK (lendL (fun _ => true) G d args).2.1) && (r.vc && (Nat.beq (lendL (fun _ => true) G d args).2.2 0 || r.fr)),
      ren (G.length + ·) r.v, G ++ r.H.map (renO (G.length + ·)), (lendL (fun _ => true) G d args).2.2, 0⟩
  | none => none

theorem Post.lifted {ρ ρ0 ρ1 : Rho} {G H : Heap} {w w' : World} {v : T} {v' : Value} (hp : Post ρ0 ρ1 [] w ⟨true, v, H, 0, 0⟩ v' w') (hρ0 : ∀ k, ρ0 k = none) (hfr : fresh ρ G.length (G.length + H.length)) (hG : ∀ k, G.length ≤ k → k < G.length + H.length → ρ k = none)
    (ro : Nat → Option (Array Value)) (h1 : ∀ b cs, ρ.ro b = some cs → ro b = some cs) (h2 : ∀ b cs, ro b = some cs → ρ.ro b = some cs ∨ (w.heap.size ≤ b ∧ ∃ ty fr, w'.heap[b]? = some (.cells cs ty fr)))
    (h3 : (R ⟨ρ1.ids, ro⟩ v).v v') (h4 : ∀ k t p, hget H k = some t → ρ1 k = some p → Blk ⟨ρ1.ids, ro⟩ t p w') (h5 : ∀ k t p, hget H k = some t → ρ1 k = some p → ro p.1 = none) (vc : Bool) (t : Nat) :
    ∃ ρ', Post ρ ρ' G w ⟨vc, ren (G.length + ·) v, G ++ H.map (renO (G.length + ·)), t, 0⟩ v' w' := by
  let ρ' : Rho := ⟨fun k => if G.length ≤ k ∧ k < G.length + H.length then ρ1 (k - G.length) else ρ k, ro⟩
  have hdom : ∀ id p, ρ1 id = some p → id < H.length := fun id p h => by
    rcases Nat.lt_or_ge id H.length with h' | h'
    · exact h'
    · rw [hp.dom id (.inr h'), hρ0] at h; cases h
  have hmap : ∀ id p, ρ1 id = some p → ρ' (G.length + id) = some p := fun id p h => by
    have := hdom id p h
    show (if _ then _ else _) = _
    rw [if_pos (by omega), Nat.add_sub_cancel_left]
    exact h
  have hback : ∀ id, id < H.length → ρ' (G.length + id) = ρ1 id := fun id h => by
    show (if _ then _ else _) = _
    rw [if_pos (by omega), Nat.add_sub_cancel_left]
  have hext : ρ.Ext ρ' := ⟨fun k p hk => by
    by_cases h : G.length ≤ k ∧ k < G.length + H.length
    · rw [hG k h.1 h.2] at hk; cases hk
    · show (if _ then _ else _) = _
      rw [if_neg h]; exact hk, h1⟩
  have newG : ∀ k t, G.length ≤ k → hget (G ++ H.map (renO (G.length + ·))) k = some t → ∃ id t0, id < H.length ∧ k = G.length + id ∧ hget H id = some t0 ∧ t = ren (G.length + ·) t0 := by
    intro k t hk hg
    obtain ⟨j, rfl⟩ : ∃ j, k = G.length + j := ⟨k - G.length, by omega⟩
    rw [hget_append_right, hget_map] at hg
    cases hq : hget H j with
    | none => rw [hq] at hg; cases hg
    | some t0 =>
      rw [hq] at hg
      cases hg
      exact ⟨j, t0, hget_lt hq, rfl, hq, rfl⟩
  have hw0 : ∀ k : Nat, (0 : Nat).testBit k = true → False := fun k h => by simp at h
  refine ⟨ρ', ?_⟩
  exact {
    ext := hext
    dom := fun k hk => by
      have : ¬ (G.length ≤ k ∧ k < G.length + H.length) := by
        simp only [List.length_append, List.length_map] at hk
        omega
      show (if _ then _ else _) = _
      rw [if_neg this]
    val := (R_ren (ρ := ⟨ρ1.ids, ro⟩) (ρ' := ρ') hmap (fun _ _ h => h) v).2.1 _ h3
    sim := fun k t p hk hg hq => by
      rcases hk with hk | hk
      · obtain ⟨id, t0, i1, rfl, i3, rfl⟩ := newG k t hk hg
        rw [hback id i1] at hq
        obtain ⟨cs, ty, fr, b1, b2, b3, b4, b5⟩ := h4 id t0 p i3 hq
        exact ⟨cs, ty, fr, b1, b2, by rw [ren_size]; exact b3, by rw [ren_size]; exact (R_ren (ρ := ⟨ρ1.ids, ro⟩) (ρ' := ρ') hmap (fun _ _ h => h) t0).1 _ b4, b5⟩
      · exact (hw0 k hk).elim
    vac := fun k t hk hg hq => by
      rcases hk with hk | hk
      · obtain ⟨id, t0, i1, rfl, i3, rfl⟩ := newG k t hk hg
        rw [hback id i1] at hq
        rw [ren_size]
        exact hp.vac id t0 (.inl (Nat.zero_le _)) i3 hq
      · exact (hw0 k hk).elim
    new := fun k t p hk hg hq => by
      obtain ⟨id, t0, i1, rfl, i3, rfl⟩ := newG k t hk hg
      rw [hback id i1] at hq
      rcases hp.new id t0 p (Nat.zero_le _) i3 hq with h | ⟨j, q, hj, _⟩
      · exact .inl h
      · simp at hj
    inj := fun k k' t t' p p' hk hk' hg hg' hr hr' he => by
      obtain ⟨id, t0, i1, rfl, i3, rfl⟩ := newG k t hk hg
      obtain ⟨id', t0', j1, rfl, j3, rfl⟩ := newG k' t' hk' hg'
      rw [hback id i1] at hr
      rw [hback id' j1] at hr'
      rw [hp.inj id id' t0 t0' p p' (Nat.zero_le _) (Nat.zero_le _) i3 j3 hr hr' he]
    frame := fun b hb _ => hp.frame b hb fun k p hk => by simp at hk
    size := hp.size
    os := hp.os
    tape := hp.tape
    output := hp.output
    ro := h2
    dis := fun k t p hk hg hq => by
      rcases hk with hk | hk
      · obtain ⟨id, t0, i1, rfl, i3, rfl⟩ := newG k t hk hg
        rw [hback id i1] at hq
        exact h5 id t0 p i3 hq
      · exact (hw0 k hk).elim }

theorem SoundV.lift {f : FuncId} {m : VModel} (h : SoundV P f m) (d : Nat) : SoundM P f (lift d m) := by
  refine ⟨?_, ?_⟩
  · intro args G r hr
    unfold AE.lift at hr
    split at hr
    · cases hr
      exact ⟨by simp, fun k _ hk => by simp at hk, fun k hk _ => hget_append_left hk⟩
    · cases hr
  · intro args G r hr hvc ρ w args' hsim hfr hargs
    unfold AE.lift at hr
    split at hr
    · rename_i r0 hm
      cases hr
      simp only [Bool.and_eq_true, Bool.or_eq_true] at hvc
      obtain ⟨⟨k1, k2⟩, k3, k4⟩ := hvc
      simp only [List.length_append, List.length_map] at hfr
      have hGn : ∀ k, G.length ≤ k → k < G.length + r0.H.length → ρ k = none := fun k a b => hfr k a b
      rcases Nat.eq_zero_or_pos (lendL (fun _ => true) G d args).2.2 with h0 | h0
      · -- nothing is lent
        have ha : VLs ρ (lendL (fun _ => true) G d args).2.1 args' := lendL_sound (K := (lendL (fun _ => true) G d args).2.2) (ρ := ρ) (ρ1 := ρ) (w := w) rfl (fun _ _ h => h) hsim (fun id p t cs ty fr _ hb => by rw [h0] at hb; simp at hb) args args' k1 (fun _ h => h) hargs
        have hb := argsOK_VLs (ρ := ρ) (ρ' := ρ.bare) (fun _ _ h => h) k2 ha
        refine Lands.mono ?_ (h.lands _ r0 hm k3 ρ.bare w args' (fun _ => rfl) hsim.ro hb)
        rintro v' w' ⟨ρ1, hp, _⟩
        exact hp.lifted (fun _ => rfl) hfr hGn ρ1.ro hp.ext.ro hp.ro hp.val (fun k t p hg hq => hp.sim k t p (.inl (Nat.zero_le _)) hg hq) (fun k t p hg hq => hp.dis k t p (.inl (Nat.zero_le _)) hg hq) _ _
      · have k5 : r0.fr = true := by
          rcases k4 with k4 | k4
          · have := Nat.eq_of_beq_eq_true k4; omega
          · exact k4
        have hro1 : ∀ b cs, ρ.ro b = some cs → allRo w b = some cs := fun b cs hb => by
          obtain ⟨ty, fr, g⟩ := hsim.ro b cs hb
          simp [allRo, g]
        have ha : VLs ⟨ρ.ids, allRo w⟩ (lendL (fun _ => true) G d args).2.1 args' := lendL_sound (K := (lendL (fun _ => true) G d args).2.2) (ρ := ρ) (ρ1 := ⟨ρ.ids, allRo w⟩) (w := w) rfl hro1 hsim (fun id p t cs ty fr _ _ _ _ hw => by simp [allRo, hw]) args args' k1 (fun _ h => h) hargs
        have hb := argsOK_VLs (ρ := ⟨ρ.ids, allRo w⟩) (ρ' := ⟨fun _ => none, allRo w⟩) (fun _ _ h => h) k2 ha
        refine Lands.mono ?_ (h.lands _ r0 hm k3 ⟨fun _ => none, allRo w⟩ w args' (fun _ => rfl) (allRo_ok w _) hb)
        rintro v' w' ⟨ρ1, hp, hf⟩
        obtain ⟨f1, f2⟩ := hf k5
        have hold : ∀ b cs, ρ1.ro b = some cs → w.heap.size ≤ b → ∃ ty fr, w'.heap[b]? = some (.cells cs ty fr) := fun b cs hb hs => by
          rcases hp.ro b cs hb with h1 | ⟨_, h1⟩
          · obtain ⟨ty, fr, g⟩ := allRo_ok w (fun _ => none) b cs h1
            have := (Array.getElem?_eq_some_iff.1 g).1
            omega
          · exact h1
        refine hp.lifted (fun _ => rfl) hfr hGn (fun b => if b < w.heap.size then ρ.ro b else ρ1.ro b) (fun b cs hb => ?_) (fun b cs hb => ?_) ?_ (fun k t p hg hq => ?_) (fun k t p hg hq => ?_) _ _
        · have := hsim.ro.lt hb
          simp only [this, if_true]
          exact hb
        · by_cases hs : b < w.heap.size
          · simp only [hs, if_true] at hb
            exact .inl hb
          · simp only [hs, if_false] at hb
            exact .inr ⟨by omega, hold b cs hb (by omega)⟩
        · refine R_v_mono (ρ := ρ1.fresh w.heap.size) (ρ' := ⟨ρ1.ids, fun b => if b < w.heap.size then ρ.ro b else ρ1.ro b⟩) ⟨fun _ _ h => h, fun b cs hb => ?_⟩ f1
          simp only [Rho.fresh] at hb
          by_cases hs : b < w.heap.size
          · simp [hs] at hb
          · simp only [hs, if_false] at hb ⊢
            exact hb
        · refine Blk.mono (ρ := ρ1.fresh w.heap.size) (ρ' := ⟨ρ1.ids, fun b => if b < w.heap.size then ρ.ro b else ρ1.ro b⟩) ⟨fun _ _ h => h, fun b cs hb => ?_⟩ (f2 k t p hg hq)
          simp only [Rho.fresh] at hb
          by_cases hs : b < w.heap.size
          · simp [hs] at hb
          · simp only [hs, if_false] at hb ⊢
            exact hb
        · have hn : w.heap.size ≤ p.1 := by
            rcases hp.new k t p (Nat.zero_le _) hg hq with h1 | ⟨j, q, hj, _⟩
            · exact h1
            · simp at hj
          have : ¬ p.1 < w.heap.size := by omega
          simp only [this, if_false]
          exact hp.dis k t p (.inl (Nat.zero_le _)) hg hq
    · cases hr

/-! ### What a function made, told as what nobody writes any more -/

def frz (d : Nat) (m : VModel) : VModel := fun args => match m args with
  | some r => some ⟨r.vc && ((lend (fun _ => true) r.H d r.v).1 && noPtr (lend (fun _ => true) r.H d r.v).2.1), (lend (fun _ => true) r.H d r.v).2.1, [], r.fr⟩
  | none => none

theorem SoundV.frz {f : FuncId} {m : VModel} (h : SoundV P f m) (d : Nat) : SoundV P f (frz d m) := by
  refine ⟨fun args r hr hvc ρ w args' hρ hro hargs => ?_⟩
  unfold AE.frz at hr
  split at hr
  · rename_i r0 hm
    cases hr
    simp only [Bool.and_eq_true] at hvc
    obtain ⟨k1, k2, k3⟩ := hvc
    refine Lands.mono ?_ (h.lands args r0 hm k1 ρ w args' hρ hro hargs)
    rintro v' w' ⟨ρ1, hp, hf⟩
    have hro1 : RoOK ρ1 w' := hp.roOK (K := fun _ => True) ⟨Nat.zero_le _, fun k hk => by simp at hk, fun k hk => by simp at hk⟩ (Sim.none ρ w hro _) (fun _ _ _ => trivial)
    -- what is new of the blocks
    let new : Nat → Option (Array Value) := fun b => if b < w.heap.size then none else allRo w' b
    have key : ∀ ro : Nat → Option (Array Value), (∀ b cs, ro b = some cs → ρ1.ro b = some cs) → (R ⟨ρ1.ids, ro⟩ r0.v).v v' → (∀ k t p, hget r0.H k = some t → ρ1 k = some p → Blk ⟨ρ1.ids, ro⟩ t p w') →
        (R ⟨fun _ => none, fun b => if b < w.heap.size then ro b else allRo w' b⟩ (lend (fun _ => true) r0.H d r0.v).2.1).v v' := by
      intro ro hsub hv hb
      have hsim : Sim (bitK (lend (fun _ => true) r0.H d r0.v).2.2) ⟨ρ1.ids, ro⟩ r0.H w' :=
        ⟨fun k t p _ hg hq => hb k t p hg hq, fun k t _ hg hq => hp.vac k t (.inl (Nat.zero_le _)) hg hq, fun k k' t t' p p' _ _ hg hg' hq hq' he => hp.inj k k' t t' p p' (Nat.zero_le _) (Nat.zero_le _) hg hg' hq hq' he,
          fun b cs hb => hro1 b cs (hsub b cs hb), fun k t p _ hg hq => by
            have h1 := hp.dis k t p (.inl (Nat.zero_le _)) hg hq
            cases e : ro p.1 with
            | none => exact e
            | some cs => rw [hsub _ _ e] at h1; cases h1⟩
      have := lend_sound (F := fun _ => true) (ρ := ⟨ρ1.ids, ro⟩) (ρ1 := ⟨ρ1.ids, fun b => if b < w.heap.size then ro b else allRo w' b⟩) (w := w') rfl (fun b cs hb => by
          show (if _ then _ else _) = _
          by_cases hs : b < w.heap.size
          · rw [if_pos hs]; exact hb
          · rw [if_neg hs]
            obtain ⟨ty, fr, g⟩ := hro1 b cs (hsub b cs hb)
            simp [allRo, g]) hsim (fun id p t cs ty fr _ _ hg hq hw => by
          have hn : w.heap.size ≤ p.1 := by
            rcases hp.new id t p (Nat.zero_le _) hg hq with h1 | ⟨j, q, hj, _⟩
            · exact h1
            · simp at hj
          show (if _ then _ else _) = _
          rw [if_neg (by omega)]
          simp [allRo, hw]) d r0.v k2 (fun _ h => h)
      exact (noPtr_R k3 ⟨ρ1.ids, fun b => if b < w.heap.size then ro b else allRo w' b⟩ ⟨fun _ => none, fun b => if b < w.heap.size then ro b else allRo w' b⟩ (fun _ _ h => h)).2.1 _ (this.2.1 _ hv)
    have e1 : (⟨ρ1.ids, ρ1.ro⟩ : Rho) = ρ1 := rfl
    have hold : ∀ b, b < w.heap.size → ∀ cs, ρ1.ro b = some cs → ρ.ro b = some cs := fun b hb cs h1 => by
      rcases hp.ro b cs h1 with h2 | ⟨h2, _⟩
      · exact h2
      · omega
    refine ⟨⟨fun _ => none, fun b => if b < w.heap.size then ρ1.ro b else allRo w' b⟩, ?_, fun hfr => ?_⟩
    · exact {
        ext := ⟨fun k p hk => (by rw [hρ] at hk; cases hk), fun b cs hb => (by
          show (if _ then _ else _) = _
          rw [if_pos (hro.lt hb)]
          exact hp.ext.ro b cs hb)⟩
        dom := fun k _ => (hρ k).symm
        val := key ρ1.ro (fun _ _ h => h) hp.val (fun k t p hg hq => hp.sim k t p (.inl (Nat.zero_le _)) hg hq)
        sim := fun k t p _ hg => by simp [hget] at hg
        vac := fun k t _ hg => by simp [hget] at hg
        new := fun k t p _ hg => by simp [hget] at hg
        inj := fun k k' t t' p p' _ _ hg => by simp [hget] at hg
        frame := fun b hb _ => hp.frame b hb fun k p hk => by simp at hk
        size := hp.size
        os := hp.os
        tape := hp.tape
        output := hp.output
        ro := fun b cs hb => by
          have hb' : (if b < w.heap.size then ρ1.ro b else allRo w' b) = some cs := hb
          by_cases hs : b < w.heap.size
          · rw [if_pos hs] at hb'
            exact .inl (hold b hs cs hb')
          · rw [if_neg hs] at hb'
            exact .inr ⟨by omega, allRo_ok w' (fun _ => none) b cs hb'⟩
        dis := fun k t p _ hg => by simp [hget] at hg }
    · obtain ⟨f1, f2⟩ := hf hfr
      refine ⟨?_, fun k t p hg => by simp [hget] at hg⟩
      have := key (fun b => if b < w.heap.size then none else ρ1.ro b) (fun b cs hb => by
        by_cases hs : b < w.heap.size
        · simp [hs] at hb
        · simpa [hs] using hb) f1 f2
      refine R_v_mono (ρ := ⟨fun _ => none, fun b => if b < w.heap.size then (if b < w.heap.size then none else ρ1.ro b) else allRo w' b⟩) (ρ' := Rho.fresh ⟨fun _ => none, fun b => if b < w.heap.size then ρ1.ro b else allRo w' b⟩ w.heap.size) ⟨fun _ _ h => h, fun b cs hb => ?_⟩ this
      show (if b < w.heap.size then none else (if b < w.heap.size then ρ1.ro b else allRo w' b)) = some cs
      have hb' : (if b < w.heap.size then (if b < w.heap.size then none else ρ1.ro b) else allRo w' b) = some cs := hb
      by_cases hs : b < w.heap.size
      · simp [hs] at hb'
      · simp only [hs, if_false] at hb' ⊢
        exact hb'
  · cases hr

end
end Go.AE

/-! Functions that are told of blocks and write them, at any call: the blocks that they can reach are told by names of their own. No condition. -/
namespace Go.AE
open Go
noncomputable section
variable {P : Program}

/-- A list's place of a number. -/
def ixOf : List Nat → Nat → Nat
  | [], _ => 0
  | x :: r, k => bif Nat.beq x k then 0 else ixOf r k + 1
def inL : List Nat → Nat → Bool
  | [], _ => false
  | x :: r, k => Nat.beq x k || inL r k
def dupFree : List Nat → Bool
  | [] => true
  | x :: r => !inL r x && dupFree r
def nthL : List Nat → Nat → Nat
  | [], _ => 0
  | x :: _, 0 => x
  | _ :: r, j + 1 => nthL r j

theorem inL_nth : ∀ {L : List Nat} {k : Nat}, inL L k = true → ixOf L k < L.length ∧ nthL L (ixOf L k) = k
  | x :: r, k, h => by
    simp only [inL, Bool.or_eq_true] at h
    simp only [ixOf]
    cases hb : Nat.beq x k with
    | true => simp only [cond_true]; exact ⟨by simp, Nat.eq_of_beq_eq_true hb⟩
    | false =>
      simp only [cond_false]
      rw [hb] at h
      obtain ⟨h1, h2⟩ := inL_nth (h.resolve_left (by simp))
      exact ⟨by simp; omega, h2⟩
theorem nth_inL : ∀ {L : List Nat} {j : Nat}, j < L.length → inL L (nthL L j) = true
  | x :: r, 0, _ => by simp [inL, nthL]
  | x :: r, j + 1, h => by simp only [inL, nthL, nth_inL (L := r) (by simpa using h), Bool.or_true]
theorem ix_nth : ∀ {L : List Nat} {j : Nat}, dupFree L = true → j < L.length → ixOf L (nthL L j) = j
  | x :: r, 0, _, _ => by simp [ixOf, nthL]
  | x :: r, j + 1, hd, h => by
    simp only [dupFree, Bool.and_eq_true, Bool.not_eq_true'] at hd
    have hj : j < r.length := by simpa using h
    simp only [ixOf, nthL]
    cases hb : Nat.beq x (nthL r j) with
    | true =>
      have := Nat.eq_of_beq_eq_true hb
      rw [this, nth_inL hj] at hd
      cases hd.1
    | false => simp only [cond_false]; rw [ix_nth hd.2 hj]
theorem mask_in : ∀ {L : List Nat} {k : Nat}, (maskOf L).testBit k = true → inL L k = true
  | [], k, h => by simp [maskOf] at h
  | x :: r, k, h => by
    simp only [maskOf, Nat.testBit_or, Bool.or_eq_true] at h
    simp only [inL, Bool.or_eq_true]
    rcases h with h | h
    · left; rw [tb_eq h]; simp
    · right; exact mask_in h
theorem in_mask : ∀ {L : List Nat} {k : Nat}, inL L k = true → (maskOf L).testBit k = true
  | x :: r, k, h => by
    simp only [inL, Bool.or_eq_true] at h
    simp only [maskOf, Nat.testBit_or, Bool.or_eq_true]
    rcases h with h | h
    · left; have := Nat.eq_of_beq_eq_true h; subst this; exact tb_self _
    · right; exact in_mask h

/-- Are all names among these? -/
def idsL (L : List Nat) : T → Bool
  | .ptr id _ => inL L id
  | .slice id .. => inL L id
  | .fn _ c => idsL L c
  | .opt _ t => idsL L t
  | .tup t => idsL L t
  | .cons h t => idsL L h && idsL L t
  | .rows n _ f => allN (fun i => idsL L (f i)) n
  | _ => true

theorem R_renL {L : List Nat} {σ : Nat → Nat} {ρ ρ' : Rho} (h : ∀ id p, inL L id = true → ρ id = some p → ρ' (σ id) = some p) (hro : ∀ b cs, ρ.ro b = some cs → ρ'.ro b = some cs) {t : T} (ht : idsL L t = true) :
    (∀ cs, (R ρ t).c cs → (R ρ' (ren σ t)).c cs) ∧ (∀ x, (R ρ t).v x → (R ρ' (ren σ t)).v x) ∧ (∀ xs, (R ρ t).l xs → (R ρ' (ren σ t)).l xs) := by
  induction t with
  | ptr id path =>
    have hp : ∀ x, (∃ b sz, ρ id = some (b, sz) ∧ x = Value.pointer (some ⟨b, poff path, none⟩)) → (∃ b sz, ρ' (σ id) = some (b, sz) ∧ x = Value.pointer (some ⟨b, poff path, none⟩)) := by
      rintro x ⟨b, sz, e, hx⟩; exact ⟨b, sz, h _ _ ht e, hx⟩
    refine ⟨?_, hp, fun _ h => h⟩
    rintro cs ⟨x, hcs, hx⟩; exact ⟨x, hcs, hp x hx⟩
  | slice id path lo m len cap =>
    have hp : ∀ x, SliceR ρ.ids id path lo m len cap x → SliceR ρ'.ids (σ id) path lo m len cap x := fun x hx => hx.mono fun p e => h _ _ ht e
    refine ⟨?_, hp, fun _ h => h⟩
    rintro cs ⟨x, hcs, hx⟩; exact ⟨x, hcs, hp x hx⟩
  | fn f cap ih =>
    have ih := ih ht
    have hp : ∀ x, (∃ vs, x = Value.func f #[] vs ∧ (R ρ cap).l vs.toList) → (∃ vs, x = Value.func f #[] vs ∧ (R ρ' (ren σ cap)).l vs.toList) := by
      rintro x ⟨vs, hx, hl⟩; exact ⟨vs, hx, ih.2.2 _ hl⟩
    refine ⟨?_, hp, fun _ h => h⟩
    rintro cs ⟨x, hcs, hx⟩; exact ⟨x, hcs, hp x hx⟩
  | opt g t ih => exact ⟨fun _ h => h, fun x hx => ⟨fun hg => (ih ht).2.1 _ (hx.1 hg), hx.2⟩, fun _ h => h⟩
  | tup t ih => exact ⟨fun _ h => h, fun x ⟨vs, hx, hl⟩ => ⟨vs, hx, (ih ht).2.2 _ hl⟩, fun _ h => h⟩
  | cons x y iha ihb =>
    simp only [idsL, Bool.and_eq_true] at ht
    have iha := iha ht.1
    have ihb := ihb ht.2
    refine ⟨?_, ?_, ?_⟩
    · rintro cs ⟨x, y, e, hx, hy⟩; exact ⟨x, y, e, iha.1 _ hx, ihb.1 _ hy⟩
    · rintro v ⟨cs, hv, x, y, e, hx, hy⟩; exact ⟨cs, hv, x, y, e, iha.1 _ hx, ihb.1 _ hy⟩
    · rintro xs ⟨y, ys, e, hy, hys⟩; exact ⟨y, ys, e, iha.2.1 _ hy, ihb.2.2 _ hys⟩
  | rows n' m f ih =>
    have h' := allN_spec ht
    refine ⟨?_, ?_, fun _ h => h⟩
    · rintro cs ⟨e, hx⟩; exact ⟨e, fun i hi => (ih i (h' i hi)).1 _ (hx i hi)⟩
    · rintro v ⟨cs, hv, e, hx⟩; exact ⟨cs, hv, e, fun i hi => (ih i (h' i hi)).1 _ (hx i hi)⟩
  | fsi k n f cap =>
    have hp : ∀ x, (R ρ (.fsi k n f cap)).v x → (R ρ' (.fsi k n f cap)).v x := fun x hx => Frz.mono (m := 1) (n := n) (q := fun i cs => cs = [.int k (f i)]) (cap := cap) hro (fun _ _ _ h => h) hx
    exact ⟨fun cs ⟨x, e, hx⟩ => ⟨x, e, hp x hx⟩, hp, fun _ h => h⟩
  | fsr m n f cap ih =>
    have hp : ∀ x, (R ρ (.fsr m n f cap)).v x → (R ρ' (.fsr m n f cap)).v x := fun x hx => Frz.mono (m := m) (n := n) (q := fun i cs => (R ρ.bare (f i)).c cs) (cap := cap) hro (fun i _ _ h' => (R_mono (Rho.Ext.bare hro) (f i)).1 _ h') hx
    exact ⟨fun cs ⟨x, e, hx⟩ => ⟨x, e, hp x hx⟩, hp, fun _ h => h⟩
  | fp t ih =>
    have hp : ∀ x, (R ρ (.fp t)).v x → (R ρ' (.fp t)).v x := fun x hx => FrzP.mono (m := t.size) (q := (R ρ.bare t).c) hro (fun _ h' => (R_mono (Rho.Ext.bare hro) t).1 _ h') hx
    exact ⟨fun cs ⟨x, e, hx⟩ => ⟨x, e, hp x hx⟩, hp, fun _ h => h⟩
  | _ => exact ⟨fun _ h => h, fun _ h => h, fun _ h => h⟩

/-- A function that is told all blocks that it can reach. -/
structure SoundL (P : Program) (f : FuncId) (m : Model) : Prop where
  stat : ∀ args G r, m args G = some r → Stat G r
  lands : ∀ args G r, m args G = some r → r.vc = true → (∀ k, k < G.length → ∃ t, hget G k = some t) → ∀ ρ w args', (∀ k, G.length ≤ k → ρ k = none) → Sim (fun _ => True) ρ G w → VLs ρ args args' →
    Lands P (fun v' w' => ∃ ρ', Post ρ ρ' G w r v' w') ((callFunc f args'.toArray).run P w)


/-- The same by a run that was shown part by part. -/
theorem SoundL.of_tr {f : FuncId} {fn : Func} {c : Code} (hf : P.funcs[f]? = some fn) (hname : (fn.name == "runtime.NumGoroutine") = false) (hb : fn.body = some c) {m : Model} (hstat : ∀ args G r, m args G = some r → Stat G r)
    (h : ∀ args G r, m args G = some r → r.vc = true → ∃ e s vs t, (e = .ret ∨ e = .normal) ∧ Tr P G.length c ⟨args ++ undefs (fn.ntmps - args.length), G, true, 2 ^ G.length - 1, 0⟩ e s ∧
      evResults P s fn.results.toList = some (true, vs, t) ∧ one vs = r.v ∧ s.G = r.G ∧ s.w = r.w) : SoundL P f m := by
  refine ⟨hstat, fun args G r hr hvc hall ρ w args' hρ hsim hargs => ?_⟩
  obtain ⟨e, s, vs, t, he, htr, hres, hv, hG, hw⟩ := h args G r hr hvc
  have hlen := VLs_len hargs
  have hd : Calls P f args'.toArray w fun e w' => ∃ v', e = .returned v' ∧ ∃ ρ', Post ρ ρ' G w r v' w' := by
    refine calls_of_wp hf hb ?_
    have hR0 : Rl (fun _ => True) ρ G w [] (args ++ undefs (fn.ntmps - args.length)).length ⟨args ++ undefs (fn.ntmps - args.length), G, true, 2 ^ G.length - 1, 0⟩
        { tmps := args'.toArray ++ Array.replicate (fn.ntmps - args'.toArray.size) undef, defers := [] } w := by
      refine ⟨⟨ρ, ?_, ?_, ?_⟩, ?_, rfl, ?_, rfl⟩
      · have hv : (R ρ T.any).v undef := trivial
        exact Post.anyVc (Post.pure (vc := true) hv 0)
      · intro t'
        have := VLs_tget (fn.ntmps - args.length) t' hargs
        have e1 : (args'.toArray ++ Array.replicate (fn.ntmps - args'.toArray.size) undef).getD t' undef = (args' ++ List.replicate (fn.ntmps - args.length) undef).getD t' undef := by
          simp [Array.getD_eq_getD_getElem?, List.getD_eq_getElem?_getD, hlen, Array.getElem?_append, List.getElem?_append, Array.getElem?_replicate, List.getElem?_replicate]
        rw [e1]; exact this
      · exact hsim.weak fun _ _ _ => trivial
      · simp [hlen, undefs_len]
      · exact ⟨Nat.le_refl _, fun k _ h => by simp [St.res] at h, fun _ _ _ => rfl⟩
    have hrun := htr.run (fun _ => True) ρ G w [] _ ⟨rfl, hall⟩ (fun _ _ _ => trivial) hρ _ _ hR0
    refine wp_mono hrun ?_
    rintro e' a' w' ⟨rfl, hR⟩
    obtain ⟨⟨ρ', hp, htm, hsim'⟩, hsz, hdfr, hst', hlen'⟩ := hR
    obtain ⟨xs, g1, g2⟩ := evResults_sound (P := P) htm hres rfl (hsim'.weak fun _ _ _ => .inl trivial)
    have hres' : (results fn a'.tmps).run P w' = .ok (if h : xs.toArray.size = 1 then xs.toArray[0] else .tuple xs.toArray) w' := results_run g1
    have fin : bodyPost P fn (fun e w'_1 => ∃ v', e = .returned v' ∧ ∃ ρ', Post ρ ρ' G w r v' w'_1) .ret a' w' := by
      refine ⟨hdfr, _, hres', _, rfl, ρ', ?_⟩
      have hval := one_sound g2
      rw [hv] at hval
      obtain ⟨rvc, rv, rG, rt, rw'⟩ := r
      have hsG : s.res.G = rG := hG
      have hsw : s.res.w = rw' := hw
      subst hsG
      subst hsw
      exact ⟨hp.ext, hp.dom, hval, hp.sim, hp.vac, hp.new, hp.inj, hp.frame, hp.size, hp.os, hp.tape, hp.output, hp.ro, hp.dis⟩
    rcases he with rfl | rfl
    · exact fin
    · exact fin
  simp only [callFunc, Sem.run_bind, run_program, Result.andThen_ok, hf, hname, show fn.body.isNone = false by rw [hb]; rfl]
  exact hd

/-- What blocks hold, under other names. -/
def pickG (G : Heap) (σ : Nat → Nat) (L0 : List Nat) : List Nat → Option Heap
  | [] => some []
  | id :: r => match hget G id, pickG G σ L0 r with
    | some t, some H => some (some (ren σ t) :: H)
    | _, _ => none
def okG (G : Heap) (L0 : List Nat) : List Nat → Bool
  | [] => true
  | id :: r => (match hget G id with
    | some t => idsL L0 t
    | none => false) && okG G L0 r
def okArgs (L : List Nat) : List T → Bool
  | [] => true
  | t :: r => idsL L t && okArgs L r

theorem pickG_len {G : Heap} {σ : Nat → Nat} {L0 : List Nat} : ∀ {L : List Nat} {H : Heap}, pickG G σ L0 L = some H → H.length = L.length
  | [], H, h => by cases h; rfl
  | id :: r, H, h => by
    simp only [pickG] at h
    split at h
    · rename_i h2
      cases h
      simp [pickG_len h2]
    · cases h
theorem pickG_get {G : Heap} {σ : Nat → Nat} {L0 : List Nat} : ∀ {L : List Nat} {H : Heap}, pickG G σ L0 L = some H → ∀ j t, hget H j = some t → j < L.length ∧ ∃ t0, hget G (nthL L j) = some t0 ∧ t = ren σ t0
  | [], H, h => by cases h; intro j t hg; cases j <;> cases hg
  | id :: r, H, h => by
    simp only [pickG] at h
    split at h
    · rename_i t0 H' h1 h2
      cases h
      intro j t hg
      cases j with
      | zero => cases hg; exact ⟨by simp, t0, h1, rfl⟩
      | succ j =>
        obtain ⟨h3, h4⟩ := pickG_get h2 j t hg
        exact ⟨by simp; omega, h4⟩
    · cases h
theorem pickG_some {G : Heap} {σ : Nat → Nat} {L0 : List Nat} : ∀ {L : List Nat} {H : Heap}, pickG G σ L0 L = some H → ∀ j, j < L.length → ∃ t, hget H j = some t
  | [], H, h => by intro j hj; exact absurd hj (Nat.not_lt_zero j)
  | id :: r, H, h => by
    simp only [pickG] at h
    split at h
    · rename_i t0 H' h1 h2
      cases h
      intro j hj
      cases j with
      | zero => exact ⟨_, rfl⟩
      | succ j => exact pickG_some h2 j (by simpa using hj)
    · cases h
theorem pickG_all {G : Heap} {σ : Nat → Nat} {L0 : List Nat} : ∀ {L : List Nat} {H : Heap}, pickG G σ L0 L = some H → ∀ k, inL L k = true → ∃ t, hget G k = some t
  | [], H, h => by intro k hk; cases hk
  | id :: r, H, h => by
    simp only [pickG] at h
    split at h
    · rename_i t0 H' h1 h2
      intro k hk
      simp only [inL, Bool.or_eq_true] at hk
      rcases hk with hk | hk
      · have := Nat.eq_of_beq_eq_true hk
        subst this
        exact ⟨t0, h1⟩
      · exact pickG_all h2 k hk
    · cases h
theorem okG_get {G : Heap} {L0 : List Nat} : ∀ {L : List Nat}, okG G L0 L = true → ∀ j t0, j < L.length → hget G (nthL L j) = some t0 → idsL L0 t0 = true
  | id :: r, h, j, t0, hj, hg => by
    simp only [okG, Bool.and_eq_true] at h
    cases j with
    | zero => simp only [nthL] at hg; rw [hg] at h; exact h.1
    | succ j => exact okG_get h.2 j t0 (by simpa using hj) hg

/-- A heap of which some blocks are others now. -/
def remap (L : List Nat) (H : Heap) (τ : Nat → Nat) : Nat → Heap → Heap
  | _, [] => []
  | i, x :: r => (bif inL L i then renO τ (hget H (ixOf L i)) else x) :: remap L H τ (i + 1) r
theorem remap_len {L : List Nat} {H : Heap} {τ : Nat → Nat} : ∀ {G : Heap} {i : Nat}, (remap L H τ i G).length = G.length
  | [], _ => rfl
  | _ :: r, i => by simp [remap, remap_len (G := r)]
theorem remap_get {L : List Nat} {H : Heap} {τ : Nat → Nat} : ∀ {G : Heap} {i k : Nat}, k < G.length → hget (remap L H τ i G) k = bif inL L (i + k) then renO τ (hget H (ixOf L (i + k))) else hget G k
  | _ :: _, i, 0, _ => rfl
  | _ :: r, i, k + 1, h => by
    simp only [remap, hget]
    rw [remap_get (G := r) (by simpa using h), show i + 1 + k = i + (k + 1) by omega]

def backN (L : List Nat) (n : Nat) : Nat → Nat := fun j => bif Nat.blt j L.length then nthL L j else n + (j - L.length)

def liftL (sel : List T → Heap → Option (List Nat)) (m : Model) : Model := fun args G =>
  match sel args G with
  | none => none
  | some L => match pickG G (ixOf L) L L with
    | none => none
    | some H => match m (args.map (ren (ixOf L))) H with
      | none => none
      | some r => some ⟨r.vc && (dupFree L && (okArgs L args && okG G L L)), ren (backN L G.length) r.v, remap L r.G (backN L G.length) 0 G ++ (r.G.drop L.length).map (renO (backN L G.length)), maskOf L, maskOf L⟩

theorem VLs_ren {L : List Nat} {σ : Nat → Nat} {ρ ρ' : Rho} (h : ∀ id p, inL L id = true → ρ id = some p → ρ' (σ id) = some p) (hro : ∀ b cs, ρ.ro b = some cs → ρ'.ro b = some cs) :
    ∀ {ts : List T} {xs : List Value}, okArgs L ts = true → VLs ρ ts xs → VLs ρ' (ts.map (ren σ)) xs
  | [], _, _, h' => h'
  | t :: r, _, ho, ⟨y, ys, e, hy, hys⟩ => by
    simp only [okArgs, Bool.and_eq_true] at ho
    exact ⟨y, ys, e, (R_renL h hro ho.1).2.1 _ hy, VLs_ren h hro ho.2 hys⟩

theorem hget_drop : ∀ (G : Heap) (k j : Nat), hget (G.drop k) j = hget G (k + j)
  | G, 0, j => by simp
  | [], k + 1, j => rfl
  | x :: r, k + 1, j => by
    rw [show k + 1 + j = k + j + 1 by omega]
    exact hget_drop r k j

theorem remapG_get {L : List Nat} {G H : Heap} {n : Nat} {τ : Nat → Nat} {k : Nat} {t : T} (hg : hget (remap L H τ 0 G ++ (H.drop n).map (renO τ)) k = some t) :
    (k < G.length ∧ inL L k = true ∧ ∃ t0, hget H (ixOf L k) = some t0 ∧ t = ren τ t0) ∨ (k < G.length ∧ inL L k = false ∧ hget G k = some t) ∨ (∃ j t0, k = G.length + j ∧ hget H (n + j) = some t0 ∧ t = ren τ t0) := by
  rcases Nat.lt_or_ge k G.length with h | h
  · rw [hget_append_left (by rw [remap_len]; exact h), remap_get h, Nat.zero_add] at hg
    cases hb : inL L k with
    | true =>
      rw [hb, cond_true] at hg
      cases hq : hget H (ixOf L k) with
      | none => rw [hq] at hg; cases hg
      | some t0 => rw [hq] at hg; cases hg; exact .inl ⟨h, rfl, t0, rfl, rfl⟩
    | false =>
      rw [hb, cond_false] at hg
      exact .inr (.inl ⟨h, rfl, hg⟩)
  · obtain ⟨j, rfl⟩ : ∃ j, k = G.length + j := ⟨k - G.length, by omega⟩
    have e : G.length + j = (remap L H τ 0 G).length + j := by rw [remap_len]
    rw [e, hget_append_right, hget_map, hget_drop] at hg
    cases hq : hget H (n + j) with
    | none => rw [hq] at hg; cases hg
    | some t0 => rw [hq] at hg; cases hg; exact .inr (.inr ⟨j, t0, rfl, hq, rfl⟩)

theorem SoundL.lift {f : FuncId} {m : Model} (h : SoundL P f m) (sel : List T → Heap → Option (List Nat)) : SoundM P f (liftL sel m) := by
  refine ⟨?_, ?_⟩
  · intro args G r hr
    unfold liftL at hr
    split at hr
    · cases hr
    · rename_i L hsel
      split at hr
      · cases hr
      · rename_i H hpick
        split at hr
        · cases hr
        · rename_i r0 hm
          cases hr
          refine ⟨by simp [remap_len], fun k hk hb => ?_, fun k hk hb => ?_⟩
          · exact ⟨hb, pickG_all hpick k (mask_in hb)⟩
          · have hn : inL L k = false := by
              cases e : inL L k with
              | false => rfl
              | true => rw [in_mask e] at hb; cases hb
            show hget (_ ++ _) k = _
            rw [hget_append_left (by rw [remap_len]; exact hk), remap_get hk, Nat.zero_add, hn]
            rfl
  · intro args G r hr hvc ρ w args' hsim hfr hargs
    unfold liftL at hr
    split at hr
    · cases hr
    · rename_i L hsel
      split at hr
      · cases hr
      · rename_i H hpick
        split at hr
        · cases hr
        · rename_i r0 hm
          cases hr
          simp only [Bool.and_eq_true] at hvc
          obtain ⟨k1, k2, k3, k4⟩ := hvc
          have hlen := pickG_len hpick
          have hstat := h.stat _ _ _ hm
          have hl0 : L.length ≤ r0.G.length := by have := hstat.len; omega
          have hKin : ∀ k, inL L k = true → bitK (maskOf L) k := fun k hk => in_mask hk
          have hltG : ∀ k, inL L k = true → k < G.length := fun k hk => by
            obtain ⟨t, ht⟩ := pickG_all hpick k hk
            exact hget_lt ht
          let ρ1 : Rho := ⟨fun j => if j < L.length then ρ (nthL L j) else none, ρ.ro⟩
          have e1 : ∀ j, j < L.length → ρ1 j = ρ (nthL L j) := fun j hj => by
            show (if _ then _ else _) = _
            rw [if_pos hj]
          have e1n : ∀ j, L.length ≤ j → ρ1 j = none := fun j hj => by
            show (if _ then _ else _) = _
            rw [if_neg (by omega)]
          have hto : ∀ id p, inL L id = true → ρ id = some p → ρ1 (ixOf L id) = some p := fun id p hid hp => by
            obtain ⟨a, b⟩ := inL_nth hid
            rw [e1 _ a, b]
            exact hp
          have hsim1 : Sim (fun _ => True) ρ1 H w := by
            refine ⟨fun k t p _ hg hp => ?_, fun k t _ hg hp => ?_, fun k k' t t' p p' _ _ hg hg' hp hp' he => ?_, hsim.ro, fun k t p _ hg hp => ?_⟩
            · obtain ⟨hk, t0, h0, rfl⟩ := pickG_get hpick k t hg
              rw [e1 k hk] at hp
              obtain ⟨cs, ty, fr, b1, b2, b3, b4, b5⟩ := hsim.blk _ t0 p (hKin _ (nth_inL hk)) h0 hp
              exact ⟨cs, ty, fr, b1, b2, by rw [ren_size]; exact b3, by rw [ren_size]; exact (R_renL hto (fun _ _ h => h) (okG_get k4 k t0 hk h0)).1 _ b4, b5⟩
            · obtain ⟨hk, t0, h0, rfl⟩ := pickG_get hpick k t hg
              rw [e1 k hk] at hp
              rw [ren_size]
              exact hsim.vac _ t0 (hKin _ (nth_inL hk)) h0 hp
            · obtain ⟨hk, t0, h0, rfl⟩ := pickG_get hpick k t hg
              obtain ⟨hk', t0', h0', rfl⟩ := pickG_get hpick k' t' hg'
              rw [e1 k hk] at hp
              rw [e1 k' hk'] at hp'
              have := hsim.inj _ _ t0 t0' p p' (hKin _ (nth_inL hk)) (hKin _ (nth_inL hk')) h0 h0' hp hp' he
              rw [← ix_nth k2 hk, this, ix_nth k2 hk']
            · obtain ⟨hk, t0, h0, rfl⟩ := pickG_get hpick k t hg
              rw [e1 k hk] at hp
              exact hsim.dis _ t0 p (hKin _ (nth_inL hk)) h0 hp
          refine Lands.mono ?_ (h.lands _ _ _ hm k1 (fun k hk => pickG_some hpick k (by rw [← hlen]; exact hk)) ρ1 w args' (fun k hk => e1n k (by rw [← hlen]; exact hk)) hsim1 (VLs_ren hto (fun _ _ h => h) k3 hargs))
          rintro v' w' ⟨ρ2, hp⟩
          have hr0 : RoOK ρ2 w' := hp.roOK hstat hsim1 (fun _ _ _ => trivial)
          have d2 : ∀ j, j < L.length → ρ2 j = ρ (nthL L j) := fun j hj => by rw [hp.dom j (.inl (by rw [hlen]; exact hj)), e1 j hj]
          have d2n : ∀ j, r0.G.length ≤ j → ρ2 j = none := fun j hj => by rw [hp.dom j (.inr hj), e1n j (by omega)]
          let N := r0.G.length - L.length
          let ρ' : Rho := ⟨fun k => if G.length ≤ k ∧ k < G.length + N then ρ2 (L.length + (k - G.length)) else ρ k, ρ2.ro⟩
          have new' : ∀ j, j < N → ρ' (G.length + j) = ρ2 (L.length + j) := fun j hj => by
            show (if _ then _ else _) = _
            rw [if_pos (by omega), Nat.add_sub_cancel_left]
          have old' : ∀ k, k < G.length → ρ' k = ρ k := fun k hk => by
            show (if _ then _ else _) = _
            rw [if_neg (by omega)]
          have hback : ∀ j p, ρ2 j = some p → ρ' (backN L G.length j) = some p := fun j p hq => by
            unfold backN
            cases hb : Nat.blt j L.length with
            | true =>
              have hj : j < L.length := by simpa using hb
              rw [cond_true, old' _ (hltG _ (nth_inL hj)), ← d2 j hj]
              exact hq
            | false =>
              have hj : L.length ≤ j := by
                rcases Nat.lt_or_ge j L.length with h1 | h1
                · have : Nat.blt j L.length = true := by simpa using h1
                  rw [this] at hb; cases hb
                · exact h1
              have hj2 : j < r0.G.length := by
                rcases Nat.lt_or_ge j r0.G.length with h1 | h1
                · exact h1
                · rw [d2n j h1] at hq; cases hq
              rw [cond_false, new' (j - L.length) (by omega), show L.length + (j - L.length) = j by omega]
              exact hq
          have hR := fun t => R_ren (ρ := ρ2) (ρ' := ρ') hback (fun _ _ h => h) t
          have hBlk : ∀ {t0 : T} {p : Nat × Nat}, Blk ρ2 t0 p w' → Blk ρ' (ren (backN L G.length) t0) p w' := fun {t0 p} hb => by
            obtain ⟨cs, ty, fr, b1, b2, b3, b4, b5⟩ := hb
            exact ⟨cs, ty, fr, b1, b2, by rw [ren_size]; exact b3, by rw [ren_size]; exact (hR t0).1 _ b4, b5⟩
          -- a told block behind the run, written or not
          have told : ∀ j t0 p, j < L.length → hget r0.G j = some t0 → ρ2 j = some p → Blk ρ2 t0 p w' ∧ ρ2.ro p.1 = none := fun j t0 p hj hg hq => by
            cases hb : r0.w.testBit j with
            | true => exact ⟨hp.sim j t0 p (.inr hb) hg hq, hp.dis j t0 p (.inr hb) hg hq⟩
            | false =>
              have hg1 : hget H j = some t0 := by rw [← hstat.old j (by rw [hlen]; exact hj) hb]; exact hg
              have hq1 : ρ1 j = some p := by rw [← hp.dom j (.inl (by rw [hlen]; exact hj))]; exact hq
              have hblk := hsim1.blk j t0 p trivial hg1 hq1
              refine ⟨(hblk.mono hp.ext).same (hp.frame p.1 hblk.lt fun k2 p2 a b c d => ?_), ?_⟩
              · obtain ⟨_, t2, h2⟩ := hstat.wt k2 a b
                have := hsim1.inj k2 j t2 t0 p2 p trivial trivial h2 hg1 c hq1 d
                subst this
                rw [hb] at b
                cases b
              · cases e : ρ2.ro p.1 with
                | none => rfl
                | some cs =>
                  rcases hp.ro _ cs e with h1 | ⟨h1, _⟩
                  · rw [hsim1.dis j t0 p trivial hg1 hq1] at h1; cases h1
                  · have := hblk.lt; omega
          have told' : ∀ k t p, (maskOf L).testBit k = true → hget (remap L r0.G (backN L G.length) 0 G ++ (r0.G.drop L.length).map (renO (backN L G.length))) k = some t → ρ' k = some p → ∃ t0, t = ren (backN L G.length) t0 ∧ Blk ρ2 t0 p w' ∧ ρ2.ro p.1 = none := fun k t p hk hg hq => by
            have hin := mask_in hk
            rcases remapG_get hg with ⟨a, b, t0, c, rfl⟩ | ⟨a, b, c⟩ | ⟨j, t0, rfl, _⟩
            · obtain ⟨i1, i2⟩ := inL_nth hin
              rw [old' k a] at hq
              exact ⟨t0, rfl, told _ t0 p i1 c (by rw [d2 _ i1, i2]; exact hq)⟩
            · rw [hin] at b; cases b
            · have := hltG _ hin; omega
          have newG : ∀ k t, G.length ≤ k → hget (remap L r0.G (backN L G.length) 0 G ++ (r0.G.drop L.length).map (renO (backN L G.length))) k = some t → ∃ j t0, k = G.length + j ∧ j < N ∧ hget r0.G (L.length + j) = some t0 ∧ t = ren (backN L G.length) t0 := fun k t hk hg => by
            rcases remapG_get hg with ⟨a, _⟩ | ⟨a, _⟩ | ⟨j, t0, rfl, a, rfl⟩
            · omega
            · omega
            · have := hget_lt a
              exact ⟨j, t0, rfl, by omega, a, rfl⟩
          have lenH : H.length ≤ L.length := by omega
          refine ⟨ρ', ?_⟩
          exact {
            ext := ⟨fun k p hk => (by
              by_cases hc : G.length ≤ k ∧ k < G.length + N
              · have := hfr k hc.1 (by simp only [List.length_append, remap_len, List.length_map, List.length_drop]; exact hc.2)
                rw [this] at hk
                cases hk
              · show (if _ then _ else _) = _
                rw [if_neg hc]; exact hk), hp.ext.ro⟩
            dom := fun k hk => by
              simp only [List.length_append, remap_len, List.length_map, List.length_drop] at hk
              show (if _ then _ else _) = _
              rw [if_neg (by omega)]
            val := (hR r0.v).2.1 _ hp.val
            sim := fun k t p hk hg hq => by
              rcases hk with hk | hk
              · obtain ⟨j, t0, rfl, hj, a, rfl⟩ := newG k t hk hg
                rw [new' j hj] at hq
                exact hBlk (hp.sim _ t0 p (.inl (by omega)) a hq)
              · obtain ⟨t0, rfl, a, _⟩ := told' k t p hk hg hq
                exact hBlk a
            vac := fun k t hk hg hq => by
              rcases hk with hk | hk
              · obtain ⟨j, t0, rfl, hj, a, rfl⟩ := newG k t hk hg
                rw [new' j hj] at hq
                rw [ren_size]
                exact hp.vac _ t0 (.inl (by omega)) a hq
              · have hin := mask_in hk
                rcases remapG_get hg with ⟨a, b, t0, c, rfl⟩ | ⟨a, b, c⟩ | ⟨j, t0, rfl, _⟩
                · obtain ⟨i1, i2⟩ := inL_nth hin
                  rw [old' k a] at hq
                  rw [ren_size]
                  have hq2 : ρ2 (ixOf L k) = none := by rw [d2 _ i1, i2]; exact hq
                  cases hb : r0.w.testBit (ixOf L k) with
                  | true => exact hp.vac _ t0 (.inr hb) c hq2
                  | false =>
                    have hg1 : hget H (ixOf L k) = some t0 := by rw [← hstat.old _ (by rw [hlen]; exact i1) hb]; exact c
                    exact hsim1.vac _ t0 trivial hg1 (by rw [e1 _ i1, i2]; exact hq)
                · rw [hin] at b; cases b
                · have := hltG _ hin; omega
            new := fun k t p hk hg hq => by
              obtain ⟨j, t0, rfl, hj, a, rfl⟩ := newG k t hk hg
              rw [new' j hj] at hq
              rcases hp.new _ t0 p (by omega) a hq with h1 | ⟨j2, q, c1, c2, c3, c4, c5⟩
              · exact .inl h1
              · have hj2 : j2 < L.length := by omega
                refine .inr ⟨nthL L j2, q, hltG _ (nth_inL hj2), in_mask (nth_inL hj2), ?_, by rw [← e1 j2 hj2]; exact c4, c5⟩
                show hget (_ ++ _) _ = none
                rw [hget_append_left (by rw [remap_len]; exact hltG _ (nth_inL hj2)), remap_get (hltG _ (nth_inL hj2)), Nat.zero_add, nth_inL hj2, cond_true, ix_nth k2 hj2, c3]
                rfl
            inj := fun k k' t t' p p' hk hk' hg hg' hq hq' he => by
              obtain ⟨j, t0, rfl, hj, a, rfl⟩ := newG k t hk hg
              obtain ⟨j', t0', rfl, hj', a', rfl⟩ := newG k' t' hk' hg'
              rw [new' j hj] at hq
              rw [new' j' hj'] at hq'
              have := hp.inj _ _ t0 t0' p p' (by omega) (by omega) a a' hq hq' he
              omega
            frame := fun b hb hne => hp.frame b hb fun j p hj hw hq => by
              have hj2 : j < L.length := by omega
              exact hne (nthL L j) p (hltG _ (nth_inL hj2)) (in_mask (nth_inL hj2)) (by rw [← e1 j hj2]; exact hq)
            size := hp.size
            os := hp.os
            tape := hp.tape
            output := hp.output
            ro := hp.ro
            dis := fun k t p hk hg hq => by
              rcases hk with hk | hk
              · obtain ⟨j, t0, rfl, hj, a, rfl⟩ := newG k t hk hg
                rw [new' j hj] at hq
                exact hp.dis _ t0 p (.inl (by omega)) a hq
              · obtain ⟨t0, rfl, _, a⟩ := told' k t p hk hg hq
                exact a }

/-! ### Which blocks can be reached -/

def addN (L : List Nat) (k : Nat) : List Nat := bif inL L k then L else L ++ [k]
def idsOf : List Nat → T → List Nat
  | L, .ptr id _ => addN L id
  | L, .slice id .. => addN L id
  | L, .fn _ c => idsOf L c
  | L, .opt _ t => idsOf L t
  | L, .tup t => idsOf L t
  | L, .cons h t => idsOf (idsOf L h) t
  | L, _ => L
def idsOfL : List Nat → List T → List Nat
  | L, [] => L
  | L, t :: r => idsOfL (idsOf L t) r
/-- From the names at hand, in turn, those that their blocks hold. -/
def reachN (G : Heap) : Nat → Nat → List Nat → List Nat
  | 0, _, L => L
  | n + 1, i, L => bif Nat.blt i L.length then reachN G n (i + 1) (match hget G (nthL L i) with
    | some t => idsOf L t
    | none => L) else L
def reach (args : List T) (G : Heap) : Option (List Nat) := some (reachN G 40 0 (idsOfL [] args))

end
end Go.AE

/-! Runs between states that are told in full: which blocks are written, which numbers are not wrapped, what is told in other words. No condition. -/
namespace Go.AE
open Go
noncomputable section
variable {P : Program} {env : Env}

/-! ### The same in other words -/

/-- What one state says the other one says too. -/
structure St.le (n0 : Nat) (s s' : St) : Prop where
  tm : ∀ t ρ x, (R ρ (tget s.tm t)).v x → (R ρ (tget s'.tm t)).v x
  len : s'.tm.length = s.tm.length
  glen : s'.G.length = s.G.length
  blk : ∀ k t', hget s'.G k = some t' → ∃ t, hget s.G k = some t ∧ t.size = t'.size ∧ ∀ ρ cs, (R ρ t).c cs → (R ρ t').c cs
  none : ∀ k, hget s'.G k = none → hget s.G k = none
  low : ∀ k, k < n0 → s.w.testBit k = false → hget s'.G k = hget s.G k
  t : s'.t = s.t
  w : s'.w = s.w

theorem Blk.le {ρ : Rho} {t t' : T} {p : Nat × Nat} {w : World} (hs : t.size = t'.size) (h : ∀ cs, (R ρ t).c cs → (R ρ t').c cs) (hb : Blk ρ t p w) : Blk ρ t' p w := by
  obtain ⟨cs, ty, fr, h1, h2, h3, h4, h5⟩ := hb
  exact ⟨cs, ty, fr, h1, h2, by rw [← hs]; exact h3, by rw [← hs]; exact h _ h4, h5⟩

theorem Rl.le {K : Nat → Prop} {ρ0 : Rho} {G0 : Heap} {w0 : World} {dS : List Deferred} {m : Nat} {s s' : St} {a : Act} {w : World} (h : Rl K ρ0 G0 w0 dS m s a w) (hle : St.le G0.length s s') : Rl K ρ0 G0 w0 dS m s' a w := by
  obtain ⟨⟨ρ, hp, htm, hsim⟩, hsz, hdfr, hst, hlen⟩ := h
  have hw : s'.res.w = s.res.w := hle.w
  have ht : s'.res.t = s.res.t := hle.t
  refine ⟨⟨ρ, ?_, fun t => hle.tm t ρ _ (htm t), ?_⟩, hsz, hdfr, ?_, hle.len.trans hlen⟩
  · exact {
      ext := hp.ext
      dom := fun k hk => hp.dom k (by
        have e : s'.res.G.length = s.res.G.length := hle.glen
        rw [e] at hk
        exact hk)
      val := trivial
      sim := fun k t p hk hg hq => by
        obtain ⟨t0, h1, h2, h3⟩ := hle.blk k t hg
        exact (hp.sim k t0 p (by rw [hw] at hk; exact hk) h1 hq).le h2 (h3 ρ)
      vac := fun k t hk hg hq => by
        obtain ⟨t0, h1, h2, h3⟩ := hle.blk k t hg
        rw [← h2]
        exact hp.vac k t0 (by rw [hw] at hk; exact hk) h1 hq
      new := fun k t p hk hg hq => by
        obtain ⟨t0, h1, h2, h3⟩ := hle.blk k t hg
        rcases hp.new k t0 p hk h1 hq with h4 | ⟨j, q, a1, a2, a3, a4, a5⟩
        · exact .inl h4
        · refine .inr ⟨j, q, a1, by rw [hw]; exact a2, ?_, a4, a5⟩
          cases e : hget s'.res.G j with
          | none => rfl
          | some t2 =>
            obtain ⟨t3, h5, _⟩ := hle.blk j t2 e
            have a3' : hget s.G j = Option.none := a3
            rw [a3'] at h5
            cases h5
      inj := fun k k' t t' p p' hk hk' hg hg' hq hq' he => by
        obtain ⟨t0, h1, _⟩ := hle.blk k t hg
        obtain ⟨t1, h2, _⟩ := hle.blk k' t' hg'
        exact hp.inj k k' t0 t1 p p' hk hk' h1 h2 hq hq' he
      frame := fun b hb hne => hp.frame b hb fun k p h1 h2 h3 => hne k p h1 (by rw [hw]; exact h2) h3
      size := hp.size
      os := hp.os
      tape := hp.tape
      output := hp.output
      ro := hp.ro
      dis := fun k t p hk hg hq => by
        obtain ⟨t0, h1, _⟩ := hle.blk k t hg
        exact hp.dis k t0 p (by rw [hw] at hk; exact hk) h1 hq }
  · refine ⟨fun k t p hk hg hq => ?_, fun k t hk hg hq => ?_, fun k k' t t' p p' hk hk' hg hg' hq hq' he => ?_, hsim.ro, fun k t p hk hg hq => ?_⟩
    · obtain ⟨t0, h1, h2, h3⟩ := hle.blk k t hg
      exact (hsim.blk k t0 p hk h1 hq).le h2 (h3 ρ)
    · obtain ⟨t0, h1, h2, h3⟩ := hle.blk k t hg
      rw [← h2]
      exact hsim.vac k t0 hk h1 hq
    · obtain ⟨t0, h1, _⟩ := hle.blk k t hg
      obtain ⟨t1, h2, _⟩ := hle.blk k' t' hg'
      exact hsim.inj k k' t0 t1 p p' hk hk' h1 h2 hq hq' he
    · obtain ⟨t0, h1, _⟩ := hle.blk k t hg
      exact hsim.dis k t0 p hk h1 hq
  · refine ⟨?_, fun k hk hb => ?_, fun k hk hb => ?_⟩
    · have e : s'.res.G.length = s.res.G.length := hle.glen
      rw [e]
      exact hst.len
    · rw [ht]
      exact hst.wt k hk (by rw [← hw]; exact hb)
    · have hb' : s.w.testBit k = false := by rw [← hle.w]; exact hb
      have e : hget s'.res.G k = hget s.G k := hle.low k hk hb'
      rw [e]
      exact hst.old k hk hb'

theorem Tr.weak {n0 : Nat} {c : Code} {s s1 s2 : St} {e : Ex} (h : Tr P n0 c s e s1) (hle : St.le n0 s1 s2) : Tr P n0 c s e s2 := by
  refine ⟨by rw [hle.glen]; exact h.len, fun k hk hb => by rw [hle.t]; exact h.t k hk hb, hle.len.trans h.tm, fun K ρ0 G0 w0 dS m hG g1 g2 a w hR => ?_⟩
  refine wp_mono (h.run K ρ0 G0 w0 dS m hG (fun k hk hb => g1 k hk (by rw [hle.t]; exact hb)) g2 a w hR) ?_
  rintro e' a' w' ⟨rfl, hR'⟩
  exact ⟨rfl, hR'.le (by rw [hG.1]; exact hle)⟩

theorem Tr.weak0 {n0 : Nat} {c : Code} {s s0 s2 : St} {e : Ex} (h : Tr P n0 c s e s2) (hle : St.le n0 s0 s) : Tr P n0 c s0 e s2 := by
  refine ⟨by rw [← hle.glen]; exact h.len, fun k hk hb => h.t k hk (by rw [hle.t]; exact hb), h.tm.trans hle.len, fun K ρ0 G0 w0 dS m hG g1 g2 a w hR => ?_⟩
  exact h.run K ρ0 G0 w0 dS m hG g1 g2 a w (hR.le (by rw [hG.1]; exact hle))

/-! ### More is taken for written -/

theorem Rl.widen {K : Nat → Prop} {ρ0 : Rho} {G0 : Heap} {w0 : World} {dS : List Deferred} {m : Nat} {s : St} {a : Act} {w : World} {n0 : Nat} (h : Rl K ρ0 G0 w0 dS m s a w) (hG : Told n0 G0) {W : Nat} (hW : ∀ k, k < n0 → s.w.testBit k = true → W.testBit k = true)
    (hT : ∀ k, k < n0 → W.testBit k = true → s.t.testBit k = true) (hK : ∀ k, k < G0.length → s.t.testBit k = true → K k) : Rl K ρ0 G0 w0 dS m ⟨s.tm, s.G, true, s.t, W⟩ a w := by
  obtain ⟨⟨ρ, hp, htm, hsim⟩, hsz, hdfr, hst, hlen⟩ := h
  have hKW : ∀ k, k < G0.length → W.testBit k = true → K k := fun k hk hb => hK k hk (hT k (hG.1 ▸ hk) hb)
  have hor : ∀ k, G0.length ≤ k ∨ W.testBit k = true → K k ∨ G0.length ≤ k := fun k hk => by
    rcases hk with hk | hk
    · exact .inr hk
    · rcases Nat.lt_or_ge k G0.length with h | h
      · exact .inl (hKW k h hk)
      · exact .inr h
  refine ⟨⟨ρ, ?_, htm, hsim⟩, hsz, hdfr, ?_, hlen⟩
  · exact {
      ext := hp.ext
      dom := hp.dom
      val := trivial
      sim := fun k t p hk hg hq => hsim.blk k t p (hor k hk) hg hq
      vac := fun k t hk hg hq => hsim.vac k t (hor k hk) hg hq
      new := fun k t p hk hg hq => by
        rcases hp.new k t p hk hg hq with h4 | ⟨j, q, a1, a2, a3, a4, a5⟩
        · exact .inl h4
        · exact .inr ⟨j, q, a1, hW j (hG.1 ▸ a1) a2, a3, a4, a5⟩
      inj := hp.inj
      frame := fun b hb hne => hp.frame b hb fun k p h1 h2 h3 => hne k p h1 (hW k (hG.1 ▸ h1) h2) h3
      size := hp.size
      os := hp.os
      tape := hp.tape
      output := hp.output
      ro := hp.ro
      dis := fun k t p hk hg hq => hsim.dis k t p (hor k hk) hg hq }
  · refine ⟨hst.len, fun k hk hb => ⟨hT k (hG.1 ▸ hk) hb, hG.2 k (hG.1 ▸ hk)⟩, fun k hk hb => ?_⟩
    refine hst.old k hk ?_
    cases e : s.w.testBit k with
    | false => exact e
    | true =>
      have := hW k (hG.1 ▸ hk) e
      have hb' : W.testBit k = false := hb
      rw [this] at hb'
      cases hb'

theorem Tr.widen {n0 : Nat} {c : Code} {s s1 : St} {e : Ex} (h : Tr P n0 c s e s1) {W : Nat} (hW : ∀ k, k < n0 → s1.w.testBit k = true → W.testBit k = true) (hT : ∀ k, k < n0 → W.testBit k = true → s1.t.testBit k = true) :
    Tr P n0 c s e ⟨s1.tm, s1.G, true, s1.t, W⟩ := by
  refine ⟨h.len, h.t, h.tm, fun K ρ0 G0 w0 dS m hG g1 g2 a w hR => ?_⟩
  refine wp_mono (h.run K ρ0 G0 w0 dS m hG g1 g2 a w hR) ?_
  rintro e' a' w' ⟨rfl, hR'⟩
  exact ⟨rfl, hR'.widen hG hW hT g1⟩

theorem Tr.widen0 {n0 : Nat} {c : Code} {s s1 : St} {e : Ex} {W : Nat} (h : Tr P n0 c ⟨s.tm, s.G, true, s.t, W⟩ e s1) (hW : ∀ k, k < n0 → s.w.testBit k = true → W.testBit k = true) (hT : ∀ k, k < n0 → W.testBit k = true → s.t.testBit k = true) :
    Tr P n0 c s e s1 := by
  refine ⟨h.len, h.t, h.tm, fun K ρ0 G0 w0 dS m hG g1 g2 a w hR => ?_⟩
  exact h.run K ρ0 G0 w0 dS m hG g1 g2 a w (hR.widen hG hW hT fun k hk hb => g1 k hk (h.t k (hG.1 ▸ hk) hb))

/-! ### States in full -/

/-- Whole numbers that are not wrapped from here on. -/
def toNum (nm : Nat) : Nat → List T → List T
  | _, [] => []
  | i, t :: r => (bif nm.testBit i then (match t with
    | .int .i64 z => .num z
    | t => t) else t) :: toNum nm (i + 1) r
theorem toNum_len (nm : Nat) : ∀ (i : Nat) (l : List T), (toNum nm i l).length = l.length
  | _, [] => rfl
  | i, _ :: r => by simp [toNum, toNum_len nm (i + 1) r]
theorem toNum_R (nm : Nat) : ∀ (i : Nat) (l : List T) (t : Nat) (ρ : Rho) (x : Value), (R ρ (tget l t)).v x → (R ρ (tget (toNum nm i l) t)).v x
  | _, [], _, _, _, h => h
  | i, y :: r, 0, ρ, x, h => by
    simp only [toNum, tget] at h ⊢
    cases nm.testBit i with
    | false => exact h
    | true =>
      simp only [cond_true]
      split
      · exact h
      · exact h
  | i, _ :: r, t + 1, ρ, x, h => toNum_R nm (i + 1) r t ρ x h

def stW (n0 W : Nat) (tm : List T) (G : Heap) : St := ⟨tm, G, true, 2 ^ n0 - 1, W⟩
def cutW (n0 W N keep nm : Nat) (r : Ex × St) : Ex × Bool × List T × Heap × Bool := (r.1, r.2.vc, toNum nm 0 (tmTrim N keep 0 r.2.tm), r.2.G.take N, Nat.ble N r.2.G.length && Nat.beq ((r.2.w % 2 ^ n0) ||| W) W)
def cutPW (n0 W keep nm : Nat) (r : Ex × St) : Ex × Bool × List T × Heap × Bool := (r.1, r.2.vc, toNum nm 0 (tmTrim r.2.G.length keep 0 r.2.tm), r.2.G, Nat.ble n0 r.2.G.length && Nat.beq ((r.2.w % 2 ^ n0) ||| W) W)

theorem or_sub {a b k n0 : Nat} (h : Nat.beq ((a % 2 ^ n0) ||| b) b = true) (hk : k < n0) (ha : a.testBit k = true) : b.testBit k = true := by
  have h1 := Nat.eq_of_beq_eq_true h
  rw [← h1, Nat.testBit_or, Nat.testBit_mod_two_pow]
  simp [hk, ha]

theorem St.le_num (n0 nm : Nat) (s : St) : St.le n0 s ⟨toNum nm 0 s.tm, s.G, s.vc, s.t, s.w⟩ :=
  ⟨fun t ρ x h => toNum_R nm 0 s.tm t ρ x h, toNum_len _ _ _, rfl, fun k t' h => ⟨t', h, rfl, fun _ _ h => h⟩, fun _ h => h, fun _ _ _ => rfl, rfl, rfl⟩

theorem Tr.evW (henv : EnvOK P env) (hmix : P.follows .mixedOrders = true) {n : Cf} {n0 W : Nat} {c : Code} {tm : List T} {G : Heap} {e : Ex} {vc : Bool} {tm' : List T} {G' : Heap} {N keep nm : Nat}
    (h : (evCode P env n c (stW n0 W tm G)).map (cutW n0 W N keep nm) = some (e, vc, tm', G', true)) (hvc : vc = true) (hn : Nat.ble n0 N = true) (hs : Nat.ble G.length N = true) (hok : heapOK N G' = true) : Tr P n0 c (stW n0 W tm G) e (stW n0 W tm' G') := by
  cases hr : evCode P env n c (stW n0 W tm G) with
  | none => rw [hr] at h; cases h
  | some r =>
    obtain ⟨e1, tm1, G1, vc1, t1, w1⟩ := r
    rw [hr] at h
    simp only [Option.map_some, cutW, Option.some.injEq, Prod.mk.injEq, Bool.and_eq_true] at h
    obtain ⟨rfl, rfl, rfl, rfl, hl, hw⟩ := h
    have h1 := (Tr.of_ev (n0 := n0) (s := stW n0 W tm G) henv hmix hr hvc).trim N keep (2 ^ n0 - 1) w1 hn hs hl hok (fun k hk _ => mask_bit hk) (fun k hk => rfl)
    have h2 := h1.weak (St.le_num n0 nm _)
    exact Tr.widen h2 (W := W) (fun k hk hb => or_sub hw hk hb) (fun k hk _ => mask_bit hk)

/-- The first k parts of code, run by the evaluator, ahead of the rest. -/
theorem Tr.preW (henv : EnvOK P env) (hmix : P.follows .mixedOrders = true) {n : Cf} {n0 W : Nat} (W' : Nat) (k keep nm : Nat) {c : Code} {tm : List T} {G : Heap} {e : Ex} {s2 : St} {vc : Bool} {tm' : List T} {G' : Heap}
    (h : (evCode P env n (preC k c) (stW n0 W tm G)).map (cutPW n0 W' keep nm) = some (.normal, vc, tm', G', true)) (hvc : vc = true) (hok : heapOK G'.length G' = true) (h2 : Tr P n0 (postC k c) (stW n0 W' tm' G') e s2) : Tr P n0 c (stW n0 W tm G) e s2 := by
  cases hr : evCode P env n (preC k c) (stW n0 W tm G) with
  | none => rw [hr] at h; cases h
  | some r =>
    obtain ⟨e1, tm1, G1, vc1, t1, w1⟩ := r
    rw [hr] at h
    simp only [Option.map_some, cutPW, Option.some.injEq, Prod.mk.injEq, Bool.and_eq_true] at h
    obtain ⟨rfl, rfl, rfl, rfl, hl, hw⟩ := h
    have hl := Nat.le_of_ble_eq_true hl
    refine Tr.pre_aux (n0 := n0) henv hmix k c (stW n0 W tm G) hr hvc ?_
    refine Tr.widen0 (s := St.clean ⟨tm1, G1, vc1, t1, w1⟩) (W := W') ?_ (fun k hk hb => or_sub hw hk hb) ?_
    · refine ⟨h2.len, fun k hk _ => h2.t k hk (mask_bit hk), ?_, fun K ρ0 G0 w0 dS m hG g1 g2 a w hR => ?_⟩
      · have := h2.tm
        simp only [stW, toNum_len, tmTrim_len] at this
        exact this
      · refine h2.run K ρ0 G0 w0 dS m hG g1 g2 a w ?_
        have hG1 := hG.1
        have hr1 := hR.trim (n := G1.length) (keep := keep) (t' := 2 ^ n0 - 1) (w' := W') (by omega) (by simpa [St.clean] using hok) g2 (fun k hk _ => mask_bit (by omega)) (fun k hk => rfl) (fun k hk hb => g1 k hk (h2.t k (by omega) hb))
        have hr2 := hr1.le (St.le_num _ nm _)
        unfold St.trim at hr2
        simp only [St.clean, List.take_length] at hr2
        exact hr2
    · intro k hk _
      have hg := evCode_grow henv _ _ _ _ hr
      exact hg.t k (mask_bit hk)

/-! ### Contents that are the same where they count -/

theorem R_ints_congr {k : IntKind} {n : Nat} {f g : Nat → Int} (h : ∀ i, i < n → f i = g i) (ρ : Rho) (cs : List Value) (hc : (R ρ (.ints k n f)).c cs) : (R ρ (.ints k n g)).c cs :=
  ⟨hc.1, fun i hi => by rw [← h i hi]; exact hc.2 i hi⟩
theorem R_fsi_congr {k : IntKind} {n : Nat} {f g : Nat → Int} {cap : Option Nat} (h : ∀ i, i < n → f i = g i) (ρ : Rho) (x : Value) (hx : (R ρ (.fsi k n f cap)).v x) : (R ρ (.fsi k n g cap)).v x :=
  Frz.mono (m := 1) (n := n) (q := fun i cs => cs = [.int k (f i)]) (q' := fun i cs => cs = [.int k (g i)]) (cap := cap) (fun _ _ h => h) (fun i cs hi hq => by rw [← h i hi]; exact hq) hx

/-! ### From here on nobody writes some blocks -/

theorem lendW_size {F : Nat → Bool} {G : Heap} {deep : Bool} {inner : T → Bool × T × Nat} : ∀ t, (lendW F G deep inner t).2.1.size = t.size
  | .cons h t => by simp only [lendW, T.size, lendW_size h, lendW_size t]
  | .slice id path lo m len cap => by
    simp only [lendW]
    cases F id with
    | false => rfl
    | true =>
      simp only [cond_true]
      split
      · split <;> rfl
      · rfl
  | .ptr id path => by
    simp only [lendW]
    cases F id with
    | false => rfl
    | true =>
      simp only [cond_true]
      split
      · split <;> rfl
      · rfl
  | .any | .bool _ | .int .. | .bit .. | .word _ | .str _ | .nilptr | .nilslice | .fn .. | .nilfn | .opt .. | .tup _ | .nil | .rows .. | .ints .. | .abs _ | .num _ | .fsi .. | .fsr .. | .fp _ | .slen _ => rfl
theorem lend_size {F : Nat → Bool} {G : Heap} : ∀ (d : Nat) (t : T), (lend F G d t).2.1.size = t.size
  | 0, t => lendW_size t
  | _ + 1, t => lendW_size t

def frF (n0 mask : Nat) : Nat → Bool := fun k => Nat.ble n0 k && mask.testBit k
def frG (n0 W mask : Nat) (G : Heap) (d : Nat) : Nat → Heap → Heap
  | _, [] => []
  | i, x :: r => (bif frF n0 mask i then none else bif Nat.blt i n0 && !W.testBit i then x else match x with
    | some t => some (lend (frF n0 mask) G d t).2.1
    | none => none) :: frG n0 W mask G d (i + 1) r
def frOK (n0 W mask : Nat) (G : Heap) (d : Nat) : Nat → Heap → Bool
  | _, [] => true
  | i, x :: r => (frF n0 mask i || ((Nat.blt i n0 && !W.testBit i) || match x with
    | some t => (lend (frF n0 mask) G d t).1
    | none => true)) && frOK n0 W mask G d (i + 1) r
def frT (n0 mask : Nat) (G : Heap) (d : Nat) : List T → List T
  | [] => []
  | t :: r => (lend (frF n0 mask) G d t).2.1 :: frT n0 mask G d r
def frTOK (n0 mask : Nat) (G : Heap) (d : Nat) : List T → Bool
  | [] => true
  | t :: r => (lend (frF n0 mask) G d t).1 && frTOK n0 mask G d r

theorem frG_len {n0 W mask : Nat} {G : Heap} {d : Nat} : ∀ {i : Nat} {H : Heap}, (frG n0 W mask G d i H).length = H.length
  | _, [] => rfl
  | i, _ :: r => by simp [frG, frG_len (H := r)]
theorem frT_len {n0 mask : Nat} {G : Heap} {d : Nat} : ∀ {l : List T}, (frT n0 mask G d l).length = l.length
  | [] => rfl
  | _ :: r => by simp [frT, frT_len (l := r)]
theorem frG_get {n0 W mask : Nat} {G : Heap} {d : Nat} : ∀ {i : Nat} {H : Heap} {k : Nat} {t' : T}, frOK n0 W mask G d i H = true → hget (frG n0 W mask G d i H) k = some t' →
    frF n0 mask (i + k) = false ∧ ∃ t, hget H k = some t ∧ ((t' = t ∧ i + k < n0 ∧ W.testBit (i + k) = false) ∨ ((lend (frF n0 mask) G d t).1 = true ∧ t' = (lend (frF n0 mask) G d t).2.1))
  | i, x :: r, 0, t', ho, hg => by
    simp only [frOK, Bool.and_eq_true] at ho
    simp only [frG, hget] at hg
    cases hF : frF n0 mask i with
    | true => rw [hF] at hg; cases hg
    | false =>
      rw [hF] at hg ho
      simp only [cond_false, Bool.false_or] at hg ho
      refine ⟨rfl, ?_⟩
      cases hb : (Nat.blt i n0 && !W.testBit i) with
      | true =>
        rw [hb] at hg
        simp only [Bool.and_eq_true, Bool.not_eq_true'] at hb
        exact ⟨t', hg, .inl ⟨rfl, by simpa using hb.1, hb.2⟩⟩
      | false =>
        rw [hb] at hg ho
        cases x with
        | none => cases hg
        | some t =>
          cases hg
          exact ⟨t, rfl, .inr ⟨by simpa using ho.1, rfl⟩⟩
  | i, x :: r, k + 1, t', ho, hg => by
    simp only [frOK, Bool.and_eq_true] at ho
    simp only [frG, hget] at hg
    have := frG_get (i := i + 1) (k := k) ho.2 hg
    rw [show i + 1 + k = i + (k + 1) by omega] at this
    exact this
  | _, [], _, _, _, hg => by cases hg
theorem frG_low {n0 W mask : Nat} {G : Heap} {d : Nat} : ∀ {i : Nat} {H : Heap} {k : Nat}, i + k < n0 → W.testBit (i + k) = false → hget (frG n0 W mask G d i H) k = hget H k
  | i, x :: r, 0, h, hW => by
    have hF : frF n0 mask i = false := by
      unfold frF
      cases hb : Nat.ble n0 i with
      | false => rfl
      | true => have := Nat.le_of_ble_eq_true hb; omega
    have hb : (Nat.blt i n0 && !W.testBit i) = true := by
      simp only [Bool.and_eq_true, Bool.not_eq_true']
      exact ⟨by simpa using h, hW⟩
    simp only [frG, hget, hF, hb, cond_false, cond_true]
  | i, x :: r, k + 1, h, hW => by
    simp only [frG, hget]
    exact frG_low (i := i + 1) (by omega) (by rw [show i + 1 + k = i + (k + 1) by omega]; exact hW)
  | _, [], _, _, _ => rfl
theorem frT_get {n0 mask : Nat} {G : Heap} {d : Nat} : ∀ {l : List T} {t : Nat}, frTOK n0 mask G d l = true → (tget (frT n0 mask G d l) t = .any ∨ ((lend (frF n0 mask) G d (tget l t)).1 = true ∧ tget (frT n0 mask G d l) t = (lend (frF n0 mask) G d (tget l t)).2.1))
  | [], _, _ => .inl rfl
  | _ :: _, 0, h => by
    simp only [frTOK, Bool.and_eq_true] at h
    exact .inr ⟨h.1, rfl⟩
  | _ :: r, t + 1, h => by
    simp only [frTOK, Bool.and_eq_true] at h
    exact frT_get (l := r) (t := t) h.2

open Classical in
theorem Rl.freeze {K : Nat → Prop} {ρ0 : Rho} {G0 : Heap} {w0 : World} {dS : List Deferred} {m : Nat} {s : St} {a : Act} {w : World} {n0 : Nat} (h : Rl K ρ0 G0 w0 dS m s a w) (hG : Told n0 G0) (mask d : Nat)
    (hok : frOK n0 s.w mask s.G d 0 s.G = true) (hokT : frTOK n0 mask s.G d s.tm = true) (hall : ∀ j, j < n0 → ∃ t, hget s.G j = some t) (hK : ∀ k, k < G0.length → s.t.testBit k = true → K k) (hT : ∀ k, k < n0 → s.t.testBit k = true) :
    Rl K ρ0 G0 w0 dS m ⟨frT n0 mask s.G d s.tm, frG n0 s.w mask s.G d 0 s.G, true, s.t, s.w⟩ a w := by
  obtain ⟨⟨ρ, hp, htm, hsim⟩, hsz, hdfr, hst, hlen⟩ := h
  let F := frF n0 mask
  have hF0 : ∀ k, F k = true → n0 ≤ k := fun k hk => by
    have hk' : (Nat.ble n0 k && mask.testBit k) = true := hk
    simp only [Bool.and_eq_true] at hk'
    exact Nat.le_of_ble_eq_true hk'.1
  -- the blocks of these names
  let isF : Nat → Prop := fun b => ∃ k t p, F k = true ∧ hget s.G k = some t ∧ ρ k = some p ∧ p.1 = b
  let ρ' : Rho := ⟨ρ.ids, fun b => if isF b then allRo w b else ρ.ro b⟩
  have all : ∀ k, K k ∨ G0.length ≤ k → K k ∨ G0.length ≤ k := fun _ h => h
  have inK : ∀ k, K k ∨ G0.length ≤ k := fun k => by
    rcases Nat.lt_or_ge k G0.length with h | h
    · exact .inl (hK k h (hT k (hG.1 ▸ h)))
    · exact .inr h
  have old : ∀ b, isF b → ρ.ro b = none := fun b ⟨k, t, p, h1, h2, h3, h4⟩ => by
    rw [← h4]
    exact hsim.dis k t p (inK k) h2 h3
  have hro : ∀ b cs, ρ.ro b = some cs → ρ'.ro b = some cs := fun b cs hb => by
    show (if _ then _ else _) = _
    rw [if_neg (fun hf => by rw [old b hf] at hb; cases hb)]
    exact hb
  have hext : ρ.Ext ρ' := ⟨fun _ _ h => h, hro⟩
  have roOK : RoOK ρ' w := fun b cs hb => by
    have hb' : (if isF b then allRo w b else ρ.ro b) = some cs := hb
    by_cases hf : isF b
    · rw [if_pos hf] at hb'
      exact allRo_ok w (fun _ => none) b cs hb'
    · rw [if_neg hf] at hb'
      exact hsim.ro b cs hb'
  have hnew : ∀ b cs, ρ'.ro b = some cs → ρ.ro b = some cs ∨ (w0.heap.size ≤ b ∧ isF b) := fun b cs hb => by
    have hb' : (if isF b then allRo w b else ρ.ro b) = some cs := hb
    by_cases hf : isF b
    · refine .inr ⟨?_, hf⟩
      obtain ⟨k, t, p, h1, h2, h3, h4⟩ := hf
      rcases hp.new k t p (by rw [hG.1]; exact hF0 k h1) h2 h3 with h5 | ⟨j, q, a1, a2, a3, a4, a5⟩
      · omega
      · obtain ⟨t2, h6⟩ := hall j (hG.1 ▸ a1)
        have a3' : hget s.G j = none := a3
        rw [a3'] at h6
        cases h6
    · rw [if_neg hf] at hb'
      exact .inl hb'
  have hsimK : Sim (bitK (2 ^ s.G.length - 1)) ρ s.G w := hsim.weak fun k _ _ => inK k
  have lnd : ∀ t, (lend F s.G d t).1 = true → Lent ρ ρ' t (lend F s.G d t).2.1 := by
    intro t ht
    -- only names of F are looked at, and all of them have blocks
    have hl : ∀ id p t cs ty fr, F id = true → hget s.G id = some t → ρ id = some p → w.heap[p.1]? = some (.cells cs ty fr) → ρ'.ro p.1 = some cs := fun id p t cs ty fr hf hg hq hw => by
      have : isF p.1 := ⟨id, t, p, hf, hg, hq, rfl⟩
      show (if _ then _ else _) = _
      rw [if_pos this]
      simp [allRo, hw]
    exact lend_soundF (ρ := ρ) (ρ1 := ρ') rfl hro hsim inK (fun id p t cs ty fr h _ => hl id p t cs ty fr h) d t ht
  have apart : ∀ k t p, F k = false → hget s.G k = some t → ρ k = some p → ρ'.ro p.1 = none := fun k t p hf hg hq => by
    have : ¬ isF p.1 := fun ⟨k2, t2, p2, h1, h2, h3, h4⟩ => by
      have := hsim.inj k2 k t2 t p2 p (inK k2) (inK k) h2 hg h3 hq h4
      subst this
      rw [h1] at hf
      cases hf
    show (if _ then _ else _) = _
    rw [if_neg this]
    exact hsim.dis k t p (inK k) hg hq
  have ent : ∀ k t', hget (frG n0 s.w mask s.G d 0 s.G) k = some t' → F k = false ∧ ∃ t, hget s.G k = some t ∧ t.size = t'.size ∧ (∀ cs, (R ρ t).c cs → (R ρ' t').c cs) := fun k t' hg => by
    obtain ⟨h1, t, h2, h3⟩ := frG_get hok hg
    rw [Nat.zero_add] at h1
    refine ⟨h1, t, h2, ?_⟩
    rcases h3 with ⟨rfl, _, _⟩ | ⟨h4, rfl⟩
    · exact ⟨rfl, fun cs hc => R_c_mono hext hc⟩
    · exact ⟨(lend_size d t).symm, (lnd t h4).1⟩
  refine ⟨⟨ρ', ?_, fun t => ?_, ?_⟩, hsz, hdfr, ?_, frT_len.trans hlen⟩
  · exact {
      ext := hp.ext.trans hext
      dom := fun k hk => hp.dom k (by
        rcases hk with hk | hk
        · exact .inl hk
        · refine .inr ?_
          have hk' : (frG n0 s.w mask s.G d 0 s.G).length ≤ k := hk
          rw [frG_len] at hk'
          exact hk')
      val := trivial
      sim := fun k t' p hk hg hq => by
        obtain ⟨h1, t, h2, h3, h4⟩ := ent k t' hg
        obtain ⟨cs, ty, fr, b1, b2, b3, b4, b5⟩ := hsim.blk k t p (inK k) h2 hq
        exact ⟨cs, ty, fr, b1, b2, by rw [← h3]; exact b3, by rw [← h3]; exact h4 _ b4, b5⟩
      vac := fun k t' hk hg hq => by
        obtain ⟨h1, t, h2, h3, h4⟩ := ent k t' hg
        rw [← h3]
        exact hsim.vac k t (inK k) h2 hq
      new := fun k t' p hk hg hq => by
        obtain ⟨h1, t, h2, h3, h4⟩ := ent k t' hg
        rcases hp.new k t p hk h2 hq with h5 | ⟨j, q, a1, a2, a3, a4, a5⟩
        · exact .inl h5
        · obtain ⟨t2, h6⟩ := hall j (hG.1 ▸ a1)
          have a3' : hget s.G j = none := a3
          rw [a3'] at h6
          cases h6
      inj := fun k k' t t' p p' hk hk' hg hg' hq hq' he => by
        obtain ⟨_, t0, h2, _⟩ := ent k t hg
        obtain ⟨_, t1, h2', _⟩ := ent k' t' hg'
        exact hp.inj k k' t0 t1 p p' hk hk' h2 h2' hq hq' he
      frame := hp.frame
      size := hp.size
      os := hp.os
      tape := hp.tape
      output := hp.output
      ro := fun b cs hb => by
        rcases hnew b cs hb with h1 | ⟨h1, _⟩
        · exact hp.ro b cs h1
        · exact .inr ⟨h1, roOK b cs hb⟩
      dis := fun k t' p hk hg hq => by
        obtain ⟨h1, t, h2, _⟩ := ent k t' hg
        exact apart k t p h1 h2 hq }
  · rcases frT_get (n0 := n0) (mask := mask) (G := s.G) (d := d) (l := s.tm) (t := t) hokT with h1 | ⟨h1, h2⟩
    · show (R ρ' (tget (frT n0 mask s.G d s.tm) t)).v _
      rw [h1]; trivial
    · show (R ρ' (tget (frT n0 mask s.G d s.tm) t)).v _
      rw [h2]
      exact (lnd _ h1).2.1 _ (htm t)
  · refine ⟨fun k t' p _ hg hq => ?_, fun k t' _ hg hq => ?_, fun k k' t t' p p' _ _ hg hg' hq hq' he => ?_, roOK, fun k t' p _ hg hq => ?_⟩
    · obtain ⟨h1, t, h2, h3, h4⟩ := ent k t' hg
      obtain ⟨cs, ty, fr, b1, b2, b3, b4, b5⟩ := hsim.blk k t p (inK k) h2 hq
      exact ⟨cs, ty, fr, b1, b2, by rw [← h3]; exact b3, by rw [← h3]; exact h4 _ b4, b5⟩
    · obtain ⟨h1, t, h2, h3, h4⟩ := ent k t' hg
      rw [← h3]
      exact hsim.vac k t (inK k) h2 hq
    · obtain ⟨_, t0, h2, _⟩ := ent k t hg
      obtain ⟨_, t1, h2', _⟩ := ent k' t' hg'
      exact hsim.inj k k' t0 t1 p p' (inK k) (inK k') h2 h2' hq hq' he
    · obtain ⟨h1, t, h2, _⟩ := ent k t' hg
      exact apart k t p h1 h2 hq
  · refine ⟨?_, hst.wt, fun k hk hb => ?_⟩
    · show G0.length ≤ (frG n0 s.w mask s.G d 0 s.G).length
      rw [frG_len]
      exact hst.len
    · show hget (frG n0 s.w mask s.G d 0 s.G) k = hget G0 k
      rw [frG_low (by rw [Nat.zero_add, ← hG.1]; exact hk) (by rw [Nat.zero_add]; exact hb)]
      exact hst.old k hk hb

/-- Some blocks are written no more. -/
theorem Tr.freeze {n0 W : Nat} {c : Code} {tm : List T} {G : Heap} {e : Ex} {s2 : St} (mask d : Nat) (h : Tr P n0 c (stW n0 W (frT n0 mask G d tm) (frG n0 W mask G d 0 G)) e s2)
    (hok : frOK n0 W mask G d 0 G = true) (hokT : frTOK n0 mask G d tm = true) (hall : ∀ j, j < n0 → ∃ t, hget G j = some t) : Tr P n0 c (stW n0 W tm G) e s2 := by
  refine ⟨?_, fun k hk _ => h.t k hk (mask_bit hk), ?_, fun K ρ0 G0 w0 dS m hG g1 g2 a w hR => ?_⟩
  · have := h.len
    simp only [stW, frG_len] at this
    exact this
  · have := h.tm
    simp only [stW, frT_len] at this
    exact this
  · exact h.run K ρ0 G0 w0 dS m hG g1 g2 a w (Rl.freeze (s := stW n0 W tm G) hR hG mask d hok hokT hall (fun k hk hb => g1 k hk (h.t k (hG.1 ▸ hk) (mask_bit (hG.1 ▸ hk)))) fun k hk => mask_bit hk)

end
end Go.AE

/-! What a law is told. No condition. -/

/-! What a law is told: whole numbers, arrays and slices of them that came in; and that it answers true. No condition. -/
namespace Go.AE
open Go Go.RowKit Go.ChangeShapes Go.WideShapes
noncomputable section

theorem Post.below0 {ρ ρ' : Rho} {w w' : World} {r : Res} {v' : Value} (h : Post ρ ρ' [] w r v' w') : Below w.heap.size w w' :=
  ⟨h.os, h.tape, h.output, h.size, fun k hk => h.frame k hk fun j p hj => absurd hj (by simp)⟩

/-- All that came in is what nobody writes. -/
def rhoIn (w : World) : Rho := ⟨fun _ => none, allRo w⟩

/-- A law answers true at these arguments. -/
def Answers (P : Program) (f : FuncId) (args : List T) : Prop := ∃ m, SoundV P f m ∧ ∃ r, m args = some r ∧ r.vc = true ∧ r.v = .bool true



theorem Answers.tells {P : Program} {f : FuncId} {args : List T} (h : Answers P f args) {fn : Func} (hf : P.funcs[f]? = some fn) (hname : (fn.name == "runtime.NumGoroutine") = false) (hbody : fn.body.isNone = false)
    {w : World} {xs : List Value} (hx : VLs (rhoIn w) args xs) : Tells P f xs w := by
  obtain ⟨m, hm, r, h1, h2, h3⟩ := h
  have hd := hm.lands args r h1 h2 (rhoIn w) w xs (fun _ => rfl) (allRo_ok w _) hx
  simp only [callFunc, Sem.run_bind, run_program, Result.andThen_ok, hf, hname, hbody] at hd
  refine Calls.mono hd ?_
  rintro e w' ⟨v, rfl, ρ', hp, _⟩
  have hv := hp.val
  rw [h3] at hv
  have hv' : v = .bool true := hv
  exact ⟨by rw [hv'], hp.below0⟩

section data
variable {H : Type} {enc : TypeId × Value → H} {P : Program}

/-- A slice of whole numbers that came in. -/
theorem open_fsi {W : World} {base base' : Nat} {sp : Nat → Bool} {held : Bool} {r : Reach} {t e : TypeId} {q : IntKind} (ht : P.underlying t = some (.slice e)) (he : P.underlying e = some (.int q)) (hc : P.cellsOf e = 1)
    {v : Value} {d : DataW H} {ps : List MemPlace} (hval : Value.okWide P W r base' t v) (hd : DataW.Trod enc P W base sp held t v d ps) :
    ∃ (n : Nat) (f : Nat → Int), (R (rhoIn W) (.fsi q n f none)).v v ∧ n ≤ 9223372036854775807 ∧ ∀ i, (Lit.int q (f i)).wf = true := by
  obtain ⟨a0, len0, cap0, rfl⟩ := okWide_slice ht hval
  obtain ⟨fuel, hf⟩ := hd
  have h0 : (Lit.int q 0).wf = true := by cases q <;> decide
  rcases open_ints ht he hc hf with ⟨h1, _⟩ | ⟨a, len, cap, zs, h1, _, h2, h3, h4, _, h5, h6⟩
  · simp only [Value.cells] at h1
    have h1' : Value.slice a0 len0 cap0 = .slice none 0 0 := by simpa using h1
    rw [h1']
    exact ⟨0, fun _ => 0, ⟨none, 0, rfl, Nat.le_refl _, (fun _ h => by cases h), (fun h => absurd h (by omega))⟩, by omega, fun _ => h0⟩
  · simp only [Value.cells] at h1
    have h1' : Value.slice a0 len0 cap0 = .slice (some a) len cap := by simpa using h1
    rw [h1']
    have hlz : len ≤ zs.length := by rw [h4]; split <;> omega
    refine ⟨len, fun i => zs.getD i 0, ⟨some a, cap, rfl, h2, (fun _ h => by cases h), (fun h => ?_)⟩, ?_, fun i => ?_⟩
    · obtain ⟨b, off, rfl, h7⟩ := ints_at h5 (by omega)
      have h8 := h7 0 (by omega)
      unfold World.cell? at h8
      split at h8
      · rename_i cs ty fr hw
        have hall : allRo W b = some cs := by
          unfold allRo
          have hw' : W.heap[b]? = some (.cells cs ty fr) := hw
          rw [hw']
        have key : ∀ j, j < zs.length → cs[off + j]? = some (.int q (zs.getD j 0)) := fun j hj => by
          have h9 := h7 j hj
          unfold World.cell? at h9
          have hw' : W.heap[b]? = some (.cells cs ty fr) := hw
          simpa [hw'] using h9
        refine ⟨b, off, cs, rfl, hall, ?_, fun i hi => ?_⟩
        · have := key (len - 1) (by omega)
          have h10 := (Array.getElem?_eq_some_iff.1 this).1
          omega
        · have := key i (by omega)
          obtain ⟨h10, h11⟩ := Array.getElem?_eq_some_iff.1 this
          rw [Nat.mul_one]
          unfold cut
          rw [List.drop_eq_getElem_cons (by simpa using h10)]
          simp only [List.take_succ_cons, List.take_zero, Array.getElem_toList]
          rw [h11]
      · cases h8
    · unfold maxLen at h3
      omega
    · show (Lit.int q (zs.getD i 0)).wf = true
      by_cases hi : i < zs.length
      · have e : zs.getD i 0 = zs[i] := by simp [List.getD, hi]
        rw [e]
        exact h6 _ (List.getElem_mem hi)
      · have e : zs.getD i 0 = 0 := by simp [List.getD, List.getElem?_eq_none (by omega : zs.length ≤ i)]
        rw [e]
        exact h0
end data


end
end Go.AE

/-! The blocks behind a run under other names. No condition. -/
namespace Go.AE
open Go
noncomputable section
variable {P : Program}

def pickTm (L : List Nat) (keep : Nat) : Nat → List T → List T
  | _, [] => []
  | i, t :: r => (bif keep.testBit i && idsL L t then ren (ixOf L) t else .any) :: pickTm L keep (i + 1) r
/-- A told block that was not written stays as it is told. -/
def keepE (n0 W j : Nat) : Bool := Nat.blt j n0 && !W.testBit j
def pickH (n0 W : Nat) (L : List Nat) (G : Heap) : Nat → List Nat → Heap
  | _, [] => []
  | j, k :: r => (bif keepE n0 W j then hget G j else renO (ixOf L) (hget G k)) :: pickH n0 W L G (j + 1) r
def pickOK (n0 W : Nat) (L : List Nat) (G : Heap) : Nat → List Nat → Bool
  | _, [] => true
  | j, k :: r => (match hget G k with
      | some t => bif keepE n0 W j then idsB n0 t else idsL L t
      | none => true) && ((!Nat.blt j n0 || Nat.beq k j) && pickOK n0 W L G (j + 1) r)

theorem pickTm_len (L : List Nat) (keep : Nat) : ∀ (i : Nat) (l : List T), (pickTm L keep i l).length = l.length
  | _, [] => rfl
  | i, _ :: r => by simp [pickTm, pickTm_len L keep (i + 1) r]
theorem pickTm_get (L : List Nat) (keep : Nat) : ∀ (i : Nat) (l : List T) (t : Nat), tget (pickTm L keep i l) t = .any ∨ (tget (pickTm L keep i l) t = ren (ixOf L) (tget l t) ∧ idsL L (tget l t) = true)
  | _, [], _ => .inl rfl
  | i, x :: r, 0 => by
    simp only [pickTm, tget]
    cases h : (keep.testBit i && idsL L x)
    · exact .inl rfl
    · simp only [Bool.and_eq_true] at h; exact .inr ⟨rfl, h.2⟩
  | i, _ :: r, t + 1 => pickTm_get L keep (i + 1) r t
theorem pickH_len {n0 W : Nat} {L : List Nat} {G : Heap} : ∀ {i : Nat} {M : List Nat}, (pickH n0 W L G i M).length = M.length
  | _, [] => rfl
  | i, _ :: r => by simp [pickH, pickH_len (i := i + 1) (M := r)]
theorem pickH_get {n0 W : Nat} {L : List Nat} {G : Heap} : ∀ {i : Nat} {M : List Nat} {j : Nat}, j < M.length →
    hget (pickH n0 W L G i M) j = bif keepE n0 W (i + j) then hget G (i + j) else renO (ixOf L) (hget G (nthL M j))
  | i, k :: r, 0, _ => rfl
  | i, k :: r, j + 1, h => by
    simp only [pickH, hget, nthL]
    rw [pickH_get (i := i + 1) (M := r) (j := j) (by simpa using h), show i + 1 + j = i + (j + 1) by omega]
theorem pickOK_get {n0 W : Nat} {L : List Nat} {G : Heap} : ∀ {i : Nat} {M : List Nat} {j : Nat}, pickOK n0 W L G i M = true → j < M.length →
    (i + j < n0 → nthL M j = i + j) ∧ ∀ t, hget G (nthL M j) = some t → (bif keepE n0 W (i + j) then idsB n0 t else idsL L t) = true
  | i, k :: r, 0, h, _ => by
    simp only [pickOK, Bool.and_eq_true, Bool.or_eq_true, Bool.not_eq_true'] at h
    refine ⟨fun hi => ?_, fun t ht => ?_⟩
    · rcases h.2.1 with h1 | h1
      · have : Nat.blt i n0 = true := by simpa using hi
        rw [this] at h1; cases h1
      · exact Nat.eq_of_beq_eq_true h1
    · have h1 := h.1
      simp only [nthL] at ht
      rw [ht] at h1
      exact h1
  | i, k :: r, j + 1, h, hj => by
    simp only [pickOK, Bool.and_eq_true] at h
    have := pickOK_get (i := i + 1) (M := r) (j := j) h.2.2 (by simpa using hj)
    rw [show i + 1 + j = i + (j + 1) by omega] at this
    exact this

/-- Names anew. -/
def Rho.pick (ρ : Rho) (L : List Nat) : Rho := ⟨fun j => bif Nat.blt j L.length then ρ (nthL L j) else none, ρ.ro⟩
theorem Rho.pick_in {ρ : Rho} {L : List Nat} {j : Nat} (h : j < L.length) : ρ.pick L j = ρ (nthL L j) := by
  simp only [Rho.pick]
  rw [show Nat.blt j L.length = true from by simpa using h]
  rfl
theorem Rho.pick_out {ρ : Rho} {L : List Nat} {j : Nat} (h : L.length ≤ j) : ρ.pick L j = none := by
  simp only [Rho.pick]
  cases hb : Nat.blt j L.length with
  | false => rfl
  | true =>
    have : j < L.length := by simpa using hb
    omega

theorem Rl.pick {K : Nat → Prop} {ρ0 : Rho} {G0 : Heap} {w0 : World} {dS : List Deferred} {m : Nat} {s : St} {a : Act} {w : World} (h : Rl K ρ0 G0 w0 dS m s a w) {n0 : Nat} (hG : Told n0 G0) (L : List Nat) (keep : Nat)
    (hn : n0 ≤ L.length) (hd : dupFree L = true) (hok : pickOK n0 s.w L s.G 0 L = true) (hfr : ∀ k, G0.length ≤ k → ρ0 k = none) :
    Rl K ρ0 G0 w0 dS m ⟨pickTm L keep 0 s.tm, pickH n0 s.w L s.G 0 L, true, s.t, s.w⟩ a w := by
  obtain ⟨⟨ρ, hp, htm, hsim⟩, hsz, hdfr, hst, hlen⟩ := h
  have hG1 := hG.1
  have hσ : ∀ id p, inL L id = true → ρ id = some p → (ρ.pick L) (ixOf L id) = some p := fun id p hi he => by
    obtain ⟨h1, h2⟩ := inL_nth hi
    rw [Rho.pick_in h1, h2]
    exact he
  have told : ∀ j, j < n0 → nthL L j = j := fun j hj => by
    have := (pickOK_get (i := 0) hok (j := j) (by omega)).1 (by omega)
    rw [Nat.zero_add] at this
    exact this
  have low : ∀ j, j < n0 → ρ.pick L j = ρ j := fun j hj => by rw [Rho.pick_in (by omega), told j hj]
  have high : ∀ j, n0 ≤ j → j < L.length → n0 ≤ nthL L j := fun j h1 h2 => by
    rcases Nat.lt_or_ge (nthL L j) n0 with h3 | h3
    · have h4 := told _ h3
      have h5 := ix_nth hd h2
      have h6 := ix_nth hd (j := nthL L j) (by omega)
      rw [h4, h5] at h6
      omega
    · exact h3
  have hcut : (ρ.cut n0).Ext (ρ.pick L) := ⟨(fun k p hk => by
    simp only [Rho.cut] at hk
    split at hk
    · rename_i hlt
      rw [low k hlt]; exact hk
    · cases hk), fun _ _ h => h⟩
  have len : (pickH n0 s.w L s.G 0 L).length = L.length := pickH_len
  have ent : ∀ j t', hget (pickH n0 s.w L s.G 0 L) j = some t' → j < L.length ∧ ∃ t, hget s.G (nthL L j) = some t ∧ t.size = t'.size ∧ ∀ cs, (R ρ t).c cs → (R (ρ.pick L) t').c cs := fun j t' hg => by
    have hj : j < L.length := by rw [← len]; exact hget_lt hg
    refine ⟨hj, ?_⟩
    rw [pickH_get hj, Nat.zero_add] at hg
    have hk := (pickOK_get (i := 0) hok hj).2
    rw [Nat.zero_add] at hk
    cases e : keepE n0 s.w j with
    | true =>
      rw [e] at hg
      have e' := e
      unfold keepE at e'
      simp only [Bool.and_eq_true] at e'
      have hlt : j < n0 := by simpa using e'.1
      refine ⟨t', by rw [told j hlt]; exact hg, rfl, fun cs hc => ?_⟩
      have h1 := hk t' (by rw [told j hlt]; exact hg)
      rw [e] at h1
      exact R_c_mono hcut ((idsB_R h1 ρ).1 _ hc)
    | false =>
      rw [e] at hg
      simp only [cond_false] at hg
      cases e2 : hget s.G (nthL L j) with
      | none => rw [e2] at hg; cases hg
      | some t =>
        rw [e2] at hg
        cases hg
        have h1 := hk t e2
        rw [e] at h1
        exact ⟨t, rfl, (ren_size _ _).symm, fun cs hc => (R_renL hσ (fun _ _ h => h) h1).1 _ hc⟩
  have wide : ∀ j, (n0 ≤ j ∨ s.w.testBit j = true) → j < L.length → n0 ≤ nthL L j ∨ s.w.testBit (nthL L j) = true := fun j h1 h2 => by
    rcases Nat.lt_or_ge j n0 with h3 | h3
    · right; rw [told j h3]; exact h1.resolve_left (by omega)
    · exact .inl (high j h3 h2)
  have wideK : ∀ j, (K j ∨ G0.length ≤ j) → j < L.length → K (nthL L j) ∨ G0.length ≤ nthL L j := fun j h1 h2 => by
    rcases Nat.lt_or_ge j n0 with h3 | h3
    · rw [told j h3]; exact h1
    · right; rw [hG1]; exact high j h3 h2
  have inj : ∀ j j', j < L.length → j' < L.length → nthL L j = nthL L j' → j = j' := fun j j' h1 h2 h3 => by
    have h4 := ix_nth hd h1
    rw [h3, ix_nth hd h2] at h4
    exact h4.symm
  have blk : ∀ j t' p, hget (pickH n0 s.w L s.G 0 L) j = some t' → (∀ t, hget s.G (nthL L j) = some t → Blk ρ t p w) → Blk (ρ.pick L) t' p w := fun j t' p hg hb => by
    obtain ⟨hj, t, h1, h2, h3⟩ := ent j t' hg
    obtain ⟨cs, ty, fr, b1, b2, b3, b4, b5⟩ := hb t h1
    exact ⟨cs, ty, fr, b1, b2, by rw [← h2]; exact b3, by rw [← h2]; exact h3 _ b4, b5⟩
  refine ⟨⟨ρ.pick L, ?_, fun t => ?_, ?_⟩, hsz, hdfr, ?_, (pickTm_len _ _ _ _).trans hlen⟩
  · exact {
      ext := ⟨(fun k p hk => by
        rcases Nat.lt_or_ge k n0 with h1 | h1
        · rw [low k h1]; exact hp.ext k p hk
        · rw [hfr k (by omega)] at hk; cases hk), hp.ext.ro⟩
      dom := fun k hk => by
        rcases hk with hk | hk
        · rw [low k (by omega)]; exact hp.dom k (.inl hk)
        · have hk' : (pickH n0 s.w L s.G 0 L).length ≤ k := hk
          rw [len] at hk'
          rw [Rho.pick_out hk', hfr k (by omega)]
      val := trivial
      sim := fun k t p hk hg hq => by
        have hj := (ent k t hg).1
        rw [Rho.pick_in hj] at hq
        rw [hG1] at hk
        exact blk k t p hg fun t0 h0 => hp.sim _ t0 p (by rw [hG1]; exact wide k hk hj) h0 hq
      vac := fun k t hk hg hq => by
        obtain ⟨hj, t0, h1, h2, _⟩ := ent k t hg
        rw [Rho.pick_in hj] at hq
        rw [hG1] at hk
        rw [← h2]
        exact hp.vac _ t0 (by rw [hG1]; exact wide k hk hj) h1 hq
      new := fun k t p hk hg hq => by
        obtain ⟨hj, t0, h1, h2, _⟩ := ent k t hg
        rw [Rho.pick_in hj] at hq
        rcases hp.new _ t0 p (by rw [hG1]; exact high k (by omega) hj) h1 hq with h4 | ⟨j, q, a1, a2, a3, a4, a5⟩
        · exact .inl h4
        · refine .inr ⟨j, q, a1, a2, ?_, a4, a5⟩
          show hget (pickH n0 s.w L s.G 0 L) j = none
          cases e : hget (pickH n0 s.w L s.G 0 L) j with
          | none => rfl
          | some t2 =>
            obtain ⟨_, t3, h5, _⟩ := ent j t2 e
            rw [told j (by omega)] at h5
            have a3' : hget s.G j = Option.none := a3
            rw [a3'] at h5
            cases h5
      inj := fun k k' t t' p p' hk hk' hg hg' hq hq' he => by
        obtain ⟨hj, t0, h1, _⟩ := ent k t hg
        obtain ⟨hj', t1, h2, _⟩ := ent k' t' hg'
        rw [Rho.pick_in hj] at hq
        rw [Rho.pick_in hj'] at hq'
        exact inj k k' hj hj' (hp.inj _ _ t0 t1 p p' (by rw [hG1]; exact high k (by omega) hj) (by rw [hG1]; exact high k' (by omega) hj') h1 h2 hq hq' he)
      frame := hp.frame
      size := hp.size
      os := hp.os
      tape := hp.tape
      output := hp.output
      ro := hp.ro
      dis := fun k t p hk hg hq => by
        obtain ⟨hj, t0, h1, _⟩ := ent k t hg
        rw [Rho.pick_in hj] at hq
        rw [hG1] at hk
        exact hp.dis _ t0 p (by rw [hG1]; exact wide k hk hj) h1 hq }
  · rcases pickTm_get L keep 0 s.tm t with h1 | ⟨h1, h2⟩
    · show (R _ (tget (pickTm L keep 0 s.tm) t)).v _
      rw [h1]; trivial
    · show (R _ (tget (pickTm L keep 0 s.tm) t)).v _
      rw [h1]
      exact (R_renL hσ (fun _ _ h => h) h2).2.1 _ (htm t)
  · refine ⟨fun k t p hk hg hq => ?_, fun k t hk hg hq => ?_, fun k k' t t' p p' hk hk' hg hg' hq hq' he => ?_, hsim.ro, fun k t p hk hg hq => ?_⟩
    · have hj := (ent k t hg).1
      rw [Rho.pick_in hj] at hq
      exact blk k t p hg fun t0 h0 => hsim.blk _ t0 p (wideK k hk hj) h0 hq
    · obtain ⟨hj, t0, h1, h2, _⟩ := ent k t hg
      rw [Rho.pick_in hj] at hq
      rw [← h2]
      exact hsim.vac _ t0 (wideK k hk hj) h1 hq
    · obtain ⟨hj, t0, h1, _⟩ := ent k t hg
      obtain ⟨hj', t1, h2, _⟩ := ent k' t' hg'
      rw [Rho.pick_in hj] at hq
      rw [Rho.pick_in hj'] at hq'
      exact inj k k' hj hj' (hsim.inj _ _ t0 t1 p p' (wideK k hk hj) (wideK k' hk' hj') h1 h2 hq hq' he)
    · obtain ⟨hj, t0, h1, _⟩ := ent k t hg
      rw [Rho.pick_in hj] at hq
      exact hsim.dis _ t0 p (wideK k hk hj) h1 hq
  · refine ⟨?_, hst.wt, fun k hk hb => ?_⟩
    · show G0.length ≤ (pickH n0 s.w L s.G 0 L).length
      rw [len]; omega
    · show hget (pickH n0 s.w L s.G 0 L) k = hget G0 k
      have hb' : s.w.testBit k = false := hb
      have e : keepE n0 s.w k = true := by
        unfold keepE
        rw [hb', show Nat.blt k n0 = true from by simpa using (show k < n0 by omega)]
        rfl
      rw [pickH_get (by omega), Nat.zero_add, e, cond_true]
      exact hst.old k hk hb

/-- What a run left, under other names: the names of the list, in its order. -/
theorem Tr.pick {n0 : Nat} {c : Code} {s : St} {e : Ex} {W : Nat} {tm tm' : List T} {G G' : Heap} (L : List Nat) (keep : Nat) (h : Tr P n0 c s e (stW n0 W tm G)) (ht : pickTm L keep 0 tm = tm') (hG' : pickH n0 W L G 0 L = G')
    (hn : Nat.ble n0 L.length = true) (_hs : True) (hd : dupFree L = true) (hok : pickOK n0 W L G 0 L = true) : Tr P n0 c s e (stW n0 W tm' G') := by
  subst ht hG'
  have hn := Nat.le_of_ble_eq_true hn
  refine ⟨?_, h.t, ?_, fun K ρ0 G0 w0 dS m hG g1 g2 a w hR => ?_⟩
  · show _ → n0 ≤ (pickH n0 W L G 0 L).length
    rw [pickH_len]; exact fun _ => hn
  · show (pickTm L keep 0 tm).length = _
    rw [pickTm_len]; exact h.tm
  · refine wp_mono (h.run K ρ0 G0 w0 dS m hG g1 g2 a w hR) ?_
    rintro e1 a1 w1 ⟨rfl, hR1⟩
    exact ⟨rfl, Rl.pick (s := stW n0 W tm G) hR1 hG L keep hn hd hok g2⟩

/-! ### A name that stands for no block -/
theorem hget_snoc {G : Heap} {x : Option T} {k : Nat} {t : T} (h : hget (G ++ [x]) k = some t) : (k < G.length ∧ hget G k = some t) ∨ (k = G.length ∧ x = some t) := by
  rcases Nat.lt_or_ge k G.length with h1 | h1
  · rw [hget_append_left h1] at h; exact .inl ⟨h1, h⟩
  · obtain ⟨j, rfl⟩ : ∃ j, k = G.length + j := ⟨k - G.length, by omega⟩
    rw [hget_append_right] at h
    cases j with
    | zero => exact .inr ⟨rfl, h⟩
    | succ j => cases h
theorem Rl.vac {K : Nat → Prop} {ρ0 : Rho} {G0 : Heap} {w0 : World} {dS : List Deferred} {m : Nat} {s : St} {a : Act} {w : World} (h : Rl K ρ0 G0 w0 dS m s a w) (hfr : ∀ k, G0.length ≤ k → ρ0 k = none) (t : T) (ht : t.size = 0) :
    Rl K ρ0 G0 w0 dS m ⟨s.tm, s.G ++ [some t], true, s.t, s.w⟩ a w := by
  obtain ⟨⟨ρ, hp, htm, hsim⟩, hsz, hdfr, hst, hlen⟩ := h
  have hl : G0.length ≤ s.G.length := hst.len
  have hno : ρ s.G.length = none := by
    rw [hp.dom s.G.length (.inr (Nat.le_refl _))]
    exact hfr _ hl
  have old : ∀ {k t' p}, hget (s.G ++ [some t]) k = some t' → ρ k = some p → hget s.G k = some t' := fun {k t' p} hg hq => by
    rcases hget_snoc hg with ⟨_, h⟩ | ⟨h, _⟩
    · exact h
    · rw [h, hno] at hq; cases hq
  have vac : ∀ {k t'}, hget (s.G ++ [some t]) k = some t' → hget s.G k = some t' ∨ t'.size = 0 := fun {k t'} hg => by
    rcases hget_snoc hg with ⟨_, h⟩ | ⟨_, h⟩
    · exact .inl h
    · cases h; exact .inr ht
  refine ⟨⟨ρ, ?_, htm, ?_⟩, hsz, hdfr, ?_, hlen⟩
  · exact {
      ext := hp.ext
      dom := fun k hk => hp.dom k (by
        rcases hk with hk | hk
        · exact .inl hk
        · right
          have hk' : (s.G ++ [some t]).length ≤ k := hk
          show s.G.length ≤ k
          simp at hk'
          omega)
      val := trivial
      sim := fun k t' p hk hg hq => hp.sim k t' p hk (old hg hq) hq
      vac := fun k t' hk hg hq => by
        rcases vac hg with h | h
        · exact hp.vac k t' hk h hq
        · exact h
      new := fun k t' p hk hg hq => by
        rcases hp.new k t' p hk (old hg hq) hq with h4 | ⟨j, q, a1, a2, a3, a4, a5⟩
        · exact .inl h4
        · refine .inr ⟨j, q, a1, a2, ?_, a4, a5⟩
          show hget (s.G ++ [some t]) j = none
          rw [hget_append_left (by omega)]
          exact a3
      inj := fun k k' t' t2 p p' hk hk' hg hg' hq hq' he => hp.inj k k' t' t2 p p' hk hk' (old hg hq) (old hg' hq') hq hq' he
      frame := hp.frame
      size := hp.size
      os := hp.os
      tape := hp.tape
      output := hp.output
      ro := hp.ro
      dis := fun k t' p hk hg hq => hp.dis k t' p hk (old hg hq) hq }
  · exact ⟨fun k t' p hk hg hq => hsim.blk k t' p hk (old hg hq) hq, fun k t' hk hg hq => by
      rcases vac hg with h | h
      · exact hsim.vac k t' hk h hq
      · exact h, fun k k' t' t2 p p' hk hk' hg hg' hq hq' he => hsim.inj k k' t' t2 p p' hk hk' (old hg hq) (old hg' hq') hq hq' he, hsim.ro, fun k t' p hk hg hq => hsim.dis k t' p hk (old hg hq) hq⟩
  · refine ⟨?_, hst.wt, fun k hk hb => ?_⟩
    · show G0.length ≤ (s.G ++ [some t]).length
      simp; omega
    · show hget (s.G ++ [some t]) k = hget G0 k
      rw [hget_append_left (by omega)]
      exact hst.old k hk hb
/-- One more name, of nothing. -/
theorem Tr.vac {n0 : Nat} {c : Code} {s : St} {e : Ex} {W : Nat} {tm : List T} {G : Heap} (h : Tr P n0 c s e (stW n0 W tm G)) (t : T) (ht : t.size = 0) : Tr P n0 c s e (stW n0 W tm (G ++ [some t])) := by
  refine ⟨?_, h.t, h.tm, fun K ρ0 G0 w0 dS m hG g1 g2 a w hR => ?_⟩
  · intro h0
    show n0 ≤ (G ++ [some t]).length
    have h2 : n0 ≤ G.length := h.len h0
    simp; omega
  · refine wp_mono (h.run K ρ0 G0 w0 dS m hG g1 g2 a w hR) ?_
    rintro e1 a1 w1 ⟨rfl, hR1⟩
    exact ⟨rfl, Rl.vac (s := stW n0 W tm G) hR1 g2 t ht⟩
/-- None is a slice of no elements. -/
theorem nil_slice {ρ : Rho} {id m : Nat} {x : Value} (h : (R ρ .nilslice).v x) : (R ρ (.slice id [] 0 m 0 none)).v x := .inr ⟨rfl, rfl, rfl, h⟩

end
end Go.AE

/-! Functions that jump back to a label: the evaluator follows them, so many times at most. No condition. -/
namespace Go.AE
open Go
noncomputable section
variable {P : Program} {env : Env}

def jumps (l : Nat) : Nat → Step' → Step'
  | 0, _, _ => none
  | k + 1, f, s => match f s with
    | some (.goto l', s') => bif Nat.beq l' l then jumps l k f s' else none
    | r => r

def evScope (P : Program) (env : Env) (n : Cf) (l : Nat) (rest c : Code) : Step' := fun s =>
  match evCode P env n c s with
  | some (.goto l', s') => bif Nat.beq l' l then jumps l n.n (evCode P env n rest) s' else none
  | r => r

theorem jumps_shape {R : St → St → Prop} {l : Nat} {f : Step'} (refl : ∀ s, R s s) (trans : ∀ {a b c}, R a b → R b c → R a c) (hf : ∀ s e s', f s = some (e, s') → R s s') : ∀ (n : Nat) (s : St) (e : Ex) (s' : St), jumps l n f s = some (e, s') → R s s' ∧ ∀ l', e ≠ .goto l'
  | 0, _, _, _, h => by cases h
  | n + 1, s, e, s', h => by
    simp only [jumps] at h
    split at h
    · rename_i l' s1 h1
      cases hb : Nat.beq l' l with
      | false => rw [hb] at h; cases h
      | true =>
        rw [hb] at h
        obtain ⟨h2, h3⟩ := jumps_shape refl trans hf n s1 e s' h
        exact ⟨trans (hf _ _ _ h1) h2, h3⟩
    · rename_i r hr
      refine ⟨hf _ _ _ h, fun l' he => ?_⟩
      subst he
      exact (hr l' s' h).elim

theorem evScope_shape {R : St → St → Prop} {n : Cf} {l : Nat} {rest c : Code} (refl : ∀ s, R s s) (trans : ∀ {a b c}, R a b → R b c → R a c) (hf : ∀ c s e s', evCode P env n c s = some (e, s') → R s s') {s : St} {e : Ex} {s' : St}
    (h : evScope P env n l rest c s = some (e, s')) : R s s' ∧ ∀ l', e ≠ .goto l' := by
  unfold evScope at h
  split at h
  · rename_i l' s1 h1
    cases hb : Nat.beq l' l with
    | false => rw [hb] at h; cases h
    | true =>
      rw [hb] at h
      obtain ⟨h2, h3⟩ := jumps_shape refl trans (hf rest) n.n s1 e s' h
      exact ⟨trans (hf _ _ _ _ h1) h2, h3⟩
  · rename_i r hr
    refine ⟨hf _ _ _ _ h, fun l' he => ?_⟩
    subst he
    exact (hr l' s' h).elim

theorem evScope_grow (henv : EnvOK P env) {n : Cf} {l : Nat} {rest c : Code} {s : St} {e : Ex} {s' : St} (h : evScope P env n l rest c s = some (e, s')) : Grow s s' :=
  (evScope_shape (R := Grow) Grow.refl (fun h h' => h.trans h') (fun c => evCode_grow henv c) h).1

theorem evScope_sound (henv : EnvOK P env) (hmix : P.follows .mixedOrders = true) {n : Cf} {l : Nat} {rest c : Code} (hl : findLabel c l = some rest) {K : Nat → Prop} {ρ0 : Rho} {G0 : Heap} {w0 : World} {dS : List Deferred} {m : Nat} {s : St} {e : Ex} {s' : St}
    (h : evScope P env n l rest c s = some (e, s')) (hvc : s'.vc = true) (hK : ∀ k, k < G0.length → s'.t.testBit k = true → K k) (hfr : ∀ k, G0.length ≤ k → k < s'.G.length → ρ0 k = none) (a : Act) (w : World) (hR : Rl K ρ0 G0 w0 dS m s a w) :
    (Code.scope c).wp P (Lands' K ρ0 G0 w0 dS m e s') a w := by
  have hf : ∀ c s e s1, evCode P env n c s = some (e, s1) → Grow s1 s' → ∀ a w, Rl K ρ0 G0 w0 dS m s a w → c.wp P (Lands' K ρ0 G0 w0 dS m e s1) a w := fun c s e s1 h1 hg a w hR =>
    evCode_sound henv hmix c s e s1 h1 (hg.vc hvc) (fun k hk hb => hK k hk (hg.t k hb)) (fun k hk hlt => hfr k hk (Nat.lt_of_lt_of_le hlt hg.G)) a w hR
  have hg : ∀ k s1, jumps l k (evCode P env n rest) s1 = some (e, s') → Grow s1 s' ∧ ∀ l', e ≠ .goto l' := fun k s1 h1 => jumps_shape (R := Grow) Grow.refl (fun h h' => h.trans h') (evCode_grow henv rest) k s1 e s' h1
  let J : Nat → Act → World → Prop := fun j a w => ∃ sj, jumps l j (evCode P env n rest) sj = some (e, s') ∧ Rl K ρ0 G0 w0 dS m sj a w
  have fin : ∀ {e' : Ex} {a' : Act} {w' : World} (j : Nat), (∀ l', e' ≠ .goto l') → e' = e → Rl K ρ0 G0 w0 dS m s' a' w' → Exit.jump l (J j) (Lands' K ρ0 G0 w0 dS m e s') e'.to a' w' := fun {e' a' w'} j h1 h2 h3 => by
    subst h2
    cases e' with
    | goto l' => exact absurd rfl (h1 l')
    | normal => exact ⟨rfl, h3⟩
    | exit id => exact ⟨rfl, h3⟩
    | ret => exact ⟨rfl, h3⟩
  refine wp_scope_rounds l hl J (fun a w h => by obtain ⟨sj, h1, _⟩ := h; cases h1) ?_ (n := n.n) ?_
  · rintro j a w ⟨sj, h1, hR⟩
    simp only [jumps] at h1
    split at h1
    · rename_i l' s2 h2
      cases hb : Nat.beq l' l with
      | false => rw [hb] at h1; cases h1
      | true =>
        rw [hb] at h1
        have hq := Nat.eq_of_beq_eq_true hb
        subst hq
        refine wp_mono (hf _ _ _ _ h2 (hg j s2 h1).1 a w hR) ?_
        rintro e' a' w' ⟨rfl, hR'⟩
        exact ⟨rfl, s2, h1, hR'⟩
    · rename_i r hr
      have hne : ∀ l', e ≠ .goto l' := fun l' he => by subst he; exact (hr l' s' h1).elim
      refine wp_mono (hf _ _ _ _ h1 (Grow.refl s') a w hR) ?_
      rintro e' a' w' ⟨rfl, hR'⟩
      exact fin j hne rfl hR'
  · unfold evScope at h
    split at h
    · rename_i l' s2 h2
      cases hb : Nat.beq l' l with
      | false => rw [hb] at h; cases h
      | true =>
        rw [hb] at h
        have hq := Nat.eq_of_beq_eq_true hb
        subst hq
        refine wp_mono (hf _ _ _ _ h2 (hg n.n s2 h).1 a w hR) ?_
        rintro e' a' w' ⟨rfl, hR'⟩
        exact ⟨rfl, s2, h, hR'⟩
    · rename_i r hr
      have hne : ∀ l', e ≠ .goto l' := fun l' he => by subst he; exact (hr l' s' h).elim
      refine wp_mono (hf _ _ _ _ h (Grow.refl s') a w hR) ?_
      rintro e' a' w' ⟨rfl, hR'⟩
      exact fin n.n hne rfl hR'

theorem evPre_stat (henv : EnvOK P env) {n : Cf} {l : Nat} {rest a c : Code} {tm : List T} {G : Heap} {e : Ex} {s1 s : St} (h1 : evCode P env n a ⟨tm, G, true, 0, 0⟩ = some (.normal, s1)) (h : evScope P env n l rest c s1 = some (e, s)) : Stat G s.res := by
  obtain ⟨t, w, h1, h2, h3⟩ := (evCode_statC henv a _ _ _ h1).trans (evScope_shape (R := StatC) (fun s => StatC.refl s s rfl rfl rfl) (fun h h' => h.trans h') (fun c => evCode_statC henv c) h).1
  simp only [Nat.zero_or] at h2 h3
  unfold St.res
  rw [h2, h3]
  exact h1
/-- A function's body that jumps back to a label. -/
def evFnS (P : Program) (env : Env) (n : Cf) (l : Nat) (fn : Func) : Model := fun args G =>
  match fn.body with
  | some (.seq a (.scope c)) => match findLabel c l with
    | some rest => match evCode P env n a ⟨args ++ undefs (fn.ntmps - args.length), G, true, 0, 0⟩ with
      | some (.normal, s1) => match evScope P env n l rest c s1 with
        | some (.ret, s) => match evResults P s fn.results.toList with
          | some (vc, vs, t) => some (fullR G s vc vs t)
          | none => none
        | some (.normal, s) => match evResults P s fn.results.toList with
          | some (vc, vs, t) => some (fullR G s vc vs t)
          | none => none
        | _ => none
      | _ => none
    | none => none
  | _ => none

theorem SoundM.of_evS (henv : EnvOK P env) (hmix : P.follows .mixedOrders = true) {n : Cf} {l : Nat} {f : FuncId} {fn : Func} (hf : P.funcs[f]? = some fn) (hname : (fn.name == "runtime.NumGoroutine") = false) (hbody : fn.body.isNone = false) : SoundM P f (evFnS P env n l fn) := by
  have shape : ∀ args G r, evFnS P env n l fn args G = some r → ∃ a c rest s1 e s vc vs t, fn.body = some (.seq a (.scope c)) ∧ findLabel c l = some rest ∧ evCode P env n a ⟨args ++ undefs (fn.ntmps - args.length), G, true, 0, 0⟩ = some (.normal, s1) ∧ evScope P env n l rest c s1 = some (e, s) ∧ (e = .ret ∨ e = .normal) ∧ evResults P s fn.results.toList = some (vc, vs, t) ∧ r = fullR G s vc vs t := by
    intro args G r h
    unfold evFnS at h
    split at h
    · rename_i a c hc
      split at h
      · rename_i rest hr0
        split at h
        · rename_i s1 hs1
          split at h
          · rename_i s hs
            split at h
            · rename_i vc vs t hr
              cases h
              exact ⟨a, c, rest, s1, _, s, vc, vs, t, hc, hr0, hs1, hs, .inl rfl, hr, rfl⟩
            · cases h
          · rename_i s hs
            split at h
            · rename_i vc vs t hr
              cases h
              exact ⟨a, c, rest, s1, _, s, vc, vs, t, hc, hr0, hs1, hs, .inr rfl, hr, rfl⟩
            · cases h
          · cases h
        · cases h
      · cases h
    · cases h
  refine SoundM.of_does ⟨fn, hf, hname, hbody⟩ ?_ ?_
  · intro args G r h
    obtain ⟨a, c, rest, s1, e, s, vc, vs, t, _, _, h1, h2, _, _, rfl⟩ := shape args G r h
    have := evPre_stat henv h1 h2
    exact ⟨this.len, fun k hk hw => by
      obtain ⟨a, b⟩ := this.wt k hk hw
      refine ⟨?_, b⟩
      show (s.t ||| t).testBit k = true
      rw [Nat.testBit_or]
      have a' : s.t.testBit k = true := a
      simp [a'], this.old⟩
  · intro args G r h hvc ρ w args' hsim hfr hargs
    obtain ⟨a0, c, rest, s1, e, s, vc, vs, t, hc, hl, h1, h2, he, h3, rfl⟩ := shape args G r h
    simp only [fullR, Bool.and_eq_true] at hvc
    unfold Does
    refine calls_of_wp hf hc ?_
    have hst := evPre_stat henv h1 h2
    have hgr := evScope_grow henv h2
    have hlen := VLs_len hargs
    have hR0 : Rl (bitK (s.t ||| t)) ρ G w [] (args ++ undefs (fn.ntmps - args.length)).length ⟨args ++ undefs (fn.ntmps - args.length), G, true, 0, 0⟩
        { tmps := args'.toArray ++ Array.replicate (fn.ntmps - args'.toArray.size) undef, defers := [] } w := by
      refine ⟨⟨ρ, ?_, ?_, ?_⟩, ?_, rfl, ?_, rfl⟩
      · have hv : (R ρ T.any).v undef := trivial
        exact Post.pure hv 0
      · intro t'
        have := VLs_tget (fn.ntmps - args.length) t' hargs
        have e1 : (args'.toArray ++ Array.replicate (fn.ntmps - args'.toArray.size) undef).getD t' undef = (args' ++ List.replicate (fn.ntmps - args.length) undef).getD t' undef := by
          simp [Array.getD_eq_getD_getElem?, List.getD_eq_getElem?_getD, hlen, Array.getElem?_append, List.getElem?_append, Array.getElem?_replicate, List.getElem?_replicate]
        rw [e1]; exact this
      · exact hsim.weak fun k hl hk => by
          rcases hk with hk | hk
          · exact hk
          · omega
      · simp [hlen, undefs_len]
      · exact Stat.pure _ _ _ _
    have hK : ∀ k, k < G.length → s.t.testBit k = true → bitK (s.t ||| t) k := fun k _ hb => by
      unfold bitK; rw [Nat.testBit_or, hb]; rfl
    have hcode : (Code.seq a0 (.scope c)).wp P (Lands' (bitK (s.t ||| t)) ρ G w [] (args ++ undefs (fn.ntmps - args.length)).length e s) _ _ := wp_seq (wp_mono (evCode_sound henv hmix a0 _ _ s1 h1 (hgr.vc hvc.2) (fun k hk hb => hK k hk (hgr.t k hb)) (fun k h4 h5 => hfr k h4 (Nat.lt_of_lt_of_le h5 hgr.G)) _ _ hR0) (by
      rintro e1 a1 w1 ⟨rfl, hR1⟩
      exact evScope_sound henv hmix hl (K := bitK (s.t ||| t)) (ρ0 := ρ) (G0 := G) (w0 := w) (dS := []) h2 hvc.2 hK (fun k h4 h5 => hfr k h4 h5) _ _ hR1))
    refine wp_mono hcode ?_
    rintro e' a' w' ⟨rfl, hR⟩
    obtain ⟨⟨ρ', hp, htm, hsim'⟩, hsz, hdfr, hst', hlen'⟩ := hR
    obtain ⟨xs, g1, g2⟩ := evResults_sound (P := P) htm h3 hvc.1 (hsim'.weak fun k _ hk => by
        left; unfold bitK at *; rw [Nat.testBit_or, hk, Bool.or_true])
    have hres : (results fn a'.tmps).run P w' = .ok (if h : xs.toArray.size = 1 then xs.toArray[0] else .tuple xs.toArray) w' := by
      have : results fn a'.tmps = (do let vs ← fn.results.mapM (resSem a'.tmps); Pure.pure (if h : vs.size = 1 then vs[0] else .tuple vs)) := rfl
      rw [this, Sem.run_bind, Array.mapM_eq_mapM_toList, Sem.run_map, g1]
      rfl
    have fin : bodyPost P fn (fun e w'_1 => ∃ v', e = .returned v' ∧ ∃ ρ', Post ρ ρ' G w (fullR G s vc vs t) v' w'_1) .ret a' w' := by
      refine ⟨hdfr, _, hres, _, rfl, ρ', ?_⟩
      exact ⟨hp.ext, hp.dom, one_sound g2, hp.sim, hp.vac, hp.new, hp.inj, hp.frame, hp.size, hp.os, hp.tape, hp.output, hp.ro, hp.dis⟩
    rcases he with rfl | rfl
    · exact fin
    · exact fin

end
end Go.AE

/-! Blocks that nobody writes any more, where rows point to them. No condition. -/
namespace Go.AE
open Go
noncomputable section
variable {P : Program}

/-- As lend; into rows too. -/
def lendR (F : Nat → Bool) (G : Heap) (d : Nat) : T → Bool × T
  | .rows n m f => (allN (fun j => (lend F G d (f j)).1) n, .rows n m fun j => (lend F G d (f j)).2.1)
  | t => ((lend F G d t).1, (lend F G d t).2.1)
theorem lendR_size {F : Nat → Bool} {G : Heap} (d : Nat) (t : T) : (lendR F G d t).2.size = t.size := by
  cases t <;> first | rfl | exact lend_size d _
theorem lendR_sound {F : Nat → Bool} {G : Heap} {d : Nat} {ρ ρ1 : Rho} (h : ∀ t, (lend F G d t).1 = true → Lent ρ ρ1 t (lend F G d t).2.1) :
    ∀ t, (lendR F G d t).1 = true → ∀ cs, (R ρ t).c cs → (R ρ1 (lendR F G d t).2).c cs := by
  intro t ht cs hc
  cases t with
  | rows n m f => exact ⟨hc.1, fun i hi => (h (f i) (allN_spec ht i hi)).1 _ (hc.2 i hi)⟩
  | _ => exact (h _ ht).1 cs hc
def frGr (n0 W mask : Nat) (G : Heap) (d : Nat) : Nat → Heap → Heap
  | _, [] => []
  | i, x :: r => (bif frF n0 mask i then none else bif Nat.blt i n0 && !W.testBit i then x else match x with
    | some t => some (lendR (frF n0 mask) G d t).2
    | none => none) :: frGr n0 W mask G d (i + 1) r
def frOKr (n0 W mask : Nat) (G : Heap) (d : Nat) : Nat → Heap → Bool
  | _, [] => true
  | i, x :: r => (frF n0 mask i || ((Nat.blt i n0 && !W.testBit i) || match x with
    | some t => (lendR (frF n0 mask) G d t).1
    | none => true)) && frOKr n0 W mask G d (i + 1) r

theorem frGr_len {n0 W mask : Nat} {G : Heap} {d : Nat} : ∀ {i : Nat} {H : Heap}, (frGr n0 W mask G d i H).length = H.length
  | _, [] => rfl
  | i, _ :: r => by simp [frGr, frGr_len (H := r)]
theorem frGr_get {n0 W mask : Nat} {G : Heap} {d : Nat} : ∀ {i : Nat} {H : Heap} {k : Nat} {t' : T}, frOKr n0 W mask G d i H = true → hget (frGr n0 W mask G d i H) k = some t' →
    frF n0 mask (i + k) = false ∧ ∃ t, hget H k = some t ∧ ((t' = t ∧ i + k < n0 ∧ W.testBit (i + k) = false) ∨ ((lendR (frF n0 mask) G d t).1 = true ∧ t' = (lendR (frF n0 mask) G d t).2))
  | i, x :: r, 0, t', ho, hg => by
    simp only [frOKr, Bool.and_eq_true] at ho
    simp only [frGr, hget] at hg
    cases hF : frF n0 mask i with
    | true => rw [hF] at hg; cases hg
    | false =>
      rw [hF] at hg ho
      simp only [cond_false, Bool.false_or] at hg ho
      refine ⟨rfl, ?_⟩
      cases hb : (Nat.blt i n0 && !W.testBit i) with
      | true =>
        rw [hb] at hg
        simp only [Bool.and_eq_true, Bool.not_eq_true'] at hb
        exact ⟨t', hg, .inl ⟨rfl, by simpa using hb.1, hb.2⟩⟩
      | false =>
        rw [hb] at hg ho
        cases x with
        | none => cases hg
        | some t =>
          cases hg
          exact ⟨t, rfl, .inr ⟨by simpa using ho.1, rfl⟩⟩
  | i, x :: r, k + 1, t', ho, hg => by
    simp only [frOKr, Bool.and_eq_true] at ho
    simp only [frGr, hget] at hg
    have := frGr_get (i := i + 1) (k := k) ho.2 hg
    rw [show i + 1 + k = i + (k + 1) by omega] at this
    exact this
  | _, [], _, _, _, hg => by cases hg
theorem frGr_low {n0 W mask : Nat} {G : Heap} {d : Nat} : ∀ {i : Nat} {H : Heap} {k : Nat}, i + k < n0 → W.testBit (i + k) = false → hget (frGr n0 W mask G d i H) k = hget H k
  | i, x :: r, 0, h, hW => by
    have hF : frF n0 mask i = false := by
      unfold frF
      cases hb : Nat.ble n0 i with
      | false => rfl
      | true => have := Nat.le_of_ble_eq_true hb; omega
    have hb : (Nat.blt i n0 && !W.testBit i) = true := by
      simp only [Bool.and_eq_true, Bool.not_eq_true']
      exact ⟨by simpa using h, hW⟩
    simp only [frGr, hget, hF, hb, cond_false, cond_true]
  | i, x :: r, k + 1, h, hW => by
    simp only [frGr, hget]
    exact frGr_low (i := i + 1) (by omega) (by rw [show i + 1 + k = i + (k + 1) by omega]; exact hW)
  | _, [], _, _, _ => rfl
open Classical in
theorem Rl.freezeR {K : Nat → Prop} {ρ0 : Rho} {G0 : Heap} {w0 : World} {dS : List Deferred} {m : Nat} {s : St} {a : Act} {w : World} {n0 : Nat} (h : Rl K ρ0 G0 w0 dS m s a w) (hG : Told n0 G0) (mask d : Nat)
    (hok : frOKr n0 s.w mask s.G d 0 s.G = true) (hokT : frTOK n0 mask s.G d s.tm = true) (hall : ∀ j, j < n0 → ∃ t, hget s.G j = some t) (hK : ∀ k, k < G0.length → s.t.testBit k = true → K k) (hT : ∀ k, k < n0 → s.t.testBit k = true) :
    Rl K ρ0 G0 w0 dS m ⟨frT n0 mask s.G d s.tm, frGr n0 s.w mask s.G d 0 s.G, true, s.t, s.w⟩ a w := by
  obtain ⟨⟨ρ, hp, htm, hsim⟩, hsz, hdfr, hst, hlen⟩ := h
  let F := frF n0 mask
  have hF0 : ∀ k, F k = true → n0 ≤ k := fun k hk => by
    have hk' : (Nat.ble n0 k && mask.testBit k) = true := hk
    simp only [Bool.and_eq_true] at hk'
    exact Nat.le_of_ble_eq_true hk'.1
  -- the blocks of these names
  let isF : Nat → Prop := fun b => ∃ k t p, F k = true ∧ hget s.G k = some t ∧ ρ k = some p ∧ p.1 = b
  let ρ' : Rho := ⟨ρ.ids, fun b => if isF b then allRo w b else ρ.ro b⟩
  have all : ∀ k, K k ∨ G0.length ≤ k → K k ∨ G0.length ≤ k := fun _ h => h
  have inK : ∀ k, K k ∨ G0.length ≤ k := fun k => by
    rcases Nat.lt_or_ge k G0.length with h | h
    · exact .inl (hK k h (hT k (hG.1 ▸ h)))
    · exact .inr h
  have old : ∀ b, isF b → ρ.ro b = none := fun b ⟨k, t, p, h1, h2, h3, h4⟩ => by
    rw [← h4]
    exact hsim.dis k t p (inK k) h2 h3
  have hro : ∀ b cs, ρ.ro b = some cs → ρ'.ro b = some cs := fun b cs hb => by
    show (if _ then _ else _) = _
    rw [if_neg (fun hf => by rw [old b hf] at hb; cases hb)]
    exact hb
  have hext : ρ.Ext ρ' := ⟨fun _ _ h => h, hro⟩
  have roOK : RoOK ρ' w := fun b cs hb => by
    have hb' : (if isF b then allRo w b else ρ.ro b) = some cs := hb
    by_cases hf : isF b
    · rw [if_pos hf] at hb'
      exact allRo_ok w (fun _ => none) b cs hb'
    · rw [if_neg hf] at hb'
      exact hsim.ro b cs hb'
  have hnew : ∀ b cs, ρ'.ro b = some cs → ρ.ro b = some cs ∨ (w0.heap.size ≤ b ∧ isF b) := fun b cs hb => by
    have hb' : (if isF b then allRo w b else ρ.ro b) = some cs := hb
    by_cases hf : isF b
    · refine .inr ⟨?_, hf⟩
      obtain ⟨k, t, p, h1, h2, h3, h4⟩ := hf
      rcases hp.new k t p (by rw [hG.1]; exact hF0 k h1) h2 h3 with h5 | ⟨j, q, a1, a2, a3, a4, a5⟩
      · omega
      · obtain ⟨t2, h6⟩ := hall j (hG.1 ▸ a1)
        have a3' : hget s.G j = none := a3
        rw [a3'] at h6
        cases h6
    · rw [if_neg hf] at hb'
      exact .inl hb'
  have hsimK : Sim (bitK (2 ^ s.G.length - 1)) ρ s.G w := hsim.weak fun k _ _ => inK k
  have lnd : ∀ t, (lend F s.G d t).1 = true → Lent ρ ρ' t (lend F s.G d t).2.1 := by
    intro t ht
    -- only names of F are looked at, and all of them have blocks
    have hl : ∀ id p t cs ty fr, F id = true → hget s.G id = some t → ρ id = some p → w.heap[p.1]? = some (.cells cs ty fr) → ρ'.ro p.1 = some cs := fun id p t cs ty fr hf hg hq hw => by
      have : isF p.1 := ⟨id, t, p, hf, hg, hq, rfl⟩
      show (if _ then _ else _) = _
      rw [if_pos this]
      simp [allRo, hw]
    exact lend_soundF (ρ := ρ) (ρ1 := ρ') rfl hro hsim inK (fun id p t cs ty fr h _ => hl id p t cs ty fr h) d t ht
  have apart : ∀ k t p, F k = false → hget s.G k = some t → ρ k = some p → ρ'.ro p.1 = none := fun k t p hf hg hq => by
    have : ¬ isF p.1 := fun ⟨k2, t2, p2, h1, h2, h3, h4⟩ => by
      have := hsim.inj k2 k t2 t p2 p (inK k2) (inK k) h2 hg h3 hq h4
      subst this
      rw [h1] at hf
      cases hf
    show (if _ then _ else _) = _
    rw [if_neg this]
    exact hsim.dis k t p (inK k) hg hq
  have ent : ∀ k t', hget (frGr n0 s.w mask s.G d 0 s.G) k = some t' → F k = false ∧ ∃ t, hget s.G k = some t ∧ t.size = t'.size ∧ (∀ cs, (R ρ t).c cs → (R ρ' t').c cs) := fun k t' hg => by
    obtain ⟨h1, t, h2, h3⟩ := frGr_get hok hg
    rw [Nat.zero_add] at h1
    refine ⟨h1, t, h2, ?_⟩
    rcases h3 with ⟨rfl, _, _⟩ | ⟨h4, rfl⟩
    · exact ⟨rfl, fun cs hc => R_c_mono hext hc⟩
    · exact ⟨(lendR_size d t).symm, lendR_sound lnd t h4⟩
  refine ⟨⟨ρ', ?_, fun t => ?_, ?_⟩, hsz, hdfr, ?_, frT_len.trans hlen⟩
  · exact {
      ext := hp.ext.trans hext
      dom := fun k hk => hp.dom k (by
        rcases hk with hk | hk
        · exact .inl hk
        · refine .inr ?_
          have hk' : (frGr n0 s.w mask s.G d 0 s.G).length ≤ k := hk
          rw [frGr_len] at hk'
          exact hk')
      val := trivial
      sim := fun k t' p hk hg hq => by
        obtain ⟨h1, t, h2, h3, h4⟩ := ent k t' hg
        obtain ⟨cs, ty, fr, b1, b2, b3, b4, b5⟩ := hsim.blk k t p (inK k) h2 hq
        exact ⟨cs, ty, fr, b1, b2, by rw [← h3]; exact b3, by rw [← h3]; exact h4 _ b4, b5⟩
      vac := fun k t' hk hg hq => by
        obtain ⟨h1, t, h2, h3, h4⟩ := ent k t' hg
        rw [← h3]
        exact hsim.vac k t (inK k) h2 hq
      new := fun k t' p hk hg hq => by
        obtain ⟨h1, t, h2, h3, h4⟩ := ent k t' hg
        rcases hp.new k t p hk h2 hq with h5 | ⟨j, q, a1, a2, a3, a4, a5⟩
        · exact .inl h5
        · obtain ⟨t2, h6⟩ := hall j (hG.1 ▸ a1)
          have a3' : hget s.G j = none := a3
          rw [a3'] at h6
          cases h6
      inj := fun k k' t t' p p' hk hk' hg hg' hq hq' he => by
        obtain ⟨_, t0, h2, _⟩ := ent k t hg
        obtain ⟨_, t1, h2', _⟩ := ent k' t' hg'
        exact hp.inj k k' t0 t1 p p' hk hk' h2 h2' hq hq' he
      frame := hp.frame
      size := hp.size
      os := hp.os
      tape := hp.tape
      output := hp.output
      ro := fun b cs hb => by
        rcases hnew b cs hb with h1 | ⟨h1, _⟩
        · exact hp.ro b cs h1
        · exact .inr ⟨h1, roOK b cs hb⟩
      dis := fun k t' p hk hg hq => by
        obtain ⟨h1, t, h2, _⟩ := ent k t' hg
        exact apart k t p h1 h2 hq }
  · rcases frT_get (n0 := n0) (mask := mask) (G := s.G) (d := d) (l := s.tm) (t := t) hokT with h1 | ⟨h1, h2⟩
    · show (R ρ' (tget (frT n0 mask s.G d s.tm) t)).v _
      rw [h1]; trivial
    · show (R ρ' (tget (frT n0 mask s.G d s.tm) t)).v _
      rw [h2]
      exact (lnd _ h1).2.1 _ (htm t)
  · refine ⟨fun k t' p _ hg hq => ?_, fun k t' _ hg hq => ?_, fun k k' t t' p p' _ _ hg hg' hq hq' he => ?_, roOK, fun k t' p _ hg hq => ?_⟩
    · obtain ⟨h1, t, h2, h3, h4⟩ := ent k t' hg
      obtain ⟨cs, ty, fr, b1, b2, b3, b4, b5⟩ := hsim.blk k t p (inK k) h2 hq
      exact ⟨cs, ty, fr, b1, b2, by rw [← h3]; exact b3, by rw [← h3]; exact h4 _ b4, b5⟩
    · obtain ⟨h1, t, h2, h3, h4⟩ := ent k t' hg
      rw [← h3]
      exact hsim.vac k t (inK k) h2 hq
    · obtain ⟨_, t0, h2, _⟩ := ent k t hg
      obtain ⟨_, t1, h2', _⟩ := ent k' t' hg'
      exact hsim.inj k k' t0 t1 p p' (inK k) (inK k') h2 h2' hq hq' he
    · obtain ⟨h1, t, h2, _⟩ := ent k t' hg
      exact apart k t p h1 h2 hq
  · refine ⟨?_, hst.wt, fun k hk hb => ?_⟩
    · show G0.length ≤ (frGr n0 s.w mask s.G d 0 s.G).length
      rw [frGr_len]
      exact hst.len
    · show hget (frGr n0 s.w mask s.G d 0 s.G) k = hget G0 k
      rw [frGr_low (by rw [Nat.zero_add, ← hG.1]; exact hk) (by rw [Nat.zero_add]; exact hb)]
      exact hst.old k hk hb


/-- What a run left, some blocks written no more. -/
theorem Tr.frz {n0 W : Nat} {c : Code} {s : St} {e : Ex} {tm tm' : List T} {G G' : Heap} (mask d : Nat) (h : Tr P n0 c s e (stW n0 W tm G)) (ht : frT n0 mask G d tm = tm') (hG' : frGr n0 W mask G d 0 G = G')
    (hok : frOKr n0 W mask G d 0 G = true) (hokT : frTOK n0 mask G d tm = true) (hall : ∀ j, j < n0 → ∃ t, hget G j = some t) : Tr P n0 c s e (stW n0 W tm' G') := by
  subst ht hG'
  refine ⟨?_, h.t, ?_, fun K ρ0 G0 w0 dS m hG g1 g2 a w hR => ?_⟩
  · show _ → n0 ≤ (frGr n0 W mask G d 0 G).length
    rw [frGr_len]; exact h.len
  · show (frT n0 mask G d tm).length = _
    rw [frT_len]; exact h.tm
  · refine wp_mono (h.run K ρ0 G0 w0 dS m hG g1 g2 a w hR) ?_
    rintro e1 a1 w1 ⟨rfl, hR1⟩
    exact ⟨rfl, Rl.freezeR (s := stW n0 W tm G) hR1 hG mask d hok hokT hall (fun k hk hb => g1 k hk hb) fun k hk => mask_bit hk⟩

/-! ### Told less -/
def LeL : List (Nat × T) → List (Nat × T) → Prop
  | [], [] => True
  | (i, a) :: l, (j, b) :: m => i = j ∧ (∀ ρ x, (R ρ a).v x → (R ρ b).v x) ∧ LeL l m
  | _, _ => False
def LeG : Heap → Heap → Prop
  | [], [] => True
  | some a :: l, some b :: m => (a.size = b.size ∧ ∀ ρ cs, (R ρ a).c cs → (R ρ b).c cs) ∧ LeG l m
  | none :: l, none :: m => LeG l m
  | _, _ => False
theorem LeL.refl : ∀ l, LeL l l
  | [] => trivial
  | (_, _) :: l => ⟨rfl, fun _ _ h => h, LeL.refl l⟩
theorem LeG.refl : ∀ l, LeG l l
  | [] => trivial
  | some _ :: l => ⟨⟨rfl, fun _ _ h => h⟩, LeG.refl l⟩
  | none :: l => LeG.refl l
theorem pickT_le : ∀ {l m : List (Nat × T)}, LeL l m → ∀ i ρ x, (R ρ (pickT i l)).v x → (R ρ (pickT i m)).v x
  | [], [], _, _, _, _, h => h
  | (j, a) :: l, (j', b) :: m, ⟨e, h1, h2⟩, i, ρ, x, h => by
    cases e
    simp only [pickT] at h ⊢
    cases hb : Nat.beq i j with
    | true => rw [hb] at h; exact h1 ρ x h
    | false => rw [hb] at h; exact pickT_le h2 i ρ x h
  | [], _ :: _, h, _, _, _, _ => h.elim
  | _ :: _, [], h, _, _, _, _ => h.elim
theorem tmk_le {l m : List (Nat × T)} (h : LeL l m) : ∀ (n i t : Nat) (ρ : Rho) (x : Value), (R ρ (tget (tmk l i n) t)).v x → (R ρ (tget (tmk m i n) t)).v x
  | 0, _, _, _, _, hx => hx
  | n + 1, i, 0, ρ, x, hx => pickT_le h i ρ x hx
  | n + 1, i, t + 1, ρ, x, hx => tmk_le h n (i + 1) t ρ x hx
theorem tmk_len (l : List (Nat × T)) : ∀ n i, (tmk l i n).length = n
  | 0, _ => rfl
  | n + 1, i => by simp [tmk, tmk_len l n]
theorem LeG.len : ∀ {G G' : Heap}, LeG G G' → G'.length = G.length
  | [], [], _ => rfl
  | some _ :: l, some _ :: m, h => by simp [LeG.len h.2]
  | none :: l, none :: m, h => by simp [LeG.len (G := l) (G' := m) h]
  | [], _ :: _, h => h.elim
  | _ :: _, [], h => by simp [LeG] at h
  | some _ :: _, none :: _, h => h.elim
  | none :: _, some _ :: _, h => h.elim
theorem LeG.get : ∀ {G G' : Heap}, LeG G G' → ∀ k t', hget G' k = some t' → ∃ t, hget G k = some t ∧ t.size = t'.size ∧ ∀ ρ cs, (R ρ t).c cs → (R ρ t').c cs
  | [], [], _, _, _, hg => by cases hg
  | some a :: l, some b :: m, h, 0, t', hg => by cases hg; exact ⟨a, rfl, h.1.1, h.1.2⟩
  | some a :: l, some b :: m, h, k + 1, t', hg => LeG.get (G := l) (G' := m) h.2 k t' hg
  | none :: l, none :: m, h, 0, t', hg => by cases hg
  | none :: l, none :: m, h, k + 1, t', hg => LeG.get (G := l) (G' := m) h k t' hg
  | [], _ :: _, h, _, _, _ => h.elim
  | _ :: _, [], h, _, _, _ => by simp [LeG] at h
  | some _ :: _, none :: _, h, _, _, _ => h.elim
  | none :: _, some _ :: _, h, _, _, _ => h.elim
theorem LeG.none : ∀ {G G' : Heap}, LeG G G' → ∀ k, hget G' k = Option.none → hget G k = Option.none
  | [], [], _, _, _ => rfl
  | some a :: l, some b :: m, h, 0, hg => by cases hg
  | some a :: l, some b :: m, h, k + 1, hg => LeG.none (G := l) (G' := m) h.2 k hg
  | Option.none :: l, Option.none :: m, h, 0, _ => rfl
  | Option.none :: l, Option.none :: m, h, k + 1, hg => LeG.none (G := l) (G' := m) h k hg
  | [], _ :: _, h, _, _ => h.elim
  | _ :: _, [], h, _, _ => by simp [LeG] at h
  | some _ :: _, Option.none :: _, h, _, _ => h.elim
  | Option.none :: _, some _ :: _, h, _, _ => h.elim
theorem St.leL {n0 W n : Nat} {L L' : List (Nat × T)} {G G' : Heap} (h : LeL L L') (hG : LeG G G') (hlow : ∀ k, k < n0 → W.testBit k = false → hget G' k = hget G k) : St.le n0 (stW n0 W (tmk L 0 n) G) (stW n0 W (tmk L' 0 n) G') :=
  ⟨tmk_le h n 0, by simp only [stW, tmk_len], hG.len, hG.get, hG.none, hlow, rfl, rfl⟩
/-- One more name, of nothing. -/
theorem Tr.vac0 {n0 : Nat} {c : Code} {s2 : St} {e : Ex} {W : Nat} {tm : List T} {G : Heap} (t : T) (ht : t.size = 0) (h : Tr P n0 c (stW n0 W tm (G ++ [some t])) e s2) : Tr P n0 c (stW n0 W tm G) e s2 := by
  refine ⟨?_, h.t, h.tm, fun K ρ0 G0 w0 dS m hG g1 g2 a w hR => ?_⟩
  · intro h0
    refine h.len ?_
    have h0' : n0 ≤ G.length := h0
    show n0 ≤ (G ++ [some t]).length
    simp; omega
  · exact h.run K ρ0 G0 w0 dS m hG g1 g2 a w (Rl.vac (s := stW n0 W tm G) hR g2 t ht)

end
end Go.AE

/-! Words of this seat. No condition. -/
namespace Go.Proofs.Ytjianphppcappaa
open Go.AE
set_option maxRecDepth 100000

theorem mix : Try.prog.follows .mixedOrders = true := by kernel_rfl
end Go.Proofs.Ytjianphppcappaa

/-! cmp.Compare, huff.Lengths$1, Lengths$2 by their models. No condition. -/
namespace Go.Proofs.Ytjianphppcappaa
open Go.AE
set_option maxRecDepth 100000

theorem nan_mv (x : Int) : mv (evFn Try.prog env0 1000000 Try.f48) [.int .u64 x] = some (true, .bool (!(x == x))) := by kernel_rfl
noncomputable def nanP : PModel
  | [.int .u64 x] => some (true, .bool (!(x == x)))
  | _ => none
theorem Nan_ok : SoundM Try.prog 48 (pureModel nanP) := by
  refine (SoundM.of_ev (env0_ok _) mix (n := 1000000) (fn := Try.f48) (by kernel_rfl) (by kernel_rfl) (by kernel_rfl)).pure ?_
  intro args vc v h hvc
  unfold nanP at h
  split at h
  · cases h
    obtain ⟨r, h3, h4, h5⟩ := mv_some (nan_mv _)
    exact ⟨rfl, rfl, r, h3, h4, h5⟩
  · cases h
/-- Which of two numbers is the less one. -/
def cmpI (x y : Int) : Int := if x < y then -1 else if y < x then 1 else 0
noncomputable def cmpM (sy : List (Nat × Bool)) : Model := evFn Try.prog (env0.set 48 (pureModel nanP)) ⟨1000000, (11, false) :: (13, false) :: sy⟩ Try.f34
theorem cmpM_ok (sy : List (Nat × Bool)) : SoundM Try.prog 34 (cmpM sy) := SoundM.of_ev ((env0_ok _).set Nan_ok) mix (by kernel_rfl) (by kernel_rfl) (by kernel_rfl)
section
variable (x y : Int)
theorem cmp_v1 : mv (cmpM [(16, true)]) [.int .u64 x, .int .u64 y] = some ((decide (x < y) == true && true) && (((!(y == y)) == false && true) && (((!(x == x)) == false && true) && true)), .int .i64 (-1)) := by kernel_rfl
theorem cmp_v2 : mv (cmpM [(16, false), (19, true)]) [.int .u64 x, .int .u64 y] = some ((decide (x > y) == true && true) && ((decide (x < y) == false && true) && (((!(y == y)) == false && true) && (((!(x == x)) == false && true) && true))), .int .i64 1) := by kernel_rfl
theorem cmp_v3 : mv (cmpM [(16, false), (19, false)]) [.int .u64 x, .int .u64 y] = some ((decide (x > y) == false && true) && ((decide (x < y) == false && true) && (((!(y == y)) == false && true) && (((!(x == x)) == false && true) && true))), .int .i64 0) := by kernel_rfl
end
def cmpP : PModel
  | [.int .u64 x, .int .u64 y] => some (true, .int .i64 (cmpI x y))
  | _ => none
theorem Cmp_ok : SoundM Try.prog 34 (pureModel cmpP) := by
  refine SoundM.refineX ?_
  intro args vc v hm hvc ρ xs hargs
  unfold cmpP at hm
  split at hm
  · rename_i x y
    cases hm
    have hx : VLs rho0 [.int .u64 x, .int .u64 y] xs := argsP_VLs rfl hargs
    have run : ∀ {sy : List (Nat × Bool)} {vc : Bool} {z : Int}, mv (cmpM sy) [.int .u64 x, .int .u64 y] = some (vc, .int .i64 z) → vc = true → z = cmpI x y →
        ∃ M, SoundM Try.prog 34 M ∧ ∃ args2, VLs rho0 args2 xs ∧ ∃ r, M args2 [] = some r ∧ r.vc = true ∧ ∀ ρ' w, (R ρ' r.v).v w → (R ρ (.int .i64 (cmpI x y))).v w := by
      intro sy vc z h1 h2 h3
      obtain ⟨r, h4, h5, h6⟩ := mv_some h1
      exact ⟨_, cmpM_ok sy, _, hx, r, h4, h5.trans h2, fun ρ' w hw => by rw [h6, h3] at hw; exact (plain_R rfl ρ' ρ).2.1 _ hw⟩
    unfold cmpI at *
    rcases Int.lt_trichotomy x y with h | h | h
    · exact run (cmp_v1 x y) (by simp [h]) (by simp [h])
    · subst h
      exact run (cmp_v3 x x) (by simp) (by simp)
    · have h' : ¬ x < y := by omega
      exact run (cmp_v2 x y) (by simp [h, h']) (by simp [h, h'])
  · cases hm

/-- A chain's four fields; its sum; its symbol; the two it is made of. -/
def chA (s y : Int) (a b : T) : T := .cons (.int .u64 s) (.cons (.int .i64 y) (.cons a (.cons b .nil)))
def sumT : T → Int
  | .cons (.int _ s) _ => s
  | _ => 0
def symT : T → Int
  | .cons _ (.cons (.int _ y) _) => y
  | _ => 0
def unfp : T → T
  | .fp t => t
  | _ => .any
def isFp : T → Bool
  | .fp _ => true
  | _ => false
def isCh : T → Bool
  | .cons (.int .u64 _) (.cons (.int .i64 _) (.cons a (.cons b .nil))) => (match a with | .nilptr => true | .fp _ => true | _ => false) && (match b with | .nilptr => true | .fp _ => true | _ => false)
  | _ => false
theorem isCh_shape {t : T} (h : isCh t = true) : ∃ a b, t = chA (sumT t) (symT t) a b ∧ (a = .nilptr ∨ ∃ u, a = .fp u) ∧ (b = .nilptr ∨ ∃ u, b = .fp u) := by
  unfold isCh at h
  split at h
  · rename_i s y a b
    simp only [Bool.and_eq_true] at h
    refine ⟨a, b, rfl, ?_, ?_⟩
    · have := h.1
      split at this
      · exact .inl rfl
      · exact .inr ⟨_, rfl⟩
      · cases this
    · have := h.2
      split at this
      · exact .inl rfl
      · exact .inr ⟨_, rfl⟩
      · cases this
  · cases h

noncomputable def envL1 : Env := env0.set 34 (pureModel cmpP)
theorem envL1_ok : EnvOK Try.prog envL1 := (env0_ok _).set Cmp_ok
noncomputable def l1E : VModel := vEv (evFn Try.prog envL1 1000000 Try.f33)
noncomputable def l2E : VModel := vEv (evFn Try.prog env0 1000000 Try.f36)
theorem l1_v (s y s' y' : Int) (a b a' b' : T) : l1E [.fp (chA s y a b), .fp (chA s' y' a' b')] = some ⟨true, .int .i64 (cmpI s s'), [], true⟩ := by kernel_rfl
theorem l2_v (s y s' y' : Int) (a b a' b' : T) : l2E [.fp (chA s y a b), .fp (chA s' y' a' b')] = some ⟨true, .bool (decide (s > s')), [], true⟩ := by kernel_rfl
def L1V : VModel
  | [.fp t, .fp u] => some ⟨isCh t && isCh u, .int .i64 (cmpI (sumT t) (sumT u)), [], true⟩
  | _ => none
def L2V : VModel
  | [.fp t, .fp u] => some ⟨isCh t && isCh u, .bool (decide (sumT t > sumT u)), [], true⟩
  | _ => none
theorem L1_ok : SoundV Try.prog 33 L1V := by
  refine SoundV.refine fun args r hr hvc ρ xs hρ hargs => ?_
  unfold L1V at hr
  split at hr
  · rename_i t u
    cases hr
    simp only [Bool.and_eq_true] at hvc
    obtain ⟨a, b, e, _⟩ := isCh_shape hvc.1
    obtain ⟨a', b', e', _⟩ := isCh_shape hvc.2
    refine ⟨l1E, SoundV.of_model (SoundM.of_ev envL1_ok mix (by kernel_rfl) (by kernel_rfl) (by kernel_rfl)), _, hargs, ⟨true, .int .i64 (cmpI (sumT t) (sumT u)), [], true⟩, ?_, rfl, rfl, fun _ => rfl, fun _ _ h => h⟩
    have h := l1_v (sumT t) (symT t) (sumT u) (symT u) a b a' b'
    rw [← e, ← e'] at h
    exact h
  · cases hr
theorem L2_ok : SoundV Try.prog 36 L2V := by
  refine SoundV.refine fun args r hr hvc ρ xs hρ hargs => ?_
  unfold L2V at hr
  split at hr
  · rename_i t u
    cases hr
    simp only [Bool.and_eq_true] at hvc
    obtain ⟨a, b, e, _⟩ := isCh_shape hvc.1
    obtain ⟨a', b', e', _⟩ := isCh_shape hvc.2
    refine ⟨l2E, SoundV.of_model (SoundM.of_ev (env0_ok _) mix (by kernel_rfl) (by kernel_rfl) (by kernel_rfl)), _, hargs, ⟨true, .bool (decide (sumT t > sumT u)), [], true⟩, ?_, rfl, rfl, fun _ => rfl, fun _ _ h => h⟩
    have h := l2_v (sumT t) (symT t) (sumT u) (symT u) a b a' b'
    rw [← e, ← e'] at h
    exact h
  · cases hr
end Go.Proofs.Ytjianphppcappaa

/-! Functions that turn a slice of chains in place; swapRangeCmpFunc, rotateCmpFunc. No condition. -/
namespace Go.Proofs.Ytjianphppcappaa
open Go.AE
set_option maxRecDepth 100000

/-- Whether something is so. -/
noncomputable def holds (p : Prop) : Bool := @decide p (Classical.propDecidable p)
theorem holds_of {p : Prop} (h : p) : holds p = true := @decide_eq_true p (Classical.propDecidable p) h
theorem of_holds {p : Prop} (h : holds p = true) : p := @of_decide_eq_true p (Classical.propDecidable p) h

/-! ### Such functions -/
def frw (g : Nat → T) : Nat → T := fun i => .fp (g i)
def soS (k : Nat) : T := .slice 0 [] 0 1 k none
def soG (k : Nat) (g : Nat → T) : Heap := [some (.rows k 1 (frw g))]
def lsF : T := .fn (.func 33) .nil
def numOf : T → Option Int
  | .num z => some z
  | .int .i64 z => some z
  | _ => none
def isLs : T → Bool
  | .fn (.func n) .nil => Nat.beq n 33
  | _ => false
def numsOf : List T → Option (List Int)
  | [] => none
  | t :: r => match r with
    | [] => bif isLs t then some [] else none
    | _ :: _ => match numOf t, numsOf r with
      | some z, some l => some (z :: l)
      | _, _ => none
theorem isLs_eq {t : T} (h : isLs t = true) : t = lsF := by
  unfold isLs at h
  split at h
  · rw [Nat.eq_of_beq_eq_true h]; rfl
  · cases h
theorem numOf_R {t : T} {z : Int} (h : numOf t = some z) (ρ : Rho) (x : Value) (hx : (R ρ t).v x) : (R ρ (.num z)).v x := by
  unfold numOf at h
  split at h
  · cases h; exact hx
  · cases h; exact hx
  · cases h
theorem numsOf_R : ∀ {l : List T} {zs : List Int}, numsOf l = some zs → l.length = zs.length + 1 ∧ ∀ (r : List T) (ρ : Rho) (t : Nat) (x : Value), (R ρ (tget (l ++ r) t)).v x → (R ρ (tget ((zs.map T.num ++ [lsF]) ++ r) t)).v x
  | [], _, h => by cases h
  | [t], zs, h => by
    simp only [numsOf] at h
    cases hb : isLs t with
    | false => rw [hb] at h; cases h
    | true => rw [hb] at h; cases h; rw [isLs_eq hb]; exact ⟨rfl, fun _ _ _ _ h => h⟩
  | t :: u :: r, zs, h => by
    unfold numsOf at h
    simp only at h
    split at h
    · rename_i z l hz hl
      cases h
      obtain ⟨h1, h2⟩ := numsOf_R hl
      refine ⟨by simp only [List.length_cons] at h1 ⊢; omega, fun q ρ j x hx => ?_⟩
      cases j with
      | zero => exact numOf_R hz ρ x hx
      | succ j => exact h2 q ρ j x hx
    · cases h

/-- All are pointers to chains that nobody writes. -/
noncomputable def allFp (F : Nat → T) : Bool := holds (∀ i, isFp (F i) = true)
theorem allFp_frw (g : Nat → T) : allFp (frw g) = true := holds_of fun _ => rfl
/-- A function that turns a slice of chains in place, told so many numbers. -/
noncomputable def rowM (vcF : Nat → (Nat → T) → List Int → Bool) (resF : Nat → (Nat → T) → List Int → Nat → T) : Model
  | .slice 0 [] 0 1 k none :: rest, [some (.rows k' 1 F)] => match numsOf rest with
    | some zs => some ⟨decide (k = k') && (allFp F && vcF k (fun i => unfp (F i)) zs), .tup .nil, [some (.rows k 1 (frw (resF k (fun i => unfp (F i)) zs)))], 1, 1⟩
    | none => none
  | _, _ => none
theorem isFp_eq {t : T} (h : isFp t = true) : t = .fp (unfp t) := by
  unfold isFp at h
  split at h
  · rfl
  · cases h
theorem rows_congr {n m : Nat} {F F' : Nat → T} (h : ∀ i, i < n → F i = F' i) (ρ : Rho) (cs : List Value) (hc : (R ρ (.rows n m F)).c cs) : (R ρ (.rows n m F')).c cs :=
  ⟨hc.1, fun i hi => by rw [← h i hi]; exact hc.2 i hi⟩
theorem rowM_ok {f : FuncId} {fn : Func} {c : Code} {vcF : Nat → (Nat → T) → List Int → Bool} {resF : Nat → (Nat → T) → List Int → Nat → T} (hf : Try.prog.funcs[f]? = some fn) (hname : (fn.name == "runtime.NumGoroutine") = false) (hb : fn.body = some c) (hres : fn.results.toList = [])
    (h : ∀ k g zs, vcF k g zs = true → ∃ e tm, (e = .ret ∨ e = .normal) ∧ Tr Try.prog 1 c (stW 1 1 ((soS k :: (zs.map T.num ++ [lsF])) ++ undefs (fn.ntmps - (zs.length + 2))) (soG k g)) e (stW 1 1 tm (soG k (resF k g zs)))) : SoundL Try.prog f (rowM vcF resF) := by
  refine SoundL.of_tr hf hname hb ?_ ?_
  · intro args G r hm
    unfold rowM at hm
    split at hm
    · split at hm
      · cases hm
        refine ⟨Nat.le_refl _, fun k hk hw => ⟨hw, ?_⟩, fun k hk hw => ?_⟩
        · cases k with
          | zero => exact ⟨_, rfl⟩
          | succ k => have hk' : k + 1 < 1 := hk; omega
        · cases k with
          | zero => simp at hw
          | succ k => have hk' : k + 1 < 1 := hk; omega
      · cases hm
    · cases hm
  · intro args G r hm hvc
    unfold rowM at hm
    split at hm
    · rename_i k rest k' F
      split at hm
      · rename_i zs hz
        cases hm
        simp only [Bool.and_eq_true, decide_eq_true_eq] at hvc
        obtain ⟨rfl, h1, h2⟩ := hvc
        have h1 : ∀ i, isFp (F i) = true := of_holds h1
        have hF : F = frw (fun i => unfp (F i)) := funext fun i => isFp_eq (h1 i)
        obtain ⟨e, tm, he, htr⟩ := h k _ zs h2
        obtain ⟨hl, hR⟩ := numsOf_R hz
        refine ⟨e, stW 1 1 tm (soG k (resF k (fun i => unfp (F i)) zs)), [], 0, he, ?_, by rw [hres]; rfl, rfl, rfl, rfl⟩
        have el : (T.slice 0 [] 0 1 k none :: rest).length = zs.length + 2 := by simp only [List.length_cons]; omega
        show Tr Try.prog 1 c ⟨_, [some (.rows k 1 F)], true, 2 ^ 1 - 1, 0⟩ e _
        rw [el]
        have hG : soG k (fun i => unfp (F i)) = [some (.rows k 1 F)] := by unfold soG; rw [← hF]
        rw [hG] at htr
        have htr2 := Tr.widen0 (s := stW 1 0 ((soS k :: (zs.map T.num ++ [lsF])) ++ undefs (fn.ntmps - (zs.length + 2))) [some (.rows k 1 F)]) (W := 1) htr (fun j _ h => by simp [stW] at h) (fun j hj h => mask_bit hj)
        refine htr2.weak0 (s0 := stW 1 0 ((soS k :: rest) ++ undefs (fn.ntmps - (zs.length + 2))) [some (.rows k 1 F)]) ⟨fun t ρ x hx => ?_, ?_, rfl, fun j t h => ⟨t, h, rfl, fun _ _ h => h⟩, fun _ h => h, fun _ _ _ => rfl, rfl, rfl⟩
        · cases t with
          | zero => exact hx
          | succ t => exact hR _ ρ t x hx
        · simp only [stW, List.length_append, List.length_cons, List.length_map]
          have := hl
          simp only [List.length_nil]
          omega
      · cases hm
    · cases hm

theorem allN_of {p : Nat → Bool} : ∀ {n : Nat}, (∀ i, i < n → p i = true) → allN p n = true
  | 0, _ => rfl
  | n + 1, h => by
    unfold allN
    rw [allN_of (fun i hi => h i (by omega)), h n (by omega)]
    rfl
theorem rowH {k n : Nat} {F : Nat → T} (h : ∀ i, isFp (F i) = true) : heapOK n [some (.rows k 1 F)] = true := by
  show (allN (fun i => idsB n (F i)) k && true) = true
  rw [allN_of fun i _ => ?_]
  · rfl
  · rw [isFp_eq (h i)]; rfl
theorem soH (k n : Nat) (g : Nat → T) : heapOK n (soG k g) = true := rowH fun _ => rfl

/-! ### swapRangeCmpFunc -/
/-- Two changed for one another. -/
def swp (g : Nat → T) (x y : Nat) : Nat → T := fun j => if j = y then g x else if j = x then g y else g j
def swR (g : Nat → T) (x y : Nat) : Nat → T := fun j => bif Nat.beq j y then .fp (g x) else bif Nat.beq j x then .fp (g y) else .fp (g j)
theorem beq_ite {j y : Nat} {α : Type} (a b : α) : (bif Nat.beq j y then a else b) = if j = y then a else b := by
  by_cases h : j = y
  · subst h; rw [Nat.beq_refl, if_pos rfl]; rfl
  · rw [beq_ne h, if_neg h]; rfl
theorem swR_eq (g : Nat → T) (x y : Nat) : swR g x y = frw (swp g x y) := by
  funext j
  unfold swR frw swp
  rw [beq_ite, beq_ite]
  split
  · rfl
  · split <;> rfl
noncomputable def swC : Code := bodyC Try.f53
noncomputable def swX : Code := postC 1 swC
noncomputable def swB : Code := cB (cB swX)
theorem swC_eq : swC = .seq (cL swC) (.block 0 (.loop swB)) := by kernel_rfl
section
variable (g : Nat → T) (k : Nat) (a b n i : Int)
def swT : List T := tmk [(0, soS k), (1, .num a), (2, .num b), (3, .num n), (10, .num i)] 0 38
theorem sw_i : Tr Try.prog 1 (cL swC) (stW 1 1 ((soS k :: ([a, b, n].map T.num ++ [lsF])) ++ undefs 33) (soG k g)) .normal (stW 1 1 (swT k a b n 0) (soG k g)) :=
  Tr.evW (n := 1000000) (N := 1) (keep := maskOf [0, 1, 2, 3, 10]) (nm := maskOf [10]) (vc := true) (env0_ok _) mix (by kernel_rfl) rfl rfl rfl (soH _ _ _)
def swV : Bool := decide (-9223372036854775808 ≤ i + 1 ∧ i + 1 ≤ 9223372036854775807) && true &&
  (decide (-9223372036854775808 ≤ a + i ∧ a + i ≤ 9223372036854775807) &&
    (decide (-9223372036854775808 ≤ b + i ∧ b + i ≤ 9223372036854775807) &&
      (decide (-9223372036854775808 ≤ b + i ∧ b + i ≤ 9223372036854775807) &&
        (decide (0 ≤ b + i ∧ b + i < k) && (decide (0 + (b + i).toNat < k) && true &&
          (decide (-9223372036854775808 ≤ a + i ∧ a + i ≤ 9223372036854775807) &&
            (decide (0 ≤ a + i ∧ a + i < k) && (decide (0 + (a + i).toNat < k) && true &&
              (decide (0 ≤ a + i ∧ a + i < k) && (decide (0 + (a + i).toNat < k) && true &&
                (decide (0 ≤ b + i ∧ b + i < k) && (decide (0 + (b + i).toNat < k) && true && true))))))))))) && (decide (i < n) == true && true && true))
theorem sw_s (hv : swV k a b n i = true) : Tr Try.prog 1 swB (stW 1 1 (swT k a b n i) (soG k g)) .normal (stW 1 1 (swT k a b n (i + 1)) [some (.rows k 1 (swR g (0 + (a + i).toNat) (0 + (b + i).toNat)))]) :=
  Tr.evW (n := ⟨1000000, [(13, true)]⟩) (N := 1) (keep := maskOf [0, 1, 2, 3, 10]) (nm := maskOf [10]) (vc := swV k a b n i) (env0_ok _) mix (by kernel_rfl) hv rfl rfl (rowH fun j => by rw [swR_eq]; rfl)
theorem sw_x (hv : decide (i < n) = false) : Tr Try.prog 1 swB (stW 1 1 (swT k a b n i) (soG k g)) (.exit 0) (stW 1 1 (tmk [] 0 38) (soG k g)) :=
  Tr.evW (n := ⟨1000000, [(13, false)]⟩) (N := 1) (keep := 0) (nm := 0) (vc := decide (i < n) == false && true && true) (env0_ok _) mix (by kernel_rfl) (by rw [hv]; rfl) rfl rfl (soH _ _ _)
end
/-- So many changed. -/
def swps (g : Nat → T) (a b : Nat) : Nat → Nat → T
  | 0 => g
  | i + 1 => swp (swps g a b i) (a + i) (b + i)
theorem sw_run (g : Nat → T) {k a b n : Nat} (hk : k ≤ 1099511627776) (ha : a + n ≤ k) (hb : b + n ≤ k) :
    Tr Try.prog 1 swC (stW 1 1 ((soS k :: ([(a : Int), b, n].map T.num ++ [lsF])) ++ undefs 33) (soG k g)) .normal (stW 1 1 (tmk [] 0 38) (soG k (swps g a b n))) := by
  rw [swC_eq]
  refine Tr.seq (sw_i g k a b n) ?_
  refine Tr.iter (n := n) (S := fun i => stW 1 1 (swT k a b n (i : Nat)) (soG k (swps g a b i))) (fun i hi => ?_) (sw_x _ _ _ _ _ _ (decide_eq_false (by omega)))
  have h := sw_s (swps g a b i) k a b n i (by
    simp only [swV, Bool.and_true, Bool.and_eq_true, decide_eq_true_eq, beq_iff_eq]
    omega)
  rw [swR_eq, show 0 + ((a : Int) + (i : Nat)).toNat = a + i by omega, show 0 + ((b : Int) + (i : Nat)).toNat = b + i by omega] at h
  exact h
noncomputable def swF (g : Nat → T) (a b n : Nat) : Nat → T := hid swps g a b n
theorem swF_eq (g : Nat → T) (a b n : Nat) : swF g a b n = swps g a b n := by unfold swF; rw [hid_eq]
def swVc (k : Nat) (_ : Nat → T) : List Int → Bool
  | [a, b, n] => decide (0 ≤ a ∧ 0 ≤ b ∧ 0 ≤ n ∧ a + n ≤ k ∧ b + n ≤ k ∧ k ≤ 1099511627776)
  | _ => false
noncomputable def swRes (_ : Nat) (g : Nat → T) : List Int → Nat → T
  | [a, b, n] => swF g a.toNat b.toNat n.toNat
  | _ => g
theorem Swap_ok : SoundL Try.prog 53 (rowM swVc swRes) := by
  refine rowM_ok (fn := Try.f53) (c := swC) (by kernel_rfl) (by kernel_rfl) (by kernel_rfl) (by kernel_rfl) ?_
  intro k g zs hv
  unfold swVc at hv
  split at hv
  · rename_i a b n
    rw [decide_eq_true_eq] at hv
    obtain ⟨a, rfl⟩ := Int.eq_ofNat_of_zero_le hv.1
    obtain ⟨b, rfl⟩ := Int.eq_ofNat_of_zero_le hv.2.1
    obtain ⟨n, rfl⟩ := Int.eq_ofNat_of_zero_le hv.2.2.1
    refine ⟨.normal, tmk [] 0 38, .inr rfl, ?_⟩
    have h := sw_run g (k := k) (a := a) (b := b) (n := n) (by omega) (by omega) (by omega)
    rw [← swF_eq] at h
    exact h
  · cases hv

/-- What it comes to, where the two do not meet. -/
theorem swps_at (g : Nat → T) {a b : Nat} : ∀ (n : Nat), (a + n ≤ b ∨ b + n ≤ a) → ∀ j, swps g a b n j = if a ≤ j ∧ j < a + n then g (b + (j - a)) else if b ≤ j ∧ j < b + n then g (a + (j - b)) else g j
  | 0, _, j => by
    unfold swps
    rw [if_neg (by omega), if_neg (by omega)]
  | n + 1, h, j => by
    have ih := swps_at g n (by omega : a + n ≤ b ∨ b + n ≤ a)
    show swp (swps g a b n) (a + n) (b + n) j = _
    unfold swp
    by_cases h1 : j = b + n
    · rw [if_pos h1, ih, if_neg (by omega), if_neg (by omega), if_neg (by omega), if_pos (by omega)]
      congr 1; omega
    · rw [if_neg h1]
      by_cases h2 : j = a + n
      · rw [if_pos h2, ih, if_neg (by omega), if_neg (by omega), if_pos (by omega)]
        congr 1; omega
      · rw [if_neg h2, ih]
        by_cases h3 : a ≤ j ∧ j < a + n
        · rw [if_pos h3, if_pos (by omega)]
        · rw [if_neg h3]
          by_cases h4 : b ≤ j ∧ j < b + n
          · rw [if_pos h4, if_neg (by omega), if_pos (by omega)]
          · rw [if_neg h4, if_neg (by omega), if_neg (by omega)]
end Go.Proofs.Ytjianphppcappaa

/-! slices.rotateCmpFunc by its model. No condition. -/
namespace Go.Proofs.Ytjianphppcappaa
open Go.AE
set_option maxRecDepth 100000
noncomputable def envRo : Env := env0.set 53 (liftL reach (rowM swVc swRes))
theorem envRo_ok : EnvOK Try.prog envRo := (env0_ok _).set (Swap_ok.lift reach)
noncomputable def roC : Code := bodyC Try.f52
noncomputable def roX : Code := postC 2 roC
noncomputable def roB : Code := cB (cB (cL roX))
theorem roX_eq : roX = .seq (.block 0 (.loop roB)) (cR roX) := by kernel_rfl
def i64B (z : Int) : Bool := decide (-9223372036854775808 ≤ z ∧ z ≤ 9223372036854775807)
/-- What a call of such a function owes beside its own. -/
noncomputable def cvB (k : Nat) (g : Nat → T) (v : Bool) : Bool := (decide (k = k) && (allFp (frw g) && v)) && (allN (fun i => idsL [0] (frw g i)) k && true)
theorem cvB_ok {k : Nat} {g : Nat → T} {v : Bool} (h : v = true) : cvB k g v = true := by
  unfold cvB
  rw [allFp_frw, h, allN_of (p := fun i => idsL [0] (frw g i)) fun i _ => rfl, decide_eq_true rfl]
  rfl
def swD (k : Nat) (a b n : Int) : Bool := decide (0 ≤ a ∧ 0 ≤ b ∧ 0 ≤ n ∧ a + n ≤ k ∧ b + n ≤ k ∧ k ≤ 1099511627776)
section
variable (g : Nat → T) (k : Nat) (a m b i j : Int)
def roT : List T := tmk [(0, soS k), (1, .num a), (2, .num m), (3, .num b), (4, lsF), (10, .num i), (11, .num j)] 0 58
theorem ro_0 : (evCode Try.prog envRo 1000000 (preC 2 roC) (stW 1 1 ((soS k :: ([a, m, b].map T.num ++ [lsF])) ++ undefs 53) (soG k g))).map (cutPW 1 1 (maskOf [0, 1, 2, 3, 4, 10, 11]) (maskOf [10, 11])) =
  some (.normal, i64B (b - m) && true && (i64B (m - a) && true && true), roT k a m b (m - a) (b - m), soG k g, true) := by kernel_rfl
noncomputable def roV1 : Bool := (i64B (i - j) && true) && ((i64B (m - i) && (cvB k g (swD k (m - i) m j) && true)) && ((decide (i > j) == true && true) && ((!(i == j)) == true && true && true)))
theorem ro_1 (hv : roV1 g k m i j = true) : Tr Try.prog 1 roB (stW 1 1 (roT k a m b i j) (soG k g)) .normal (stW 1 1 (roT k a m b (i - j) j) (soG k (swF g (m - i).toNat m.toNat j.toNat))) :=
  Tr.evW (n := ⟨1000000, [(20, true), (23, true)]⟩) (N := 1) (keep := maskOf [0, 1, 2, 3, 4, 10, 11]) (nm := maskOf [10, 11]) (vc := roV1 g k m i j) envRo_ok mix (by kernel_rfl) hv rfl rfl (soH _ _ _)
noncomputable def roV2 : Bool := (i64B (j - i) && true) && ((i64B (m - i) && (i64B (m + j) && (i64B (m + j - i) && (cvB k g (swD k (m - i) (m + j - i) i) && true)))) && ((decide (i > j) == false && true) && ((!(i == j)) == true && true && true)))
theorem ro_2 (hv : roV2 g k m i j = true) : Tr Try.prog 1 roB (stW 1 1 (roT k a m b i j) (soG k g)) .normal (stW 1 1 (roT k a m b i (j - i)) (soG k (swF g (m - i).toNat (m + j - i).toNat i.toNat))) :=
  Tr.evW (n := ⟨1000000, [(20, true), (23, false)]⟩) (N := 1) (keep := maskOf [0, 1, 2, 3, 4, 10, 11]) (nm := maskOf [10, 11]) (vc := roV2 g k m i j) envRo_ok mix (by kernel_rfl) hv rfl rfl (soH _ _ _)
theorem ro_x (hv : (i == j) = true) : Tr Try.prog 1 roB (stW 1 1 (roT k a m b i j) (soG k g)) (.exit 0) (stW 1 1 (roT k a m b i j) (soG k g)) :=
  Tr.evW (n := ⟨1000000, [(20, false)]⟩) (N := 1) (keep := maskOf [0, 1, 2, 3, 4, 10, 11]) (nm := maskOf [10, 11]) (vc := (!(i == j)) == false && true && true) envRo_ok mix (by kernel_rfl) (by rw [hv]; rfl) rfl rfl (soH _ _ _)
noncomputable def roV3 : Bool := (i64B (m - i) && (cvB k g (swD k (m - i) m i) && true)) && true
theorem ro_3 (hv : roV3 g k m i = true) : Tr Try.prog 1 (cR roX) (stW 1 1 (roT k a m b i j) (soG k g)) .normal (stW 1 1 (tmk [] 0 58) (soG k (swF g (m - i).toNat m.toNat i.toNat))) :=
  Tr.evW (n := 1000000) (N := 1) (keep := 0) (nm := 0) (vc := roV3 g k m i) envRo_ok mix (by kernel_rfl) hv rfl rfl (soH _ _ _)
end
/-! ### What it comes to -/
/-- Two blocks, one behind the other, changed for one another. -/
def rt (g : Nat → T) (a m b : Nat) : Nat → T := fun j => if a ≤ j ∧ j < a + (b - m) then g (j + (m - a)) else if a + (b - m) ≤ j ∧ j < b then g (j - (b - m)) else g j
theorem rt_eq {g : Nat → T} {m i : Nat} (h : i ≤ m) : swps g (m - i) m i = rt g (m - i) m (m + i) := by
  funext x
  rw [swps_at g i (by omega)]
  unfold rt
  repeat' split
  all_goals first | rfl | (exfalso; omega) | (congr 1; omega)
theorem rt_1 {g : Nat → T} {m i j : Nat} (h : i ≤ m) (hij : j < i) : rt (swps g (m - i) m j) (m - (i - j)) m (m + j) = rt g (m - i) m (m + j) := by
  funext x
  unfold rt
  simp only [swps_at g j (by omega : m - i + j ≤ m ∨ m + j ≤ m - i)]
  repeat' split
  all_goals first | rfl | (exfalso; omega) | (congr 1; omega)
theorem rt_2 {g : Nat → T} {m i j : Nat} (h : i ≤ m) (hij : i < j) : rt (swps g (m - i) (m + j - i) i) (m - i) m (m + (j - i)) = rt g (m - i) m (m + j) := by
  funext x
  unfold rt
  simp only [swps_at g i (by omega : m - i + i ≤ m + j - i ∨ m + j - i + i ≤ m - i)]
  repeat' split
  all_goals first | rfl | (exfalso; omega) | (congr 1; omega)
theorem ro_loop {k m : Nat} (a b : Int) (hk : k ≤ 1099511627776) : ∀ (s i j : Nat) (g : Nat → T), i + j ≤ s → 0 < i → 0 < j → i ≤ m → m + j ≤ k →
    ∃ n d g', 0 < d ∧ d ≤ m ∧ m + d ≤ k ∧ TrN Try.prog 1 roB n (stW 1 1 (roT k a m b i j) (soG k g)) (.exit 0) (stW 1 1 (roT k a m b d d) (soG k g')) ∧ swps g' (m - d) m d = rt g (m - i) m (m + j)
  | 0, i, j, g, hs, hi, _, _, _ => by omega
  | s + 1, i, j, g, hs, hi, hj, him, hjk => by
    rcases Nat.lt_trichotomy i j with h | h | h
    · obtain ⟨n, d, g', d0, d1, d2, htr, he⟩ := ro_loop a b hk s i (j - i) (swps g (m - i) (m + j - i) i) (by omega) hi (by omega) him (by omega)
      refine ⟨n + 1, d, g', d0, d1, d2, TrN.next ?_ htr, by rw [he, rt_2 him h]⟩
      have hst := ro_2 g k a m b i j ?_
      · rw [swF_eq, show ((m : Int) - i).toNat = m - i by omega, show ((m : Int) + j - i).toNat = m + j - i by omega, Int.toNat_natCast, show (j : Int) - i = ((j - i : Nat) : Int) by omega] at hst
        exact hst
      · unfold roV2
        rw [cvB_ok (by unfold swD; exact decide_eq_true (by omega))]
        simp only [i64B, Bool.and_true, Bool.and_eq_true, decide_eq_true_eq, beq_iff_eq, decide_eq_false_iff_not, Bool.not_eq_true', beq_eq_false_iff_ne]
        omega
    · subst h
      exact ⟨1, i, g, hi, him, hjk, TrN.done (ro_x g k a m b i i (by simp)) (by intro h; cases h), rt_eq him⟩
    · obtain ⟨n, d, g', d0, d1, d2, htr, he⟩ := ro_loop a b hk s (i - j) j (swps g (m - i) m j) (by omega) (by omega) hj (by omega) hjk
      refine ⟨n + 1, d, g', d0, d1, d2, TrN.next ?_ htr, by rw [he, rt_1 him h]⟩
      have hst := ro_1 g k a m b i j ?_
      · rw [swF_eq, show ((m : Int) - i).toNat = m - i by omega, Int.toNat_natCast, Int.toNat_natCast, show (i : Int) - j = ((i - j : Nat) : Int) by omega] at hst
        exact hst
      · unfold roV1
        rw [cvB_ok (by unfold swD; exact decide_eq_true (by omega))]
        simp only [i64B, Bool.and_true, Bool.and_eq_true, decide_eq_true_eq, beq_iff_eq, decide_eq_false_iff_not, Bool.not_eq_true', beq_eq_false_iff_ne]
        omega
theorem ro_run (g : Nat → T) {k a m b : Nat} (hk : k ≤ 1099511627776) (h1 : a < m) (h2 : m < b) (h3 : b ≤ k) :
    Tr Try.prog 1 roC (stW 1 1 ((soS k :: ([(a : Int), m, b].map T.num ++ [lsF])) ++ undefs 53) (soG k g)) .normal (stW 1 1 (tmk [] 0 58) (soG k (rt g a m b))) := by
  refine Tr.preW envRo_ok mix 1 2 (maskOf [0, 1, 2, 3, 4, 10, 11]) (maskOf [10, 11]) (ro_0 g k a m b) ?_ (soH _ _ _) ?_
  · simp only [i64B, Bool.and_true, Bool.and_eq_true, decide_eq_true_eq]
    omega
  show Tr Try.prog 1 roX _ _ _
  rw [roX_eq]
  obtain ⟨n, d, g', d0, d1, d2, htr, he⟩ := ro_loop (k := k) (m := m) a b hk (m - a + (b - m)) (m - a) (b - m) g (Nat.le_refl _) (by omega) (by omega) (by omega) (by omega)
  rw [show m - (m - a) = a by omega, show m + (b - m) = b by omega] at he
  rw [show ((m : Int) - a) = ((m - a : Nat) : Int) by omega, show ((b : Int) - m) = ((b - m : Nat) : Int) by omega]
  refine Tr.seq (Tr.blockX (Tr.loop htr)) ?_
  have hst := ro_3 g' k a m b d d ?_
  · rw [swF_eq, show ((m : Int) - d).toNat = m - d by omega, Int.toNat_natCast, Int.toNat_natCast, he] at hst
    exact hst
  · unfold roV3
    rw [cvB_ok (by unfold swD; exact decide_eq_true (by omega))]
    simp only [i64B, Bool.and_true, decide_eq_true_eq]
    omega
noncomputable def rtF (g : Nat → T) (a m b : Nat) : Nat → T := hid rt g a m b
theorem rtF_eq (g : Nat → T) (a m b : Nat) : rtF g a m b = rt g a m b := by unfold rtF; rw [hid_eq]
def roVc (k : Nat) (_ : Nat → T) : List Int → Bool
  | [a, m, b] => decide (0 ≤ a ∧ a < m ∧ m < b ∧ b ≤ k ∧ k ≤ 1099511627776)
  | _ => false
noncomputable def roRes (_ : Nat) (g : Nat → T) : List Int → Nat → T
  | [a, m, b] => rtF g a.toNat m.toNat b.toNat
  | _ => g
theorem Rotate_ok : SoundL Try.prog 52 (rowM roVc roRes) := by
  refine rowM_ok (fn := Try.f52) (c := roC) (by kernel_rfl) (by kernel_rfl) (by kernel_rfl) (by kernel_rfl) ?_
  intro k g zs hv
  unfold roVc at hv
  split at hv
  · rename_i a m b
    rw [decide_eq_true_eq] at hv
    obtain ⟨a, rfl⟩ := Int.eq_ofNat_of_zero_le hv.1
    obtain ⟨m, rfl⟩ := Int.eq_ofNat_of_zero_le (show 0 ≤ m by omega)
    obtain ⟨b, rfl⟩ := Int.eq_ofNat_of_zero_le (show 0 ≤ b by omega)
    refine ⟨.normal, tmk [] 0 58, .inr rfl, ?_⟩
    have h := ro_run g (k := k) (a := a) (m := m) (b := b) (by omega) (by omega) (by omega) (by omega)
    rw [← rtF_eq] at h
    exact h
  · cases hv
end Go.Proofs.Ytjianphppcappaa
