/- Abstract values and operations. No condition. -/
import Derived.Test.YtiolcdjnmnhcgaaFd
import Derived.Orders
import Derived.Below
import Derived.Laws.Rows
import Derived.Laws.Tables
import Derived.Laws.Cells
import Derived.Laws.IdiomCopy
import Derived.Laws.NewBlocks
import Derived.Laws.StructEq
import Derived.ChangeKeysEq

/-! Values that are told by what they mean: numbers of the field, points of the curve. No condition. -/
namespace Go.AE
open Go Fardel

/-- A value that the kernel does not open. -/
noncomputable def hid {α : Type} (x : α) : α := Classical.choose (⟨x, rfl⟩ : ∃ y, y = x)
theorem hid_eq {α : Type} (x : α) : hid x = x := Classical.choose_spec (⟨x, rfl⟩ : ∃ y, y = x)

/-- The digits of sixteen bits of a number. -/
noncomputable def dg (v : F) (i : Nat) : Int := hid (fun (v : F) (i : Nat) => ((v.val / 65536 ^ i % 65536 : Nat) : Int)) v i
theorem dg_eq (v : F) (i : Nat) : dg v i = ((v.val / 65536 ^ i % 65536 : Nat) : Int) := by unfold dg; rw [hid_eq]

inductive Abs where
  | fe (v : F)
  | pt (p : Pt)
  | nn (v : F)
  | view (off : Nat) (k : IntKind) (n : Nat) (f : Nat → Int)

def isCell : Value → Prop
  | .agg _ | .tuple _ => False
  | _ => True

def limbs (x : Fe) : List Value := [.int .u64 x.l0, .int .u64 x.l1, .int .u64 x.l2, .int .u64 x.l3, .int .u64 x.l4]

def Abs.size : Abs → Nat
  | .fe _ => 5
  | .pt _ => 21
  | .nn _ => 16
  | .view off _ n _ => off + n

/-- Coordinates of a point; or none, where it is the neutral one. -/
def PtIs (p : Pt) (cs : List Value) : Prop :=
  (∃ (x y z t : F) (a b c e : Fe), Ext x y z t p ∧ a.is x ∧ b.is y ∧ c.is z ∧ e.is t ∧ cs = limbs a ++ (limbs b ++ (limbs c ++ (limbs e ++ [.bool true])))) ∨
  (p = .zero ∧ ∃ l, l.length = 20 ∧ (∀ x ∈ l, isCell x) ∧ cs = l ++ [.bool false])

def Abs.is : Abs → List Value → Prop
  | .fe v, cs => ∃ x : Fe, x.is v ∧ cs = limbs x
  | .pt p, cs => PtIs p cs
  | .nn v, cs => cs.length = 16 ∧ ∀ i, i < 16 → cs[i]? = some (.int .u64 (dg v i))
  | .view off k n f, cs => cs.length = off + n ∧ (∀ x ∈ cs, isCell x) ∧ ∀ i, i < n → cs[off + i]? = some (.int k (f i))

theorem limbs_cells (x : Fe) : ∀ y ∈ limbs x, isCell y := by
  intro y hy
  simp only [limbs, List.mem_cons, List.not_mem_nil, or_false] at hy
  rcases hy with rfl | rfl | rfl | rfl | rfl <;> trivial

theorem Abs.is_len {a : Abs} {cs : List Value} (h : a.is cs) : cs.length = a.size := by
  cases a with
  | fe v => obtain ⟨x, _, rfl⟩ := h; rfl
  | pt p =>
    rcases h with ⟨x, y, z, t, a, b, c, e, _, _, _, _, _, rfl⟩ | ⟨_, l, hl, _, rfl⟩
    · rfl
    · simp [hl, Abs.size]
  | nn v => exact h.1
  | view => exact h.1

theorem Abs.is_cells {a : Abs} {cs : List Value} (h : a.is cs) : ∀ x ∈ cs, isCell x := by
  cases a with
  | fe v => obtain ⟨x, _, rfl⟩ := h; exact limbs_cells x
  | pt p =>
    rcases h with ⟨x, y, z, t, a, b, c, e, _, _, _, _, _, rfl⟩ | ⟨_, l, hl, hc, rfl⟩
    · intro w hw
      simp only [List.mem_append, List.mem_singleton] at hw
      rcases hw with h | h | h | h | rfl
      · exact limbs_cells _ _ h
      · exact limbs_cells _ _ h
      · exact limbs_cells _ _ h
      · exact limbs_cells _ _ h
      · trivial
    · intro w hw
      simp only [List.mem_append, List.mem_singleton] at hw
      rcases hw with h | rfl
      · exact hc w h
      · trivial
  | nn v =>
    intro w hw
    obtain ⟨e, h⟩ := h
    obtain ⟨j, hj, rfl⟩ := List.mem_iff_getElem.1 hw
    have := h j (by omega)
    rw [List.getElem?_eq_getElem hj] at this
    rw [Option.some.inj this]; trivial
  | view => exact h.2.1

end Go.AE

/-! Abstract values: trees whose leaves are symbolic, and how they stand for the values of the machine. No condition. -/
namespace Go.AE
open Go
noncomputable section

/-- One step of a path into a value's parts, with its place in cells. -/
inductive Step where
  | fld (j o : Nat)
  | idx (i m : Nat)

def Step.off : Step → Nat
  | .fld _ o => o
  | .idx i m => i * m

def poff : List Step → Nat
  | [] => 0
  | s :: p => s.off + poff p

theorem poff_append (p q : List Step) : poff (p ++ q) = poff p + poff q := by
  induction p with
  | nil => simp [poff]
  | cons s p ih => simp [poff, ih]; omega

inductive T where
  | any
  | bool (b : Bool)
  | int (k : IntKind) (n : Int)
  | bit (k : IntKind) (b : Bool)
  | word (n : Nat)
  | str (s : ByteArray)
  | nilptr
  | ptr (id : Nat) (path : List Step)
  | nilslice
  | slice (id : Nat) (path : List Step) (lo m len : Nat) (cap : Option Nat)
  | fn (f : Fn) (cap : T)
  | nilfn
  | opt (g : Bool) (v : T)
  | tup (t : T)
  | nil
  | cons (h t : T)
  | rows (n m : Nat) (f : Nat → T)
  | ints (k : IntKind) (n : Nat) (f : Nat → Int)
  | abs (a : Abs)

instance : Inhabited T := ⟨.any⟩

/-- Which machine block, and of how many cells, an id stands for. -/
abbrev Rho := Nat → Option (Nat × Nat)

def Rho.Ext (ρ ρ' : Rho) : Prop := ∀ k p, ρ k = some p → ρ' k = some p
theorem Rho.Ext.refl (ρ : Rho) : ρ.Ext ρ := fun _ _ h => h
theorem Rho.Ext.trans {a b c : Rho} (h : a.Ext b) (h' : b.Ext c) : a.Ext c := fun k p e => h' k p (h k p e)

structure Rel3 where
  c : List Value → Prop
  v : Value → Prop
  l : List Value → Prop

def leafR (p : Value → Prop) : Rel3 := ⟨fun cs => ∃ x, cs = [x] ∧ p x, p, fun _ => False⟩

def SliceRel (b sz : Nat) (path : List Step) (lo m len : Nat) : Option Nat → Value → Prop
  | some c, x => x = .slice (some ⟨b, poff path + lo * m, none⟩) len c
  | none, x => path = [] ∧ 0 < m ∧ ((∃ c, x = .slice (some ⟨b, lo * m, none⟩) len c ∧ (lo + c) * m = sz ∧ len ≤ c) ∨ (len = 0 ∧ ∃ a, x = .slice a 0 0 ∧ ∀ a', a = some a' → a'.block = b))

def R (ρ : Rho) : T → Rel3
  | .any => ⟨fun cs => ∃ x, cs = [x] ∧ isCell x, fun _ => True, fun _ => False⟩
  | .bool b => leafR (· = .bool b)
  | .int k n => leafR (· = .int k n)
  | .bit k b => leafR (· = .int k (bif b then 1 else 0))
  | .word n => leafR (· = .int .u64 ((n % 18446744073709551616 : Nat) : Int))
  | .str s => leafR (· = .string s)
  | .nilptr => leafR (· = .pointer none)
  | .ptr id path => leafR fun x => ∃ b sz, ρ id = some (b, sz) ∧ x = .pointer (some ⟨b, poff path, none⟩)
  | .nilslice => leafR (· = .slice none 0 0)
  | .slice id path lo m len cap => leafR fun x => ∃ b sz, ρ id = some (b, sz) ∧ SliceRel b sz path lo m len cap x
  | .fn f cap => leafR fun x => ∃ vs, x = .func f #[] vs ∧ (R ρ cap).l vs.toList
  | .nilfn => leafR (· = .nilFunc)
  | .opt g t => ⟨fun _ => False, fun x => (g = true → (R ρ t).v x) ∧ (g = false → x = undef), fun _ => False⟩
  | .tup t => ⟨fun _ => False, fun x => ∃ vs, x = .tuple vs ∧ (R ρ t).l vs.toList, fun _ => False⟩
  | .nil => ⟨fun cs => cs = [], fun x => x = .agg #[], fun xs => xs = []⟩
  | .cons h t => ⟨fun cs => ∃ a b, cs = a ++ b ∧ (R ρ h).c a ∧ (R ρ t).c b,
      fun x => ∃ cs, x = .agg cs ∧ ∃ a b, cs.toList = a ++ b ∧ (R ρ h).c a ∧ (R ρ t).c b,
      fun xs => ∃ y ys, xs = y :: ys ∧ (R ρ h).v y ∧ (R ρ t).l ys⟩
  | .rows n m f => ⟨fun cs => cs.length = n * m ∧ ∀ i, i < n → (R ρ (f i)).c ((cs.drop (i * m)).take m),
      fun x => ∃ cs, x = .agg cs ∧ cs.toList.length = n * m ∧ ∀ i, i < n → (R ρ (f i)).c ((cs.toList.drop (i * m)).take m),
      fun _ => False⟩
  | .ints k n f => ⟨fun cs => cs.length = n ∧ ∀ i, i < n → cs[i]? = some (.int k (f i)),
      fun x => ∃ cs, x = .agg cs ∧ cs.toList.length = n ∧ ∀ i, i < n → cs.toList[i]? = some (.int k (f i)), fun _ => False⟩
  | .abs a => ⟨a.is, fun x => ∃ cs, x = .agg cs ∧ a.is cs.toList, fun _ => False⟩

def T.isAgg : T → Bool
  | .nil | .cons .. | .rows .. | .ints .. | .abs _ => true
  | _ => false

/-- A value that fits one cell for sure. -/
def T.isLeaf : T → Bool
  | .any | .opt .. | .tup .. | .nil | .cons .. | .rows .. | .ints .. | .abs _ => false
  | _ => true

def T.size : T → Nat
  | .nil => 0
  | .cons h t => h.size + t.size
  | .rows n m _ => n * m
  | .ints _ n _ => n
  | .abs a => a.size
  | _ => 1

theorem R_mono {ρ ρ' : Rho} (h : ρ.Ext ρ') (t : T) : (∀ cs, (R ρ t).c cs → (R ρ' t).c cs) ∧ (∀ x, (R ρ t).v x → (R ρ' t).v x) ∧ (∀ xs, (R ρ t).l xs → (R ρ' t).l xs) := by
  induction t with
  | ptr id path =>
    have hp : ∀ x, (∃ b sz, ρ id = some (b, sz) ∧ x = Value.pointer (some ⟨b, poff path, none⟩)) → (∃ b sz, ρ' id = some (b, sz) ∧ x = Value.pointer (some ⟨b, poff path, none⟩)) := by
      rintro x ⟨b, sz, e, hx⟩; exact ⟨b, sz, h _ _ e, hx⟩
    refine ⟨?_, hp, fun _ h => h⟩
    rintro cs ⟨x, hcs, hx⟩; exact ⟨x, hcs, hp x hx⟩
  | slice id path lo m len cap =>
    have hp : ∀ x, (∃ b sz, ρ id = some (b, sz) ∧ SliceRel b sz path lo m len cap x) → (∃ b sz, ρ' id = some (b, sz) ∧ SliceRel b sz path lo m len cap x) := by
      rintro x ⟨b, sz, e, hx⟩; exact ⟨b, sz, h _ _ e, hx⟩
    refine ⟨?_, hp, fun _ h => h⟩
    rintro cs ⟨x, hcs, hx⟩; exact ⟨x, hcs, hp x hx⟩
  | fn f cap ih =>
    have hp : ∀ x, (∃ vs, x = Value.func f #[] vs ∧ (R ρ cap).l vs.toList) → (∃ vs, x = Value.func f #[] vs ∧ (R ρ' cap).l vs.toList) := by
      rintro x ⟨vs, hx, hl⟩; exact ⟨vs, hx, ih.2.2 _ hl⟩
    refine ⟨?_, hp, fun _ h => h⟩
    rintro cs ⟨x, hcs, hx⟩; exact ⟨x, hcs, hp x hx⟩
  | opt g t ih => exact ⟨fun _ h => h, fun x hx => ⟨fun hg => ih.2.1 _ (hx.1 hg), hx.2⟩, fun _ h => h⟩
  | tup t ih => exact ⟨fun _ h => h, fun x ⟨vs, hx, hl⟩ => ⟨vs, hx, ih.2.2 _ hl⟩, fun _ h => h⟩
  | cons a b iha ihb =>
    refine ⟨?_, ?_, ?_⟩
    · rintro cs ⟨x, y, e, hx, hy⟩; exact ⟨x, y, e, iha.1 _ hx, ihb.1 _ hy⟩
    · rintro v ⟨cs, hv, x, y, e, hx, hy⟩; exact ⟨cs, hv, x, y, e, iha.1 _ hx, ihb.1 _ hy⟩
    · rintro xs ⟨y, ys, e, hy, hys⟩; exact ⟨y, ys, e, iha.2.1 _ hy, ihb.2.2 _ hys⟩
  | rows n m f ih =>
    refine ⟨?_, ?_, fun _ h => h⟩
    · rintro cs ⟨e, hx⟩; exact ⟨e, fun i hi => (ih i).1 _ (hx i hi)⟩
    · rintro v ⟨cs, hv, e, hx⟩; exact ⟨cs, hv, e, fun i hi => (ih i).1 _ (hx i hi)⟩
  | _ => exact ⟨fun _ h => h, fun _ h => h, fun _ h => h⟩

theorem R_c_mono {ρ ρ' : Rho} (h : ρ.Ext ρ') {t : T} {cs} (hc : (R ρ t).c cs) : (R ρ' t).c cs := (R_mono h t).1 _ hc
theorem R_v_mono {ρ ρ' : Rho} (h : ρ.Ext ρ') {t : T} {x} (hc : (R ρ t).v x) : (R ρ' t).v x := (R_mono h t).2.1 _ hc
theorem R_l_mono {ρ ρ' : Rho} (h : ρ.Ext ρ') {t : T} {xs} (hc : (R ρ t).l xs) : (R ρ' t).l xs := (R_mono h t).2.2 _ hc

theorem R_size {ρ : Rho} {t : T} : ∀ {cs}, (R ρ t).c cs → cs.length = t.size := by
  induction t with
  | nil => intro cs h; cases h; rfl
  | cons a b iha ihb => rintro cs ⟨x, y, rfl, hx, hy⟩; simp [T.size, iha hx, ihb hy]
  | rows n m f ih => rintro cs ⟨e, _⟩; exact e
  | ints k n f => rintro cs ⟨e, _⟩; exact e
  | abs a => intro cs h; exact Abs.is_len h
  | opt => intro cs h; exact h.elim
  | tup => intro cs h; exact h.elim
  | _ => rintro cs ⟨x, rfl, _⟩; rfl

/-- All cells of a tree are values of one cell. -/
theorem R_cells {ρ : Rho} {t : T} : ∀ {cs}, (R ρ t).c cs → ∀ x ∈ cs, isCell x := by
  induction t with
  | nil => intro cs h; cases h; intro x hx; cases hx
  | cons a b iha ihb =>
    rintro cs ⟨x, y, rfl, hx, hy⟩ z hz
    rcases List.mem_append.1 hz with h | h
    · exact iha hx z h
    · exact ihb hy z h
  | rows n m f ih =>
    rintro cs ⟨e, h⟩ z hz
    obtain ⟨j, hj, rfl⟩ := List.mem_iff_getElem.1 hz
    rcases Nat.eq_zero_or_pos m with h0 | hm
    · subst h0; simp only [Nat.mul_zero] at e; omega
    · have hi : j / m < n := by rw [Nat.div_lt_iff_lt_mul hm]; omega
      refine ih (j / m) (h _ hi) _ ?_
      refine List.mem_iff_getElem.2 ⟨j % m, ?_, ?_⟩
      · have h1 := Nat.mod_lt j hm
        have h2 := Nat.div_add_mod j m
        have h3 : j / m * m = m * (j / m) := Nat.mul_comm _ _
        simp; omega
      · have h2 := Nat.div_add_mod j m
        have h3 : j / m * m = m * (j / m) := Nat.mul_comm _ _
        simp; congr 1; omega
  | ints k n f =>
    rintro cs ⟨e, h⟩ z hz
    obtain ⟨j, hj, rfl⟩ := List.mem_iff_getElem.1 hz
    have := h j (by omega)
    rw [List.getElem?_eq_getElem hj] at this
    rw [Option.some.inj this]; trivial
  | abs a => intro cs h; exact Abs.is_cells h
  | opt => intro cs h; exact h.elim
  | tup => intro cs h; exact h.elim
  | any => rintro cs ⟨x, rfl, hx⟩ z hz; simp at hz; exact hz ▸ hx
  | ptr id path => rintro cs ⟨x, rfl, b, sz, _, rfl⟩ z hz; simp at hz; subst hz; trivial
  | slice id path lo m len cap =>
    rintro cs ⟨x, rfl, b, sz, _, hx⟩ z hz
    simp at hz; subst hz
    cases cap with
    | some c => simp only [SliceRel] at hx; subst hx; trivial
    | none => obtain ⟨_, _, (⟨c, rfl, _⟩ | ⟨_, a, rfl, _⟩)⟩ := hx <;> trivial
  | fn f cap => rintro cs ⟨x, rfl, vs, rfl, _⟩ z hz; simp at hz; subst hz; trivial
  | _ => rintro cs ⟨x, rfl, rfl⟩ z hz; simp at hz; subst hz; trivial

theorem R_leaf {ρ : Rho} {t : T} (h : t.isLeaf = true) {x : Value} (hx : (R ρ t).v x) : (R ρ t).c [x] ∧ isCell x := by
  have hc : (R ρ t).c [x] := by
    cases t <;> first | (simp [T.isLeaf] at h; done) | exact ⟨x, rfl, hx⟩
  exact ⟨hc, R_cells hc x (by simp)⟩

theorem R_leaf_back {ρ : Rho} {t : T} (h : t.isAgg = false) {cs} (hc : (R ρ t).c cs) : ∃ x, cs = [x] ∧ (R ρ t).v x := by
  cases t with
  | any => obtain ⟨x, e, _⟩ := hc; exact ⟨x, e, trivial⟩
  | nil => simp [T.isAgg] at h
  | cons => simp [T.isAgg] at h
  | rows => simp [T.isAgg] at h
  | ints => simp [T.isAgg] at h
  | abs => simp [T.isAgg] at h
  | opt => exact hc.elim
  | tup => exact hc.elim
  | _ => exact hc

theorem R_agg {ρ : Rho} {t : T} (h : t.isAgg = true) {x : Value} : (R ρ t).v x ↔ ∃ cs, x = .agg cs ∧ (R ρ t).c cs.toList := by
  cases t with
  | nil =>
    constructor
    · rintro rfl; exact ⟨#[], rfl, rfl⟩
    · rintro ⟨cs, rfl, hc⟩
      have h0 : cs.toList = [] := hc
      have : cs = #[] := by simpa using h0
      subst this; rfl
  | cons => exact Iff.rfl
  | rows => exact Iff.rfl
  | ints => exact Iff.rfl
  | abs => exact Iff.rfl
  | _ => simp [T.isAgg] at h

/-! ### Parts -/

def nth : T → Nat → Nat → Option T
  | .cons h _, 0, o => bif Nat.beq o 0 then some h else none
  | .cons h t, j + 1, o => bif Nat.ble h.size o then nth t j (o - h.size) else none
  | _, _, _ => none

def stepT : T → Step → Option T
  | .rows _ m f, .idx i m' => bif Nat.beq m m' then some (f i) else none
  | .ints k _ f, .idx i m' => bif Nat.beq m' 1 then some (.int k (f i)) else none
  | .abs (.nn v), .idx i m' => bif Nat.beq m' 1 then some (.int .u64 (dg v i)) else none
  | .abs (.view off k _ f), .idx i m' => bif Nat.beq m' 1 then some (.int k (f (i - off))) else none
  | t, .idx i m => nth t i (i * m)
  | t, .fld j o => nth t j o

def stepOK : T → Step → Bool
  | .rows n _ _, .idx i _ => decide (i < n)
  | .ints _ n _, .idx i _ => decide (i < n)
  | .abs (.nn _), .idx i _ => decide (i < 16)
  | .abs (.view off _ n _), .idx i _ => decide (off ≤ i ∧ i < off + n)
  | _, _ => true

def get : T → List Step → Option T
  | t, [] => some t
  | t, s :: p => match stepT t s with
    | some u => get u p
    | none => none

def getOK : T → List Step → Bool
  | _, [] => true
  | t, s :: p => stepOK t s && match stepT t s with
    | some u => getOK u p
    | none => false

def setNth : T → Nat → T → T
  | .cons _ t, 0, u => .cons u t
  | .cons h t, j + 1, u => .cons h (setNth t j u)
  | t, _, _ => t

def stepSet : T → Step → T → T
  | .rows n m f, .idx i _, u => .rows n m fun j => bif Nat.beq j i then u else f j
  | .ints k n f, .idx i _, .int k' v => if k' = k then .ints k n fun j => bif Nat.beq j i then v else f j else .rows n 1 fun j => bif Nat.beq j i then .int k' v else .int k (f j)
  | .ints k n f, .idx i _, u => .rows n 1 fun j => bif Nat.beq j i then u else .int k (f j)
  | .abs (.nn v), .idx i _, .int k' w => if k' = .u64 then .ints .u64 16 fun j => bif Nat.beq j i then w else dg v j else .rows 16 1 fun j => bif Nat.beq j i then .int k' w else .int .u64 (dg v j)
  | .abs (.nn v), .idx i _, u => .rows 16 1 fun j => bif Nat.beq j i then u else .int .u64 (dg v j)
  | .abs (.view off _ n _), .idx i _, u => .rows (off + n) 1 fun j => bif Nat.beq j i then u else .any
  | t, .idx i _, u => setNth t i u
  | t, .fld j _, u => setNth t j u

def put : T → List Step → T → T
  | _, [], u => u
  | t, s :: p, u => match stepT t s with
    | some x => stepSet t s (put x p u)
    | none => t

/-- A stretch of a list, and a list with a stretch of it anew. -/
def cut (cs : List Value) (o n : Nat) : List Value := (cs.drop o).take n
def splice (cs : List Value) (o : Nat) (us : List Value) : List Value := cs.take o ++ us ++ cs.drop (o + us.length)

theorem cut_len {cs : List Value} {o n : Nat} (h : o + n ≤ cs.length) : (cut cs o n).length = n := by simp [cut]; omega
theorem splice_len {cs us : List Value} {o : Nat} (h : o + us.length ≤ cs.length) : (splice cs o us).length = cs.length := by simp [splice]; omega

theorem nth_sound {ρ : Rho} : ∀ {t : T} {j o : Nat} {u : T} {cs : List Value}, (R ρ t).c cs → nth t j o = some u → (R ρ u).c (cut cs o u.size) ∧ o + u.size ≤ cs.length := by
  intro t
  induction t with
  | cons h t _ iht =>
    intro j o u cs hc hn
    obtain ⟨a, b, rfl, ha, hb⟩ := hc
    cases j with
    | zero =>
      simp only [nth] at hn
      cases ho : Nat.beq o 0
      · rw [ho] at hn; cases hn
      · rw [ho] at hn
        have : o = 0 := Nat.eq_of_beq_eq_true ho
        subst this
        cases hn
        have hl := R_size ha
        refine ⟨?_, by simp; omega⟩
        simp only [cut, List.drop_zero]
        rw [← hl, List.take_left]; exact ha
    | succ j =>
      simp only [nth] at hn
      cases ho : Nat.ble h.size o
      · rw [ho] at hn; cases hn
      · rw [ho] at hn
        have hle : h.size ≤ o := Nat.le_of_ble_eq_true ho
        have hl := R_size ha
        obtain ⟨h1, h2⟩ := iht hb hn
        refine ⟨?_, by simp; omega⟩
        have : cut (a ++ b) o u.size = cut b (o - h.size) u.size := by
          simp only [cut]
          rw [List.drop_append, List.drop_eq_nil_of_le (by omega), List.nil_append, hl]
        rw [this]; exact h1
  | _ => intro j o u cs hc hn; simp [nth] at hn

theorem setNth_sound {ρ : Rho} : ∀ {t : T} {j o : Nat} {u u' : T} {cs us : List Value}, (R ρ t).c cs → nth t j o = some u → (R ρ u').c us → us.length = u.size →
    (R ρ (setNth t j u')).c (splice cs o us) := by
  intro t
  induction t with
  | cons h t _ iht =>
    intro j o u u' cs us hc hn hu hsz
    obtain ⟨a, b, rfl, ha, hb⟩ := hc
    cases j with
    | zero =>
      simp only [nth] at hn
      cases ho : Nat.beq o 0
      · rw [ho] at hn; cases hn
      · rw [ho] at hn
        have : o = 0 := Nat.eq_of_beq_eq_true ho
        subst this
        cases hn
        have hl := R_size ha
        refine ⟨us, b, ?_, hu, hb⟩
        simp only [splice, List.take_zero, List.nil_append, Nat.zero_add]
        rw [List.drop_append, List.drop_eq_nil_of_le (by omega), List.nil_append]
        congr 1
        rw [show us.length - a.length = 0 by omega]; rfl
    | succ j =>
      simp only [nth] at hn
      cases ho : Nat.ble h.size o
      · rw [ho] at hn; cases hn
      · rw [ho] at hn
        have hle : h.size ≤ o := Nat.le_of_ble_eq_true ho
        have hl := R_size ha
        refine ⟨a, splice b (o - h.size) us, ?_, ha, iht hb hn hu hsz⟩
        simp only [splice]
        rw [List.take_append, List.take_of_length_le (by omega), List.drop_append, List.drop_eq_nil_of_le (show a.length ≤ o + us.length by omega), List.nil_append,
          show o + us.length - a.length = o - h.size + us.length by omega, show o - a.length = o - h.size by omega]
        simp only [List.append_assoc]
  | _ => intro j o u u' cs us hc hn; simp [nth] at hn

theorem stepT_sound {ρ : Rho} {t u : T} {s : Step} {cs : List Value} (hc : (R ρ t).c cs) (hs : stepT t s = some u) (hok : stepOK t s = true) :
    (R ρ u).c (cut cs s.off u.size) ∧ s.off + u.size ≤ cs.length := by
  cases s with
  | fld j o => cases t <;> first | exact nth_sound hc hs | (simp [stepT, nth] at hs)
  | idx i m' =>
    cases t with
    | rows n m f =>
      simp only [stepT] at hs
      cases hm : Nat.beq m m'
      · rw [hm] at hs; cases hs
      · rw [hm] at hs
        have : m = m' := Nat.eq_of_beq_eq_true hm
        subst this
        cases hs
        simp only [stepOK, decide_eq_true_eq] at hok
        obtain ⟨e, h⟩ := hc
        have h1 := h i hok
        have hl := R_size h1
        have h2 : i * m + m ≤ n * m := by
          rw [← Nat.succ_mul]; exact Nat.mul_le_mul_right _ hok
        have h3 : (f i).size = m := by rw [← hl]; simp; omega
        simp only [Step.off, h3, cut]
        exact ⟨h1, by omega⟩
    | ints k n f =>
      simp only [stepT] at hs
      cases hm : Nat.beq m' 1
      · rw [hm] at hs; cases hs
      · rw [hm] at hs
        have : m' = 1 := Nat.eq_of_beq_eq_true hm
        subst this
        cases hs
        simp only [stepOK, decide_eq_true_eq] at hok
        obtain ⟨e, h⟩ := hc
        have h1 := h i hok
        simp only [Step.off, T.size, Nat.mul_one]
        refine ⟨⟨_, ?_, rfl⟩, by omega⟩
        have hi : i < cs.length := by omega
        rw [List.getElem?_eq_getElem hi] at h1
        simp only [cut]
        rw [List.drop_eq_getElem_cons hi, Option.some.inj h1]
        rfl
    | abs a =>
      cases a with
      | nn v =>
        simp only [stepT] at hs
        cases hm : Nat.beq m' 1
        · rw [hm] at hs; cases hs
        · rw [hm] at hs
          have : m' = 1 := Nat.eq_of_beq_eq_true hm
          subst this
          cases hs
          simp only [stepOK, decide_eq_true_eq] at hok
          obtain ⟨e, h⟩ := hc
          have h1 := h i hok
          simp only [Step.off, T.size, Nat.mul_one]
          refine ⟨⟨_, ?_, rfl⟩, by omega⟩
          have hi : i < cs.length := by omega
          rw [List.getElem?_eq_getElem hi] at h1
          simp only [cut]
          rw [List.drop_eq_getElem_cons hi, Option.some.inj h1]
          rfl
      | view off k n f =>
        simp only [stepT] at hs
        cases hm : Nat.beq m' 1
        · rw [hm] at hs; cases hs
        · rw [hm] at hs
          have : m' = 1 := Nat.eq_of_beq_eq_true hm
          subst this
          cases hs
          simp only [stepOK, decide_eq_true_eq] at hok
          obtain ⟨e, _, h⟩ := hc
          have h1 := h (i - off) (by omega)
          rw [show off + (i - off) = i by omega] at h1
          simp only [Step.off, T.size, Nat.mul_one]
          refine ⟨⟨_, ?_, rfl⟩, by omega⟩
          have hi : i < cs.length := by omega
          rw [List.getElem?_eq_getElem hi] at h1
          simp only [cut]
          rw [List.drop_eq_getElem_cons hi, Option.some.inj h1]
          rfl
      | _ => simp [stepT, nth] at hs
    | _ => first | exact nth_sound hc hs | (simp [stepT, nth] at hs)

theorem nn_ints {ρ : Rho} {v : Fardel.F} {cs : List Value} : (R ρ (.abs (.nn v))).c cs ↔ (R ρ (.ints .u64 16 (dg v))).c cs := Iff.rfl

theorem ints_rows {ρ : Rho} {k : IntKind} {n : Nat} {f : Nat → Int} {cs : List Value} : (R ρ (.ints k n f)).c cs ↔ (R ρ (.rows n 1 fun j => .int k (f j))).c cs := by
  constructor
  · rintro ⟨e, h⟩
    refine ⟨by omega, fun i hi => ⟨_, ?_, rfl⟩⟩
    have h1 := h i hi
    have hi' : i < cs.length := by omega
    rw [List.getElem?_eq_getElem hi'] at h1
    rw [Nat.mul_one, List.drop_eq_getElem_cons hi', Option.some.inj h1]
    rfl
  · rintro ⟨e, h⟩
    refine ⟨by omega, fun i hi => ?_⟩
    obtain ⟨x, h1, rfl⟩ := h i hi
    rw [Nat.mul_one] at h1
    have h2 : (List.take 1 (List.drop i cs))[0]? = some (.int k (f i)) := by rw [h1]; rfl
    rw [List.getElem?_take_of_lt (by omega), List.getElem?_drop] at h2
    exact h2

theorem stepSet_sound_rows {ρ : Rho} {n m i : Nat} {f : Nat → T} {u' : T} {cs us : List Value} (hc : (R ρ (.rows n m f)).c cs) (hok : i < n)
    (hu : (R ρ u').c us) (hsz : us.length = (f i).size) : (R ρ (.rows n m fun j => bif Nat.beq j i then u' else f j)).c (splice cs (i * m) us) := by
        obtain ⟨e, h⟩ := hc
        have h1 := h i hok
        have hl := R_size h1
        have h2 : i * m + m ≤ n * m := by
          rw [← Nat.succ_mul]; exact Nat.mul_le_mul_right _ hok
        have h3 : (f i).size = m := by rw [← hl]; simp; omega
        have hb : i * m + m ≤ cs.length := by omega
        rw [h3] at hsz
        refine ⟨by rw [splice_len (by omega)]; exact e, ?_⟩
        intro j hj
        by_cases hji : j = i
        · subst hji
          simp only [Nat.beq_refl, cond_true]
          have : List.take m (List.drop (j * m) (splice cs (j * m) us)) = us := by
            simp only [splice]
            rw [List.append_assoc, List.drop_append, List.drop_eq_nil_of_le (by simp; omega), List.nil_append]
            simp only [List.length_take, Nat.min_eq_left (show j * m ≤ cs.length by omega), Nat.sub_self, List.drop_zero]
            rw [List.take_append, hsz, List.take_of_length_le (by omega)]; simp
          rw [this]; exact hu
        · have hne : Nat.beq j i = false := by
            cases hb : Nat.beq j i
            · rfl
            · exact absurd (Nat.eq_of_beq_eq_true hb) hji
          simp only [hne, cond_false]
          have : List.take m (List.drop (j * m) (splice cs (i * m) us)) = List.take m (List.drop (j * m) cs) := by
            apply List.ext_getElem?
            intro k
            by_cases hk : k < m
            · rw [List.getElem?_take_of_lt hk, List.getElem?_take_of_lt hk, List.getElem?_drop, List.getElem?_drop]
              simp only [splice]
              rcases Nat.lt_or_gt_of_ne hji with hlt | hgt
              · have h4 : j * m + m ≤ i * m := by rw [← Nat.succ_mul]; exact Nat.mul_le_mul_right _ hlt
                rw [List.append_assoc, List.getElem?_append_left (by simp; omega), List.getElem?_take_of_lt (by omega)]
              · have h4 : i * m + m ≤ j * m := by rw [← Nat.succ_mul]; exact Nat.mul_le_mul_right _ hgt
                have h5 : j * m + m ≤ n * m := by rw [← Nat.succ_mul]; exact Nat.mul_le_mul_right _ hj
                rw [List.getElem?_append_right (by simp; omega), List.getElem?_drop]
                congr 1
                simp; omega
            · rw [List.getElem?_eq_none (by simp; omega), List.getElem?_eq_none (by simp; omega)]
          rw [this]; exact h j hj

theorem stepSet_sound {ρ : Rho} {t u u' : T} {s : Step} {cs us : List Value} (hc : (R ρ t).c cs) (hs : stepT t s = some u) (hok : stepOK t s = true)
    (hu : (R ρ u').c us) (hsz : us.length = u.size) : (R ρ (stepSet t s u')).c (splice cs s.off us) := by
  cases s with
  | fld j o => cases t <;> first | exact setNth_sound hc hs hu hsz | (simp [stepT, nth] at hs)
  | idx i m' =>
    cases t with
    | rows n m f =>
      simp only [stepT] at hs
      cases hm : Nat.beq m m'
      · rw [hm] at hs; cases hs
      · rw [hm] at hs
        have : m = m' := Nat.eq_of_beq_eq_true hm
        subst this
        cases hs
        simp only [stepOK, decide_eq_true_eq] at hok
        exact stepSet_sound_rows hc hok hu hsz
    | ints k n f =>
      simp only [stepT] at hs
      cases hm : Nat.beq m' 1
      · rw [hm] at hs; cases hs
      · rw [hm] at hs
        have : m' = 1 := Nat.eq_of_beq_eq_true hm
        subst this
        cases hs
        simp only [stepOK, decide_eq_true_eq] at hok
        have h1 := stepSet_sound_rows (u' := u') (ints_rows.1 hc) hok hu hsz
        cases u' with
        | int k' v =>
          simp only [stepSet]
          by_cases hk : k' = k
          · subst hk
            rw [if_pos rfl]
            refine ints_rows.2 ?_
            have e : (fun j => T.int k' (bif Nat.beq j i then v else f j)) = fun j => bif Nat.beq j i then T.int k' v else T.int k' (f j) := by
              funext j; cases Nat.beq j i <;> rfl
            rw [e]; exact h1
          · rw [if_neg hk]; exact h1
        | _ => exact h1
    | abs a =>
      cases a with
      | nn v =>
        simp only [stepT] at hs
        cases hm : Nat.beq m' 1
        · rw [hm] at hs; cases hs
        · rw [hm] at hs
          have : m' = 1 := Nat.eq_of_beq_eq_true hm
          subst this
          cases hs
          simp only [stepOK, decide_eq_true_eq] at hok
          have h1 := stepSet_sound_rows (u' := u') (ints_rows.1 (nn_ints.1 hc)) hok hu hsz
          cases u' with
          | int k' w =>
            simp only [stepSet]
            by_cases hk : k' = .u64
            · subst hk
              rw [if_pos rfl]
              refine ints_rows.2 ?_
              have e : (fun j => T.int .u64 (bif Nat.beq j i then w else dg v j)) = fun j => bif Nat.beq j i then T.int .u64 w else T.int .u64 (dg v j) := by
                funext j; cases Nat.beq j i <;> rfl
              rw [e]; exact h1
            · rw [if_neg hk]; exact h1
          | _ => exact h1
      | view off k n f =>
        simp only [stepT] at hs
        cases hm : Nat.beq m' 1
        · rw [hm] at hs; cases hs
        · rw [hm] at hs
          have : m' = 1 := Nat.eq_of_beq_eq_true hm
          subst this
          cases hs
          simp only [stepOK, decide_eq_true_eq] at hok
          have hr : (R ρ (.rows (off + n) 1 fun _ => .any)).c cs := by
            obtain ⟨e, hcell, _⟩ := hc
            refine ⟨by omega, fun j hj => ?_⟩
            have hj' : j < cs.length := by omega
            refine ⟨cs[j], ?_, hcell _ (List.getElem_mem hj')⟩
            rw [Nat.mul_one, List.drop_eq_getElem_cons hj']
            rfl
          exact stepSet_sound_rows (u' := u') hr hok.2 hu hsz
      | _ => simp [stepT, nth] at hs
    | _ => first | exact setNth_sound hc hs hu hsz | (simp [stepT, nth] at hs)

theorem cut_cut {cs : List Value} {o n o' n' : Nat} (h : o' + n' ≤ n) : cut (cut cs o n) o' n' = cut cs (o + o') n' := by
  simp only [cut]
  rw [List.drop_take, List.take_take, List.drop_drop]
  congr 1
  omega

theorem splice_cut {cs us : List Value} {o n o' : Nat} (h : o + n ≤ cs.length) (h' : o' + us.length ≤ n) :
    splice cs o (splice (cut cs o n) o' us) = splice cs (o + o') us := by
  apply List.ext_getElem?
  intro k
  have hc : (cut cs o n).length = n := cut_len h
  have hs : (splice (cut cs o n) o' us).length = n := by rw [splice_len (by omega), hc]
  simp only [splice] at hs ⊢
  rw [hs]
  by_cases h1 : k < o
  · rw [List.append_assoc, List.getElem?_append_left (by simp; omega), List.append_assoc, List.getElem?_append_left (by simp; omega), List.getElem?_take_of_lt h1, List.getElem?_take_of_lt (by omega)]
  · by_cases h2 : k < o + n
    · rw [List.getElem?_append_left (by simp only [List.length_append] at hs ⊢; simp; simp at hs; omega), List.getElem?_append_right (by simp; omega)]
      simp only [List.length_take, Nat.min_eq_left (show o ≤ cs.length by omega)]
      by_cases h3 : k < o + o'
      · rw [List.append_assoc, List.getElem?_append_left (by simp [hc]; omega), List.getElem?_take_of_lt (by omega), List.append_assoc, List.getElem?_append_left (by simp; omega), List.getElem?_take_of_lt h3]
        simp only [cut]
        rw [List.getElem?_take_of_lt (by omega), List.getElem?_drop]; congr 1; omega
      · by_cases h4 : k < o + o' + us.length
        · rw [List.getElem?_append_left (by simp [hc]; omega), List.getElem?_append_right (by simp [hc]; omega), List.getElem?_append_left (by simp; omega), List.getElem?_append_right (by simp; omega)]
          simp only [List.length_take, hc]; congr 1; omega
        · rw [List.getElem?_append_right (by simp [hc]; omega), List.getElem?_append_right (by simp; omega), List.getElem?_drop, List.getElem?_drop]
          simp only [cut]
          rw [List.getElem?_take_of_lt (by simp [hc]; simp [cut] at hc; omega), List.getElem?_drop]
          congr 1
          simp [hc]; simp [cut] at hc; omega
    · rw [List.getElem?_append_right (by simp at hs ⊢; omega), List.getElem?_append_right (by simp; omega), List.getElem?_drop, List.getElem?_drop]
      congr 1
      simp at hs ⊢; omega

theorem get_sound {ρ : Rho} : ∀ {p : List Step} {t u : T} {cs : List Value}, (R ρ t).c cs → get t p = some u → getOK t p = true →
    (R ρ u).c (cut cs (poff p) u.size) ∧ poff p + u.size ≤ cs.length := by
  intro p
  induction p with
  | nil =>
    intro t u cs hc hg _
    cases hg
    have hl := R_size hc
    simp only [poff, cut, List.drop_zero]
    rw [← hl, List.take_length]
    exact ⟨hc, by omega⟩
  | cons s p ih =>
    intro t u cs hc hg hok
    simp only [get] at hg
    simp only [getOK, Bool.and_eq_true] at hok
    cases hs : stepT t s with
    | none => rw [hs] at hg; cases hg
    | some x =>
      rw [hs] at hg hok
      obtain ⟨h1, h2⟩ := stepT_sound hc hs hok.1
      obtain ⟨h3, h4⟩ := ih h1 hg hok.2
      rw [cut_len h2] at h4
      rw [cut_cut (by omega)] at h3
      simp only [poff]
      exact ⟨h3, by omega⟩

theorem put_sound {ρ : Rho} : ∀ {p : List Step} {t u u' : T} {cs us : List Value}, (R ρ t).c cs → get t p = some u → getOK t p = true →
    (R ρ u').c us → us.length = u.size → (R ρ (put t p u')).c (splice cs (poff p) us) := by
  intro p
  induction p with
  | nil =>
    intro t u u' cs us hc hg _ hu hsz
    cases hg
    have hl := R_size hc
    simp only [poff, splice, put, List.take_zero, List.nil_append, Nat.zero_add]
    rw [List.drop_eq_nil_of_le (by omega), List.append_nil]; exact hu
  | cons s p ih =>
    intro t u u' cs us hc hg hok hu hsz
    simp only [get] at hg
    simp only [getOK, Bool.and_eq_true] at hok
    cases hs : stepT t s with
    | none => rw [hs] at hg; cases hg
    | some x =>
      rw [hs] at hg hok
      obtain ⟨h1, h2⟩ := stepT_sound hc hs hok.1
      obtain ⟨_, h4⟩ := get_sound h1 hg hok.2
      rw [cut_len h2] at h4
      have h3 := ih h1 hg hok.2 hu hsz
      have h5 := stepSet_sound hc hs hok.1 h3 (by rw [splice_len (by rw [cut_len h2]; omega), cut_len h2])
      simp only [put, hs, poff]
      rw [splice_cut h2 (by omega)] at h5
      exact h5

theorem setNth_size : ∀ {t : T} {j o : Nat} {u u' : T}, nth t j o = some u → u'.size = u.size → (setNth t j u').size = t.size := by
  intro t
  induction t with
  | cons h t _ iht =>
    intro j o u u' hn hsz
    cases j with
    | zero =>
      simp only [nth] at hn
      cases ho : Nat.beq o 0 <;> rw [ho] at hn <;> cases hn
      simp [setNth, T.size, hsz]
    | succ j =>
      simp only [nth] at hn
      cases ho : Nat.ble h.size o <;> rw [ho] at hn
      · cases hn
      · simp [setNth, T.size, iht hn hsz]
  | _ => intro j o u u' hn; simp [nth] at hn

theorem put_size : ∀ {p : List Step} {t u u' : T}, get t p = some u → u'.size = u.size → (put t p u').size = t.size := by
  intro p
  induction p with
  | nil => intro t u u' hg hsz; cases hg; exact hsz
  | cons s p ih =>
    intro t u u' hg hsz
    simp only [get] at hg
    cases hs : stepT t s with
    | none => rw [hs] at hg; cases hg
    | some x =>
      rw [hs] at hg
      have h1 := ih hg hsz
      simp only [put, hs]
      cases s with
      | fld j o => cases t <;> first | exact setNth_size hs h1 | (simp [stepT, nth] at hs)
      | idx i m =>
        cases t <;> first
          | rfl
          | exact setNth_size hs h1
          | (simp [stepT, nth] at hs; done)
          | (rename_i k n f
             generalize put x p u' = y
             cases y <;> first
               | (simp [stepSet, T.size]; done)
               | (simp only [stepSet]; split <;> simp [T.size]; done))
          | (rename_i a
             cases a <;> first
               | (simp [stepT, nth] at hs; done)
               | (generalize put x p u' = y
                  cases y <;> first
                    | (simp [stepSet, T.size, Abs.size]; done)
                    | (simp only [stepSet]; split <;> simp [T.size, Abs.size])))

end
end Go.AE

/-! The abstract evaluator of one operation. No condition. -/
namespace Go.AE
open Go
noncomputable section

abbrev Heap := List (Option T)

def hget : Heap → Nat → Option T
  | [], _ => none
  | x :: _, 0 => x
  | _ :: r, n + 1 => hget r n

def hset : Heap → Nat → Option T → Heap
  | [], _, _ => []
  | _ :: r, 0, y => y :: r
  | x :: r, n + 1, y => x :: hset r n y

theorem hset_len (G : Heap) (i : Nat) (y : Option T) : (hset G i y).length = G.length := by
  induction G generalizing i with
  | nil => rfl
  | cons x r ih => cases i <;> simp [hset, ih]

theorem hget_hset_same {G : Heap} {i : Nat} (y : Option T) (h : i < G.length) : hget (hset G i y) i = y := by
  induction G generalizing i with
  | nil => simp at h
  | cons x r ih => cases i with
    | zero => rfl
    | succ i => simp only [hset, hget]; exact ih (by simpa using h)

theorem hget_hset_ne {G : Heap} {i j : Nat} (y : Option T) (h : j ≠ i) : hget (hset G i y) j = hget G j := by
  induction G generalizing i j with
  | nil => rfl
  | cons x r ih => cases i with
    | zero => cases j with
      | zero => exact absurd rfl h
      | succ j => rfl
    | succ i => cases j with
      | zero => rfl
      | succ j => simp only [hset, hget]; exact ih (by omega)

theorem hget_lt {G : Heap} {i : Nat} {t : T} (h : hget G i = some t) : i < G.length := by
  induction G generalizing i with
  | nil => simp [hget] at h
  | cons x r ih => cases i with
    | zero => simp
    | succ i => simp only [hget] at h; have := ih h; simp; omega

theorem hget_append_left {G H : Heap} {i : Nat} (h : i < G.length) : hget (G ++ H) i = hget G i := by
  induction G generalizing i with
  | nil => simp at h
  | cons x r ih => cases i with
    | zero => rfl
    | succ i => simp only [List.cons_append, hget]; exact ih (by simpa using h)

theorem hget_append_new (G : Heap) (t : T) : hget (G ++ [some t]) G.length = some t := by
  induction G with
  | nil => rfl
  | cons x r ih => simpa [hget] using ih

/-- A block whose first cells are as a tree says; none of its cells is frozen. -/
def Blk (ρ : Rho) (t : T) (p : Nat × Nat) (w : World) : Prop :=
  ∃ cs ty fr, w.heap[p.1]? = some (.cells cs ty fr) ∧ cs.size = p.2 ∧ t.size ≤ cs.size ∧ (R ρ t).c (cs.toList.take t.size) ∧ ∀ i, i < cs.size → ¬(fr.1 ≤ i ∧ i < fr.2)

theorem Blk.mono {ρ ρ' : Rho} (h : ρ.Ext ρ') {t : T} {p : Nat × Nat} {w : World} (hb : Blk ρ t p w) : Blk ρ' t p w := by
  obtain ⟨cs, ty, fr, h1, h2, h3, h4, h5⟩ := hb
  exact ⟨cs, ty, fr, h1, h2, h3, R_c_mono h h4, h5⟩

theorem Blk.same {ρ : Rho} {t : T} {p : Nat × Nat} {w w' : World} (h : w'.heap[p.1]? = w.heap[p.1]?) (hb : Blk ρ t p w) : Blk ρ t p w' := by
  obtain ⟨cs, ty, fr, h1, h2, h3, h4, h5⟩ := hb
  exact ⟨cs, ty, fr, h.trans h1, h2, h3, h4, h5⟩

theorem Blk.lt {ρ : Rho} {t : T} {p : Nat × Nat} {w : World} (hb : Blk ρ t p w) : p.1 < w.heap.size := by
  obtain ⟨cs, ty, fr, h1, _⟩ := hb
  exact (Array.getElem?_eq_some_iff.1 h1).1

structure Res where
  vc : Bool
  v : T
  G : Heap
  t : Nat
  w : Nat

structure Sim (K : Nat → Prop) (ρ : Rho) (G : Heap) (w : World) : Prop where
  blk : ∀ k t, K k → hget G k = some t → ∃ p, ρ k = some p ∧ Blk ρ t p w
  inj : ∀ k k' t t' p p', K k → K k' → hget G k = some t → hget G k' = some t' → ρ k = some p → ρ k' = some p' → p.1 = p'.1 → k = k'

/-- What an evaluation does to the abstract heap. -/
structure Stat (G : Heap) (r : Res) : Prop where
  len : G.length ≤ r.G.length
  wt : ∀ k, k < G.length → r.w.testBit k = true → r.t.testBit k = true ∧ ∃ t, hget G k = some t
  old : ∀ k, k < G.length → r.w.testBit k = false → hget r.G k = hget G k

/-- What a run does to the memory. -/
structure Post (ρ ρ' : Rho) (G : Heap) (w : World) (r : Res) (v' : Value) (w' : World) : Prop where
  ext : ρ.Ext ρ'
  dom : ∀ k, k < G.length ∨ r.G.length ≤ k → ρ' k = ρ k
  val : (R ρ' r.v).v v'
  sim : ∀ k t, G.length ≤ k ∨ r.w.testBit k = true → hget r.G k = some t → ∃ p, ρ' k = some p ∧ Blk ρ' t p w'
  new : ∀ k t p, G.length ≤ k → hget r.G k = some t → ρ' k = some p → w.heap.size ≤ p.1 ∨ ∃ j q, j < G.length ∧ r.w.testBit j = true ∧ hget r.G j = none ∧ ρ j = some q ∧ q.1 = p.1
  inj : ∀ k k' t t' p p', G.length ≤ k → G.length ≤ k' → hget r.G k = some t → hget r.G k' = some t' → ρ' k = some p → ρ' k' = some p' → p.1 = p'.1 → k = k'
  frame : ∀ b, b < w.heap.size → (∀ k p, k < G.length → r.w.testBit k = true → ρ k = some p → p.1 ≠ b) → w'.heap[b]? = w.heap[b]?
  size : w.heap.size ≤ w'.heap.size
  os : w'.os = w.os
  tape : w'.tape = w.tape
  output : w'.output = w.output

abbrev Model := List T → Heap → Option Res

def VLs (ρ : Rho) : List T → List Value → Prop
  | [], xs => xs = []
  | t :: ts, xs => ∃ y ys, xs = y :: ys ∧ (R ρ t).v y ∧ VLs ρ ts ys

def bitK (m : Nat) (k : Nat) : Prop := m.testBit k = true

def fresh (ρ : Rho) (a b : Nat) : Prop := ∀ k, a ≤ k → k < b → ρ k = none

/-- What a call comes to. -/
def Does (P : Program) (f : FuncId) (args' : Array Value) (G : Heap) (r : Res) (ρ : Rho) (w : World) : Prop :=
  Calls P f args' w fun e w' => ∃ v', e = .returned v' ∧ ∃ ρ', Post ρ ρ' G w r v' w'

/-- What an operation's run comes to. -/
def Lands (P : Program) (K : Value → World → Prop) : Result Next → Prop
  | .ok (.value v) w' => K v w'
  | .ok .skip w' => K undef w'
  | .ok (.enter f args) w' => Calls P f args w' fun e w'' => ∃ v, e = .returned v ∧ K v w''
  | _ => False

theorem Lands.mono {P : Program} {K K' : Value → World → Prop} (h : ∀ v w, K v w → K' v w) {x : Result Next} (hx : Lands P K x) : Lands P K' x := by
  unfold Lands at *
  split at hx
  · exact h _ _ hx
  · exact h _ _ hx
  · exact Calls.mono hx fun e w' ⟨v, he, hk⟩ => ⟨v, he, h _ _ hk⟩
  · exact hx.elim

structure SoundM (P : Program) (f : FuncId) (m : Model) : Prop where
  stat : ∀ args G r, m args G = some r → Stat G r
  lands : ∀ args G r, m args G = some r → r.vc = true → ∀ ρ w args', Sim (bitK r.t) ρ G w → fresh ρ G.length r.G.length → VLs ρ args args' →
    Lands P (fun v' w' => ∃ ρ', Post ρ ρ' G w r v' w') ((callFunc f args'.toArray).run P w)

theorem SoundM.of_does {P : Program} {f : FuncId} {m : Model} (hfn : ∃ fn, P.funcs[f]? = some fn ∧ (fn.name == "runtime.NumGoroutine") = false ∧ fn.body.isNone = false) (hstat : ∀ args G r, m args G = some r → Stat G r)
    (hdoes : ∀ args G r, m args G = some r → r.vc = true → ∀ ρ w args', Sim (bitK r.t) ρ G w → fresh ρ G.length r.G.length → VLs ρ args args' → Does P f args'.toArray G r ρ w) : SoundM P f m := by
  refine ⟨hstat, fun args G r h hvc ρ w args' hs hf ha => ?_⟩
  obtain ⟨fn, hfn, hname, hbody⟩ := hfn
  have hd := hdoes args G r h hvc ρ w args' hs hf ha
  simp only [callFunc, Sem.run_bind, run_program, Result.andThen_ok, hfn, hname, hbody]
  exact hd

abbrev Env := FuncId → Option Model
def EnvOK (P : Program) (env : Env) : Prop := ∀ f m, env f = some m → SoundM P f m

/-! ### Types -/

def szO (P : Program) (t : TypeId) : Option Nat := (P.info? t).map (·.size)
def rowD : TypeDesc → Bool
  | .struct _ | .array _ _ => true
  | _ => false
/-- Is this a type whose values are of many cells, or of one, as told? -/
def aggIs (P : Program) (t : TypeId) (b : Bool) : Bool :=
  match P.underlying t with
  | some d => rowD d == b
  | none => false

def copies (z : T) : Nat → T
  | 0 => .nil
  | n + 1 => .cons z (copies z n)

def zFields (z : TypeId → Option T) : List Field → Option T
  | [] => some .nil
  | f :: r => match z f.type, zFields z r with
    | some a, some b => some (.cons a b)
    | _, _ => none

/-- A type's zero value as a tree; arrays of more than eight are rows. -/
def zeroT (P : Program) : Nat → TypeId → Option T
  | 0, _ => none
  | d + 1, t => match P.underlying t with
    | some .bool => some (.bool false)
    | some (.int k) => some (.int k 0)
    | some .string => some (.str ⟨#[]⟩)
    | some (.pointer _) => some .nilptr
    | some (.slice _) => some .nilslice
    | some (.func ..) => some .nilfn
    | some (.struct fs) => zFields (zeroT P d) fs.toList
    | some (.array n e) => match zeroT P d e with
      | some (.int k i) => some (bif Nat.ble n 8 then copies (.int k i) n else .ints k n fun _ => i)
      | some z => some (bif Nat.ble n 8 then copies z n else .rows n z.size fun _ => z)
      | none => none
    | _ => none

def zIter (f : Nat → List Value → Option (List Value)) : Nat → Nat → List Value → Option (List Value)
  | 0, _, r => some r
  | n + 1, i, r => match f i r with
    | some r' => zIter f n (i + 1) r'
    | none => none

def zInts (k : IntKind) (f : Nat → Int) : Nat → Nat → List Value → Option (List Value)
  | 0, _, r => some r
  | n + 1, i, .int k' v :: r => if k = k' ∧ f i = v then zInts k f n (i + 1) r else none
  | _, _, _ => none

/-- Do a list's first cells read as a tree? What is behind them. -/
def zmatch : T → List Value → Option (List Value)
  | .bool b, .bool b' :: r => bif b == b' then some r else none
  | .int k n, .int k' n' :: r => if k = k' ∧ n = n' then some r else none
  | .str s, .string s' :: r => bif Nat.beq s.size 0 && Nat.beq s'.size 0 then some r else none
  | .nilptr, .pointer none :: r => some r
  | .nilslice, .slice none 0 0 :: r => some r
  | .nilfn, .nilFunc :: r => some r
  | .nil, r => some r
  | .cons h t, r => match zmatch h r with
    | some r' => zmatch t r'
    | none => none
  | .rows n _ f, r => zIter (fun i => zmatch (f i)) n 0 r
  | .ints k n f, r => zInts k f n 0 r
  | _, _ => none

def isAggV : Value → Bool
  | .agg _ => true
  | _ => false

def zOf (P : Program) (t : TypeId) : Option T :=
  match (P.info? t).bind (·.zero), zeroT P 20 t with
  | some v, some z => match zmatch z v.cells.toList with
    | some [] => bif (z.isAgg == isAggV v) then some z else none
    | _ => none
  | _, _ => none

def constT : Value → T
  | .bool b => .bool b
  | .int k n => .int k n
  | .string s => .str s
  | .pointer none => .nilptr
  | .slice none 0 0 => .nilslice
  | .nilFunc => .nilfn
  | _ => .any

theorem constT_v (ρ : Rho) (v : Value) : (R ρ (constT v)).v v := by
  unfold constT
  split <;> first | rfl | trivial

/-! ### Values out of values -/

def pureR (G : Heap) (vc : Bool) (v : T) : Res := ⟨vc, v, G, 0, 0⟩

def bitI (op : BinOp) (k : IntKind) (x y : Int) : Option Int :=
  match op with
  | .and => some (bits .and k x y)
  | .or => some (bits .or k x y)
  | .xor => some (bits .xor k x y)
  | .andNot => some (bits .andNot k x y)
  | _ => none

def shlI (k : IntKind) (x y : Int) : Int := k.wrap (x * 2 ^ (min y.toNat k.bits))
def shrI (k : IntKind) (x y : Int) : Int := x.fdiv (2 ^ (min y.toNat k.bits))

/-- A bit as a number. -/
def unbit : T → T
  | .bit k b => .int k (bif b then 1 else 0)
  | .word n => .int .u64 ((n % 18446744073709551616 : Nat) : Int)
  | t => t
theorem unbit_R {ρ : Rho} {t : T} {x : Value} (h : (R ρ t).v x) : (R ρ (unbit t)).v x := by cases t <;> exact h

/-- A condition, and a value. -/
def evInt (op : BinOp) (k : IntKind) (a : Int) (b : Int) : Option (Bool × T) :=
  match op with
  | .add => some (true, .int k (k.wrap (a + b)))
  | .sub => some (true, .int k (k.wrap (a - b)))
  | .mul => some (true, .int k (k.wrap (a * b)))
  | .quo => some (decide (b ≠ 0), .int k (k.wrap (a.tdiv b)))
  | .rem => some (decide (b ≠ 0), .int k (a.tmod b))
  | .and | .or | .xor | .andNot => match bitI op k a b with
    | some n => some (true, .int k n)
    | none => none
  | .eql => some (true, .bool (a == b))
  | .neq => some (true, .bool (a != b))
  | .lss => some (true, .bool (decide (a < b)))
  | .leq => some (true, .bool (decide (a ≤ b)))
  | .gtr => some (true, .bool (decide (a > b)))
  | .geq => some (true, .bool (decide (a ≥ b)))
  | _ => none

def evBin (op : BinOp) (x y : T) : Option (Bool × T) :=
  match x, y with
  | .int k a, .int k' b =>
    match op with
    | .shl => some (decide (0 ≤ b), .int k (shlI k a b))
    | .shr => some (decide (0 ≤ b), .int k (shrI k a b))
    | op => if k = k' then evInt op k a b else none
  | .str a, .str b =>
    match op with
    | .eql => some (true, .bool (a.toList == b.toList))
    | .neq => some (true, .bool (!(a.toList == b.toList)))
    | .lss => some (true, .bool (Op.bytesLess a.toList b.toList))
    | .geq => some (true, .bool (!Op.bytesLess a.toList b.toList))
    | .gtr => some (true, .bool (!(Op.bytesLess a.toList b.toList || a.toList == b.toList)))
    | .leq => some (true, .bool (Op.bytesLess a.toList b.toList || a.toList == b.toList))
    | _ => none
  | _, _ => none

theorem evBin_sound {P : Program} {op : BinOp} {x y : T} {vc : Bool} {v : T} {t : TypeId} {ρ : Rho} {x' y' : Value} (h : evBin op x y = some (vc, v)) (hvc : vc = true)
    (hx : (R ρ x).v x') (hy : (R ρ y).v y') (w : World) : ∃ v', (binOp op t x' y').run P w = .ok v' w ∧ (R ρ v).v v' := by
  subst hvc
  unfold evBin at h
  split at h
  · obtain rfl : x' = _ := hx
    obtain rfl : y' = _ := hy
    split at h
    · simp only [Option.some.injEq, Prod.mk.injEq, decide_eq_true_eq] at h
      obtain ⟨h1, rfl⟩ := h
      have : ¬ (_ : Int) < 0 := Int.not_lt.2 h1
      exact ⟨_, by simp [binOp, Op.shift, this, shlI, shrI], rfl⟩
    · simp only [Option.some.injEq, Prod.mk.injEq, decide_eq_true_eq] at h
      obtain ⟨h1, rfl⟩ := h
      have : ¬ (_ : Int) < 0 := Int.not_lt.2 h1
      exact ⟨_, by simp [binOp, Op.shift, this, shlI, shrI], rfl⟩
    · rename_i hns1 hns2
      split at h
      · rename_i hk
        subst hk
        unfold evInt at h
        split at h <;>
          first
          | (simp only [Option.some.injEq, Prod.mk.injEq, decide_eq_true_eq, true_and] at h
             obtain ⟨h1, rfl⟩ := h
             refine ⟨_, ?_, rfl⟩
             simp [binOp, Op.intArith, Op.intDiv, Op.intCmp, h1]; done)
          | (simp only [Option.some.injEq, Prod.mk.injEq, true_and] at h
             obtain rfl := h
             refine ⟨_, ?_, rfl⟩
             simp [binOp, Op.intArith, Op.intDiv, Op.intCmp]; done)
          | (cases h; done)
          | (simp only [bitI, Option.some.injEq, Prod.mk.injEq, true_and] at h
             obtain rfl := h
             refine ⟨_, ?_, rfl⟩
             simp [binOp, Op.intBits, bits]; done)
      · cases h
  · obtain rfl : x' = _ := hx
    obtain rfl : y' = _ := hy
    split at h <;> first
      | (simp only [Option.some.injEq, Prod.mk.injEq, true_and] at h
         obtain rfl := h
         refine ⟨_, ?_, rfl⟩
         simp [binOp, Op.stringOp]; done)
      | (cases h; done)
  · cases h

end
end Go.AE

/-! The abstract evaluator: operations that make values of values. No condition. -/
namespace Go.AE
open Go
noncomputable section

def toL : T → List T
  | .cons h t => h :: toL t
  | _ => []

def isL : T → Bool
  | .cons _ t => isL t
  | .nil => true
  | _ => false

theorem toL_VLs {ρ : Rho} : ∀ {t : T} {xs}, (R ρ t).l xs → VLs ρ (toL t) xs := by
  intro t
  induction t with
  | cons h t _ ih => rintro xs ⟨y, ys, rfl, hy, hys⟩; exact ⟨y, ys, rfl, hy, ih hys⟩
  | nil => intro xs h; exact h
  | _ => intro xs h; exact h.elim

def ofL : List T → T
  | [] => .nil
  | t :: ts => .cons t (ofL ts)

theorem ofL_l {ρ : Rho} : ∀ {ts : List T} {xs}, VLs ρ ts xs → (R ρ (ofL ts)).l xs
  | [], _, h => h
  | _ :: _, _, ⟨y, ys, e, hy, hys⟩ => ⟨y, ys, e, hy, ofL_l hys⟩

theorem VLs_append {ρ : Rho} : ∀ {ts us : List T} {xs ys}, VLs ρ ts xs → VLs ρ us ys → VLs ρ (ts ++ us) (xs ++ ys)
  | [], _, _, _, h, h' => by cases h; exact h'
  | _ :: _, _, _, _, ⟨y, ys', e, hy, hys⟩, h' => by subst e; exact ⟨y, _, rfl, hy, VLs_append hys h'⟩

theorem VLs_map {ρ : Rho} {es : Operand → T} {ρm : Operand → Value} : ∀ {l : List Operand}, (∀ x ∈ l, (R ρ (es x)).v (ρm x)) → VLs ρ (l.map es) (l.map ρm)
  | [], _ => rfl
  | x :: l, h => ⟨_, _, rfl, h x (by simp), VLs_map fun y hy => h y (by simp [hy])⟩

def evUn : UnOp → T → Option T
  | .neg, .int k n => some (.int k (k.wrap (0 - n)))
  | .xor, .int k n => match bitI .xor k (if k.signed then -1 else k.max) n with
    | some m => some (.int k m)
    | none => none
  | .not, .bool b => some (.bool !b)
  | _, _ => none

def evConv (P : Program) (src dst : TypeId) : T → Option T
  | .int _ n => match P.underlying src, P.underlying dst with
    | some _, some (.int k') => some (.int k' (k'.wrap n))
    | _, _ => none
  | .str s => match P.underlying src, P.underlying dst with
    | some .string, some .string => some (.str s)
    | _, _ => none
  | _ => none

def evField (P : Program) (t : TypeId) (f : Nat) (x : T) : Option T :=
  match P.underlying t with
  | some (.struct fs) => match fs.toList[f]? with
    | some fd => match szO P fd.type, nth x f fd.offset with
      | some n, some u => bif Nat.beq u.size n && aggIs P fd.type u.isAgg then some u else none
      | _, _ => none
    | none => none
  | _ => none

def evFieldAddr (P : Program) (t : TypeId) (f : Nat) : T → Option T
  | .ptr id path => match P.underlying t with
    | some (.struct fs) => match fs.toList[f]? with
      | some fd => match szO P fd.type with
        | some n => bif Nat.beq n 0 then none else some (.ptr id (path ++ [.fld f fd.offset]))
        | none => none
      | none => none
    | _ => none
  | _ => none

def evIndexAddr (P : Program) (t : TypeId) : T → T → Option (Bool × T)
  | .ptr id path, .int _ i => match P.underlying t with
    | some (.array n e) => match szO P e with
      | some m => some (decide (0 ≤ i ∧ i < n), .ptr id (path ++ [.idx i.toNat m]))
      | none => none
    | _ => none
  | .slice id path lo m len _, .int _ i => match P.underlying t with
    | some (.slice e) => match szO P e with
      | some m' => bif Nat.beq m m' then some (decide (0 ≤ i ∧ i < len), .ptr id (path ++ [.idx (lo + i.toNat) m])) else none
      | none => none
    | _ => none
  | _, _ => none

def evIndex (P : Program) (t : TypeId) (x : T) : T → Option (Bool × T)
  | .int _ i => match P.underlying t with
    | some (.array n e) => match szO P e, stepT x (.idx i.toNat ((szO P e).getD 0)) with
      | some m, some u => bif Nat.beq u.size m && aggIs P e u.isAgg && x.isAgg then some (decide (0 ≤ i ∧ i < n) && stepOK x (.idx i.toNat m), u) else none
      | _, _ => none
    | some .string => match x with
      | .str s => some (decide (0 ≤ i ∧ i < s.size), .int .u8 ((s.data.toList.getD i.toNat 0).toNat))
      | _ => none
    | _ => none
  | _ => none

def ith : T → Nat → Option T
  | .cons h _, 0 => some h
  | .cons _ t, n + 1 => ith t n
  | _, _ => none

theorem ith_sound {ρ : Rho} : ∀ {t : T} {i : Nat} {u : T} {xs : List Value}, (R ρ t).l xs → ith t i = some u → ∃ y, xs[i]? = some y ∧ (R ρ u).v y := by
  intro t
  induction t with
  | cons h t _ ih =>
    rintro i u xs ⟨y, ys, rfl, hy, hys⟩ hi
    cases i with
    | zero => cases hi; exact ⟨y, rfl, hy⟩
    | succ i => obtain ⟨z, hz, hv⟩ := ih hys hi; exact ⟨z, by simpa using hz, hv⟩
  | _ => intro i u xs h hi; simp [ith] at hi

def evExtract (i : Nat) : T → Option T
  | .tup t => ith t i
  | _ => none

theorem evUn_sound {P : Program} {op : UnOp} {x v : T} {ρ : Rho} {x' : Value} (h : evUn op x = some v) (hx : (R ρ x).v x') (w : World) :
    ∃ v', (Op.unary op x').run P w = .ok v' w ∧ (R ρ v).v v' := by
  unfold evUn at h
  split at h
  · obtain rfl : x' = _ := hx
    cases h
    exact ⟨_, rfl, rfl⟩
  · obtain rfl : x' = _ := hx
    simp only [bitI] at h
    cases h
    exact ⟨_, rfl, rfl⟩
  · obtain rfl : x' = _ := hx
    cases h
    exact ⟨_, rfl, rfl⟩
  · cases h

theorem evConv_sound {P : Program} {src dst : TypeId} {x v : T} {ρ : Rho} {x' : Value} (h : evConv P src dst x = some v) (hx : (R ρ x).v x') (w : World) :
    ∃ v', (convert src dst x').run P w = .ok v' w ∧ (R ρ v).v v' := by
  unfold evConv at h
  split at h
  · obtain rfl : x' = _ := hx
    split at h
    · rename_i d k' hs hd
      cases h
      refine ⟨_, ?_, rfl⟩
      simp only [convert, Sem.run_bind, run_underlying hs, run_underlying hd, Result.andThen_ok]
      cases d <;> rfl
    · cases h
  · obtain rfl : x' = _ := hx
    split at h
    · rename_i hs hd
      cases h
      refine ⟨_, ?_, rfl⟩
      simp only [convert, Sem.run_bind, run_underlying hs, run_underlying hd, Result.andThen_ok]
      rfl
    · cases h
  · cases h

theorem szO_run {P : Program} {t : TypeId} {n : Nat} (h : szO P t = some n) (w : World) : (sizeOf t).run P w = .ok n w := by
  unfold szO at h
  cases hq : P.info? t with
  | none => simp [hq] at h
  | some i =>
    simp [hq] at h
    simp [sizeOf, typeInfo, hq, h]

theorem aggIs_run {P : Program} {t : TypeId} {b : Bool} (h : aggIs P t b = true) (w : World) : (isAgg t).run P w = .ok b w := by
  unfold aggIs at h
  cases hq : P.underlying t with
  | none => simp [hq] at h
  | some d =>
    unfold isAgg
    rw [Sem.run_bind, run_underlying hq]
    rw [hq] at h
    simp only [beq_iff_eq] at h
    subst h
    cases d <;> simp [rowD]

theorem add_zero' (b o : Nat) (n : Nat) : (⟨b, o, none⟩ : Addr).add n = ⟨b, o + n, none⟩ := by unfold Addr.add; split <;> simp_all

theorem evFieldAddr_sound {P : Program} {t : TypeId} {f : Nat} {x v : T} {ρ : Rho} {x' : Value} (h : evFieldAddr P t f x = some v) (hx : (R ρ x).v x') (w : World) :
    ∃ v', (Instr.fieldAt t x' f).run P w = .ok v' w ∧ (R ρ v).v v' := by
  unfold evFieldAddr at h
  split at h
  · obtain ⟨b, sz, hr, rfl⟩ := hx
    split at h
    · rename_i fs hu
      split at h
      · rename_i fd hfd
        split at h
        · rename_i n hn
          cases hz : Nat.beq n 0 with
          | true => rw [hz] at h; cases h
          | false =>
            rw [hz] at h
            cases h
            have hne : n ≠ 0 := fun e => by subst e; cases hz
            refine ⟨_, ?_, b, sz, hr, rfl⟩
            have hfd' : fs[f]? = some fd := by simpa using hfd
            simp [Instr.fieldAt, run_underlying hu, hfd', Instr.sureAddr, fieldPlace, szO_run hn, hne, add_zero', poff_append, poff, Step.off]
        · cases h
      · cases h
    · cases h
  · cases h

theorem evIndexAddr_sound {P : Program} {t : TypeId} {x y v : T} {vc : Bool} {ρ : Rho} {x' y' : Value} (h : evIndexAddr P t x y = some (vc, v)) (hvc : vc = true)
    (hx : (R ρ x).v x') (hy : (R ρ y).v y') (w : World) : ∃ v', (Instr.indexAt t x' y').run P w = .ok v' w ∧ (R ρ v).v v' := by
  subst hvc
  unfold evIndexAddr at h
  split at h
  · obtain ⟨b, sz, hr, rfl⟩ := hx
    obtain rfl : y' = _ := hy
    split at h
    · rename_i n e hu
      split at h
      · rename_i m hm
        simp only [Option.some.injEq, Prod.mk.injEq, decide_eq_true_eq] at h
        obtain ⟨h1, rfl⟩ := h
        refine ⟨_, ?_, b, sz, hr, rfl⟩
        simp [Instr.indexAt, asIntOf, run_underlying hu, Instr.sureAddr, h1, szO_run hm, add_zero', poff_append, poff, Step.off]
      · cases h
    · cases h
  · rename_i id path lo m len cap k i
    obtain ⟨b, sz, hr, hs⟩ := hx
    obtain rfl : y' = _ := hy
    split at h
    · rename_i e hu
      split at h
      · rename_i m' hm
        cases hb : Nat.beq m m' with
        | false => rw [hb] at h; cases h
        | true =>
          rw [hb] at h
          have := Nat.eq_of_beq_eq_true hb
          subst this
          simp only [cond_true, Option.some.injEq, Prod.mk.injEq, decide_eq_true_eq] at h
          obtain ⟨h1, rfl⟩ := h
          cases cap with
          | some c =>
            simp only [SliceRel] at hs
            subst hs
            refine ⟨_, ?_, b, sz, hr, rfl⟩
            simp [Instr.indexAt, asIntOf, run_underlying hu, h1, szO_run hm, add_zero', poff_append, poff, Step.off, Nat.add_mul, Nat.add_assoc]
          | none =>
            obtain ⟨rfl, _, (⟨c, rfl, _, _⟩ | ⟨h0, a, _⟩)⟩ := hs
            · refine ⟨_, ?_, b, sz, hr, rfl⟩
              simp [Instr.indexAt, asIntOf, run_underlying hu, h1, szO_run hm, add_zero', poff, Step.off, Nat.add_mul]
            · omega
      · cases h
    · cases h
  · cases h

theorem evExtract_sound {P : Program} {i : Nat} {x v : T} {ρ : Rho} {x' : Value} (h : evExtract i x = some v) (hx : (R ρ x).v x') (w : World) :
    ∃ v', (Instr.extract x' i).run P w = .ok v' w ∧ (R ρ v).v v' := by
  unfold evExtract at h
  split at h
  · obtain ⟨vs, rfl, hl⟩ := hx
    obtain ⟨y, hy, hv⟩ := ith_sound hl h
    refine ⟨y, ?_, hv⟩
    have : vs[i]? = some y := by simpa using hy
    simp [Instr.extract, this]
  · cases h

theorem part_run {P : Program} {t : TypeId} {cs : Array Value} {off n : Nat} {u : T} {ρ : Rho} (hn : szO P t = some n) (hs : u.size = n) (ha : aggIs P t u.isAgg = true)
    (hc : (R ρ u).c (cut cs.toList off u.size)) (hb : off + u.size ≤ cs.size) (w : World) : ∃ v', (part t cs off).run P w = .ok v' w ∧ (R ρ u).v v' := by
  unfold part
  rw [Sem.run_bind, aggIs_run ha]
  simp only [Result.andThen_ok]
  cases hg : u.isAgg with
  | true =>
    simp only [if_true, Sem.run_bind, szO_run hn, Result.andThen_ok, Sem.run_pure]
    refine ⟨_, rfl, (R_agg hg).2 ⟨_, rfl, ?_⟩⟩
    have : (cs.extract off (off + n)).toList = cut cs.toList off u.size := by
      rw [hs]
      simp [cut, Array.toList_extract, List.extract_eq_take_drop]
    rw [this]; exact hc
  | false =>
    obtain ⟨x, hx, hv⟩ := R_leaf_back hg hc
    have h1 : u.size = 1 := by have := R_size hc; rw [hx] at this; simpa using this.symm
    refine ⟨x, ?_, hv⟩
    have : cs[off]? = some x := by
      have h2 : (cut cs.toList off u.size)[0]? = some x := by rw [hx]; rfl
      simp only [cut, h1] at h2
      rw [List.getElem?_take_of_lt (by omega), List.getElem?_drop] at h2
      simpa using h2
    simp [this]

theorem evField_sound {P : Program} {t : TypeId} {f : Nat} {x v : T} {ρ : Rho} {x' : Value} (h : evField P t f x = some v) (hx : (R ρ x).v x') (w : World) :
    ∃ v', (Instr.field t x' f).run P w = .ok v' w ∧ (R ρ v).v v' := by
  unfold evField at h
  split at h
  · rename_i fs hu
    split at h
    · rename_i fd hfd
      split at h
      · rename_i n u hn hnu
        cases hb : (Nat.beq u.size n && aggIs P fd.type u.isAgg) with
        | false => rw [hb] at h; cases h
        | true =>
          rw [hb] at h
          cases h
          simp only [Bool.and_eq_true] at hb
          have hfd' : fs[f]? = some fd := by simpa using hfd
          have hx' : ∃ cs, x' = .agg cs ∧ (R ρ x).c cs.toList := by
            cases x <;> first | (simp [nth] at hnu; done) | exact (R_agg rfl).1 hx
          obtain ⟨cs, rfl, hc⟩ := hx'
          obtain ⟨h1, h2⟩ := nth_sound hc hnu
          obtain ⟨v', hv, hr⟩ := part_run hn (Nat.eq_of_beq_eq_true hb.1) hb.2 h1 (by simpa using h2) w
          exact ⟨v', by simp [Instr.field, run_underlying hu, hfd', asAgg, hv], hr⟩
      · cases h
    · cases h
  · cases h

theorem evIndex_sound {P : Program} {t : TypeId} {x y v : T} {vc : Bool} {ρ : Rho} {x' y' : Value} (h : evIndex P t x y = some (vc, v)) (hvc : vc = true)
    (hx : (R ρ x).v x') (hy : (R ρ y).v y') (w : World) : ∃ v', (Instr.index t x' y').run P w = .ok v' w ∧ (R ρ v).v v' := by
  subst hvc
  unfold evIndex at h
  split at h
  · rename_i k i
    obtain rfl : y' = _ := hy
    split at h
    · rename_i n e hu
      split at h
      · rename_i m u hm hst
        rw [hm] at hst
        simp only [Option.getD_some] at hst
        cases hb : (Nat.beq u.size m && aggIs P e u.isAgg && x.isAgg) with
        | false => rw [hb] at h; cases h
        | true =>
          rw [hb] at h
          simp only [cond_true, Option.some.injEq, Prod.mk.injEq, Bool.and_eq_true, decide_eq_true_eq] at h
          obtain ⟨⟨h1, h2⟩, rfl⟩ := h
          simp only [Bool.and_eq_true] at hb
          obtain ⟨cs, rfl, hc⟩ := (R_agg hb.2).1 hx
          obtain ⟨h3, h4⟩ := stepT_sound hc hst h2
          obtain ⟨v', hv, hr⟩ := part_run hm (Nat.eq_of_beq_eq_true hb.1.1) hb.1.2 h3 (by simpa using h4) w
          refine ⟨v', ?_, hr⟩
          simp only [Step.off] at hv
          simp [Instr.index, asIntOf, run_underlying hu, h1, szO_run hm, hv]
      · cases h
    · rename_i hu
      cases x
      case str s =>
        obtain rfl : x' = _ := hx
        simp only [Option.some.injEq, Prod.mk.injEq, decide_eq_true_eq] at h
        obtain ⟨⟨h1, h2⟩, rfl⟩ := h
        refine ⟨_, ?_, rfl⟩
        have hlt : i.toNat < s.size := by omega
        have hg : s[i.toNat]? = some (s.data.toList.getD i.toNat 0) := by
          have e1 : s[i.toNat]? = some (s[i.toNat]) := getElem?_pos s i.toNat hlt
          rw [e1]
          congr 1
          have hl : i.toNat < s.data.toList.length := by simpa using hlt
          rw [List.getD_eq_getElem?_getD, List.getElem?_eq_getElem hl]
          rfl
        simp [Instr.index, asIntOf, run_underlying hu, h1, hg]
      all_goals cases h
    · cases h
  · cases h

end
end Go.AE

/-! The abstract evaluator: equality of bools, structs and arrays. No condition. -/
namespace Go.AE
open Go
noncomputable section

def eqN (n : Nat) (f g : Nat → Int) : Bool := (List.range n).all fun i => f i == g i

def eqFs (P : Program) (z : TypeId → T → T → Option (Bool × Bool)) (x y : T) : List Field → Nat → Option (Bool × Bool)
  | [], _ => some (true, true)
  | f :: r, j => bif f.name == "_" then none else
    match nth x j f.offset, nth y j f.offset, szO P f.type with
    | some a, some b, some n => bif Nat.beq a.size n && Nat.beq b.size n && aggIs P f.type a.isAgg && aggIs P f.type b.isAgg then
        match z f.type a b, eqFs P z x y r (j + 1) with
        | some (vc, v), some (vc', v') => some (vc && vc', v && v')
        | _, _ => none
      else none
    | _, _, _ => none

def eqIt (P : Program) (e : TypeId) (m : Nat) (z : T → T → Option (Bool × Bool)) (x y : T) : Nat → Nat → Option (Bool × Bool)
  | 0, _ => some (true, true)
  | k + 1, i => match stepT x (.idx i m), stepT y (.idx i m) with
    | some a, some b => bif Nat.beq a.size m && Nat.beq b.size m && aggIs P e a.isAgg && aggIs P e b.isAgg then
        match z a b, eqIt P e m z x y k (i + 1) with
        | some (vc, v), some (vc', v') => some (stepOK x (.idx i m) && stepOK y (.idx i m) && (vc && vc'), v && v')
        | _, _ => none
      else none
    | _, _ => none

def isIntT (P : Program) (e : TypeId) : Bool :=
  match P.underlying e with
  | some (.int _) => true
  | _ => false

def eqT (P : Program) : Nat → TypeId → T → T → Option (Bool × Bool)
  | 0, _, _, _ => none
  | d + 1, t, x, y => match P.underlying t with
    | some .bool => match x, y with
      | .bool a, .bool b => some (true, a == b)
      | _, _ => none
    | some (.int _) => match x, y with
      | .int k a, .int k' b => if k = k' then some (true, a == b) else none
      | _, _ => none
    | some .string => match x, y with
      | .str a, .str b => some (true, a == b)
      | _, _ => none
    | some (.pointer _) => match x, y with
      | .nilptr, .nilptr => some (true, true)
      | .ptr _ _, .nilptr => some (true, false)
      | .nilptr, .ptr _ _ => some (true, false)
      | _, _ => none
    | some (.slice _) => match x, y with
      | .nilslice, .nilslice => some (true, true)
      | .slice _ _ _ _ _ (some _), .nilslice => some (true, false)
      | _, _ => none
    | some (.struct fs) => bif P.stoodInHeld t || !x.isAgg || !y.isAgg then none else eqFs P (eqT P d) x y fs.toList 0
    | some (.array n e) => match x, y with
      | .ints k n1 f, .ints k' n2 g => if k = k' ∧ n1 = n ∧ n2 = n ∧ isIntT P e = true ∧ szO P e = some 1 ∧ 0 < d then some (true, eqN n f g) else none
      | x, y => bif !x.isAgg || !y.isAgg then none else match szO P e with
        | some m => eqIt P e m (eqT P d e) x y n 0
        | none => none
    | _ => none

variable {P : Program}

theorem aggIs_R {t : TypeId} {n off : Nat} {u : T} {ρ : Rho} {cs : Array Value} (hn : szO P t = some n) (hs : Nat.beq u.size n = true) (ha : aggIs P t u.isAgg = true)
    (hc : (R ρ u).c (cut cs.toList off u.size)) (hb : off + u.size ≤ cs.toList.length) (w : World) : ∃ v', (part t cs off).run P w = .ok v' w ∧ (R ρ u).v v' :=
  part_run hn (Nat.eq_of_beq_eq_true hs) ha hc (by simpa using hb) w

theorem eqFs_sound {ρ : Rho} {z : TypeId → T → T → Option (Bool × Bool)} {D : Nat} {w : World} {x y : T} {xs ys : Array Value} (hx : (R ρ x).c xs.toList) (hy : (R ρ y).c ys.toList)
    (hz : ∀ t a b vc v a' b', z t a b = some (vc, v) → vc = true → (R ρ a).v a' → (R ρ b).v b' → (Op.equalIn D t a' b').run P w = .ok v w) :
    ∀ (fs : List Field) (j : Nat) (vc v : Bool), eqFs P z x y fs j = some (vc, v) → vc = true → (Op.eqFields D xs ys fs).run P w = .ok v w
  | [], _, vc, v, h, _ => by cases h; rfl
  | f :: r, j, vc, v, h, hvc => by
    simp only [eqFs] at h
    cases hn : (f.name == "_") with
    | true => rw [hn] at h; cases h
    | false =>
      rw [hn] at h
      simp only [cond_false] at h
      split at h
      · rename_i a b n ha hb hsz
        cases hck : (Nat.beq a.size n && Nat.beq b.size n && aggIs P f.type a.isAgg && aggIs P f.type b.isAgg) with
        | false => rw [hck] at h; cases h
        | true =>
          rw [hck] at h
          simp only [cond_true] at h
          split at h
          · rename_i vc1 v1 vc2 v2 h1 h2
            simp only [Option.some.injEq, Prod.mk.injEq] at h
            obtain ⟨e1, rfl⟩ := h
            subst hvc
            simp only [Bool.and_eq_true] at e1 hck
            obtain ⟨a1, a2⟩ := nth_sound hx ha
            obtain ⟨b1, b2⟩ := nth_sound hy hb
            obtain ⟨a', pa, ra⟩ := aggIs_R hsz hck.1.1.1 hck.1.2 a1 a2 w
            obtain ⟨b', pb, rb⟩ := aggIs_R hsz hck.1.1.2 hck.2 b1 b2 w
            have hq := hz _ _ _ _ _ _ _ h1 e1.1 ra rb
            have hr := eqFs_sound hx hy hz r (j + 1) vc2 v2 h2 e1.2
            have hne : f.name ≠ "_" := by simpa using hn
            simp only [Op.eqFields, hne, ne_eq, not_false_eq_true, if_true, Sem.run_bind, pa, pb, hq, Result.andThen_ok]
            cases v1
            · simp
            · simpa using hr
          · cases h
      · cases h

theorem eqIt_sound {ρ : Rho} {e : TypeId} {m : Nat} {z : T → T → Option (Bool × Bool)} {D : Nat} {w : World} {x y : T} {xs ys : Array Value} (hx : (R ρ x).c xs.toList) (hy : (R ρ y).c ys.toList) (hm : szO P e = some m)
    (hz : ∀ a b vc v a' b', z a b = some (vc, v) → vc = true → (R ρ a).v a' → (R ρ b).v b' → (Op.equalIn D e a' b').run P w = .ok v w) :
    ∀ (k i : Nat) (vc v : Bool), eqIt P e m z x y k i = some (vc, v) → vc = true → (Op.eqItems D e m xs ys (List.range' i k)).run P w = .ok v w
  | 0, _, vc, v, h, _ => by cases h; rfl
  | k + 1, i, vc, v, h, hvc => by
    simp only [eqIt] at h
    split at h
    · rename_i a b ha hb
      cases hck : (Nat.beq a.size m && Nat.beq b.size m && aggIs P e a.isAgg && aggIs P e b.isAgg) with
      | false => rw [hck] at h; cases h
      | true =>
        rw [hck] at h
        simp only [cond_true] at h
        split at h
        · rename_i vc1 v1 vc2 v2 h1 h2
          simp only [Option.some.injEq, Prod.mk.injEq] at h
          obtain ⟨e1, rfl⟩ := h
          subst hvc
          simp only [Bool.and_eq_true] at e1 hck
          obtain ⟨a1, a2⟩ := stepT_sound hx ha e1.1.1
          obtain ⟨b1, b2⟩ := stepT_sound hy hb e1.1.2
          simp only [Step.off] at a1 a2 b1 b2
          obtain ⟨a', pa, ra⟩ := aggIs_R hm hck.1.1.1 hck.1.2 a1 a2 w
          obtain ⟨b', pb, rb⟩ := aggIs_R hm hck.1.1.2 hck.2 b1 b2 w
          have hq := hz _ _ _ _ _ _ h1 e1.2.1 ra rb
          have hr := eqIt_sound hx hy hm hz k (i + 1) vc2 v2 h2 e1.2.2
          rw [List.range'_succ]
          simp only [Op.eqItems, Sem.run_bind, pa, pb, hq, Result.andThen_ok]
          cases v1
          · simp
          · simpa using hr
        · cases h
    · cases h

theorem eqInts_sound {ρ : Rho} {e : TypeId} {k : IntKind} {n0 : Nat} {f g : Nat → Int} {D : Nat} {w : World} {xs ys : Array Value} {k' : IntKind} (hu : P.underlying e = some (.int k')) (hx : (R ρ (.ints k n0 f)).c xs.toList) (hy : (R ρ (.ints k n0 g)).c ys.toList) (hm : szO P e = some 1) :
    ∀ (n i : Nat), i + n ≤ n0 → (Op.eqItems (D + 1) e 1 xs ys (List.range' i n)).run P w = .ok ((List.range' i n).all fun i => f i == g i) w
  | 0, _, _ => rfl
  | n + 1, i, h => by
    have hag : aggIs P e false = true := by simp [aggIs, hu, rowD]
    have pt : ∀ (h0 : Nat → Int) (zs : Array Value), (R ρ (.ints k n0 h0)).c zs.toList → (part e zs (i * 1)).run P w = .ok (.int k (h0 i)) w := by
      intro h0 zs hz
      unfold part
      rw [Sem.run_bind, aggIs_run hag]
      have := hz.2 i (by omega)
      have h2 : zs[i]? = some (.int k (h0 i)) := by simpa using this
      simp [h2]
    have hr := eqInts_sound (D := D) (w := w) hu hx hy hm n (i + 1) (by omega)
    rw [List.range'_succ]
    simp only [Op.eqItems, Sem.run_bind, pt f xs hx, pt g ys hy, Result.andThen_ok, run_equalIn_int w D e k k' _ _ hu]
    cases h1 : (f i == g i)
    · simp [h1]
    · simp [h1]
      exact hr

theorem eqT_sound {ρ : Rho} {w : World} : ∀ (d : Nat) (t : TypeId) (x y : T) (vc v : Bool) (x' y' : Value), eqT P d t x y = some (vc, v) → vc = true → (R ρ x).v x' → (R ρ y).v y' → ∀ D, d ≤ D → (Op.equalIn D t x' y').run P w = .ok v w
  | 0, _, _, _, _, _, _, _, h, _, _, _, _, _ => by cases h
  | d + 1, t, x, y, vc, v, x', y', h, hvc, hx, hy, D, hD => by
    obtain ⟨D, rfl⟩ : ∃ D', D = D' + 1 := ⟨D - 1, by omega⟩
    have ih : ∀ (t : TypeId) (x y : T) (vc v : Bool) (x' y' : Value), eqT P d t x y = some (vc, v) → vc = true → (R ρ x).v x' → (R ρ y).v y' → (Op.equalIn D t x' y').run P w = .ok v w := fun t x y vc v x' y' h1 h2 h3 h4 => eqT_sound d t x y vc v x' y' h1 h2 h3 h4 D (by omega)
    simp only [eqT] at h
    split at h
    · rename_i hu
      split at h
      · obtain rfl : x' = _ := hx
        obtain rfl : y' = _ := hy
        cases h
        exact run_equalIn_bool w D t _ _ hu
      · cases h
    · rename_i k0 hu
      split at h
      · obtain rfl : x' = _ := hx
        obtain rfl : y' = _ := hy
        split at h
        · rename_i hk
          subst hk
          cases h
          exact run_equalIn_int w D t _ _ _ _ hu
        · cases h
      · cases h
    · rename_i hu
      split at h
      · obtain rfl : x' = _ := hx
        obtain rfl : y' = _ := hy
        cases h
        rw [beq_toListBytes]
        exact run_equalIn_string w D t _ _ hu
      · cases h
    · rename_i el hu
      split at h
      · obtain rfl : x' = _ := hx
        obtain rfl : y' = _ := hy
        cases h
        simp [Op.equalIn, run_underlying hu]
      · obtain ⟨b, sz, _, rfl⟩ := hx
        obtain rfl : y' = _ := hy
        cases h
        simp [Op.equalIn, run_underlying hu]
      · obtain ⟨b, sz, _, rfl⟩ := hy
        obtain rfl : x' = _ := hx
        cases h
        simp [Op.equalIn, run_underlying hu]
      · cases h
    · rename_i el hu
      split at h
      · obtain rfl : x' = _ := hx
        obtain rfl : y' = _ := hy
        cases h
        simp [Op.equalIn, run_underlying hu]
      · obtain ⟨b, sz, _, hs⟩ := hx
        obtain rfl : y' = _ := hy
        simp only [SliceRel] at hs
        subst hs
        cases h
        simp [Op.equalIn, run_underlying hu]
      · cases h
    · rename_i fs hu
      cases hb : (P.stoodInHeld t || !x.isAgg || !y.isAgg) with
      | true => rw [hb] at h; cases h
      | false =>
        rw [hb] at h
        simp only [cond_false] at h
        simp only [Bool.or_eq_false_iff, Bool.not_eq_false'] at hb
        obtain ⟨cx, rfl, hcx⟩ := (R_agg hb.1.2).1 hx
        obtain ⟨cy, rfl, hcy⟩ := (R_agg hb.2).1 hy
        have hf : P.fieldsOf t = fs := by simp [Program.fieldsOf, hu]
        rw [run_equalIn_struct w D t cx cy (by rw [hf]; exact hu) hb.1.1, hf]
        exact eqFs_sound hcx hcy ih fs.toList 0 vc v h hvc
    · rename_i n e hu
      split at h
      · rename_i k n1 f k' n2 g
        split at h
        · rename_i hc
          obtain ⟨rfl, rfl, rfl, h1, h2, h3⟩ := hc
          cases h
          obtain ⟨cx, rfl, hcx⟩ := (R_agg rfl).1 hx
          obtain ⟨cy, rfl, hcy⟩ := (R_agg rfl).1 hy
          obtain ⟨k', hk'⟩ : ∃ k', P.underlying e = some (.int k') := by
            unfold isIntT at h1
            split at h1
            · rename_i k' hk'; exact ⟨k', hk'⟩
            · cases h1
          obtain ⟨D', rfl⟩ : ∃ D', D = D' + 1 := ⟨D - 1, by omega⟩
          obtain ⟨i, hi⟩ : ∃ i, P.info? e = some i := by
            unfold szO at h2
            cases hq : P.info? e with
            | none => simp [hq] at h2
            | some i => exact ⟨i, rfl⟩
          have hc1 : P.cellsOf e = 1 := by unfold szO at h2; simp [Program.cellsOf, h2]
          rw [run_equalIn_array w (D' + 1) cx cy hu hi, hc1, List.range_eq_range']
          rw [eqInts_sound (ρ := ρ) hk' hcx hcy h2 n2 0 (by omega)]
          simp [eqN, List.range_eq_range']
        · cases h
      · cases hb : (!x.isAgg || !y.isAgg) with
        | true => rw [hb] at h; cases h
        | false =>
          rw [hb] at h
          simp only [cond_false] at h
          simp only [Bool.or_eq_false_iff, Bool.not_eq_false'] at hb
          split at h
          · rename_i m hm
            obtain ⟨cx, rfl, hcx⟩ := (R_agg hb.1).1 hx
            obtain ⟨cy, rfl, hcy⟩ := (R_agg hb.2).1 hy
            obtain ⟨i, hi⟩ : ∃ i, P.info? e = some i := by
              unfold szO at hm
              cases hq : P.info? e with
              | none => simp [hq] at hm
              | some i => exact ⟨i, rfl⟩
            have hc1 : P.cellsOf e = m := by unfold szO at hm; simp [Program.cellsOf, hm]
            rw [run_equalIn_array w D cx cy hu hi, hc1, List.range_eq_range']
            exact eqIt_sound hcx hcy hm (ih e) n 0 vc v h hvc
          · cases h
    · cases h

/-- A type of bools, numbers, strings, pointers and slices, and of structs and arrays of these. -/
def plainTy (P : Program) : Nat → TypeId → Bool
  | 0, _ => false
  | d + 1, t => match P.underlying t with
    | some (.interface _) => false
    | some (.struct fs) => fs.toList.all fun f => plainTy P d f.type
    | some (.array _ e) => plainTy P d e
    | some _ => true
    | none => false

theorem plainTy_eqGuard : ∀ (d : Nat) (t : TypeId), plainTy P d t = true → ∀ D, d ≤ D → P.eqGuardType D t = false
  | 0, _, h, _, _ => by cases h
  | d + 1, t, h, D, hD => by
    obtain ⟨D, rfl⟩ : ∃ D', D = D' + 1 := ⟨D - 1, by omega⟩
    simp only [plainTy] at h
    simp only [Program.eqGuardType]
    split at h
    · cases h
    · rename_i fs hu
      rw [hu]
      simp only [List.all_eq_true] at h
      rw [← Bool.not_eq_true, Array.any_eq_true']
      rintro ⟨f, hf, hb⟩
      simp only [Bool.and_eq_true] at hb
      have := plainTy_eqGuard d f.type (h f (by simpa using hf)) D (by omega)
      rw [this] at hb
      cases hb.2
    · rename_i n e hu
      rw [hu]
      exact plainTy_eqGuard d e h D (by omega)
    · rename_i d0 h1 h2 h3 hu
      rw [hu]
      cases d0 <;> first | rfl | (exact (h1 _ rfl).elim) | (exact (h2 _ rfl).elim) | (exact (h3 _ _ rfl).elim)
    · cases h

def evEq (P : Program) (neg : Bool) (t : TypeId) (x y : T) : Option (Bool × T) :=
  match eqT P 20 t x y with
  | some (vc, v) => bif plainTy P 20 t && T.isAgg x && T.isAgg y then some (vc, .bool (bif neg then !v else v))
      else match P.underlying t with
        | some .bool | some (.pointer _) | some (.slice _) => some (vc, .bool (bif neg then !v else v))
        | _ => none
  | none => none

theorem depth_ge (P : Program) : 20 ≤ P.depth := by unfold Program.depth Made.depth; omega

theorem evEq_sound {ρ : Rho} {neg : Bool} {t : TypeId} {x y : T} {vc : Bool} {v : T} {x' y' : Value} {xo yo : Operand} (h : evEq P neg t x y = some (vc, v)) (hvc : vc = true) (hx : (R ρ x).v x') (hy : (R ρ y).v y') (w : World) :
    ∃ v', (do eqGuard (bif neg then .neq else .eql) t xo yo x' y'; binOp (bif neg then .neq else .eql) t x' y' : Sem Value).run P w = .ok v' w ∧ (R ρ v).v v' := by
  unfold evEq at h
  split at h
  · rename_i vc' v0 he
    have hq : vc' = true → (Op.equalIn 10000 t x' y').run P w = .ok v0 w := fun hv => eqT_sound 20 t x y vc' v0 x' y' he hv hx hy 10000 (by omega)
    cases hb : (plainTy P 20 t && x.isAgg && y.isAgg) with
    | true =>
      rw [hb] at h
      simp only [cond_true, Option.some.injEq, Prod.mk.injEq] at h
      obtain ⟨rfl, rfl⟩ := h
      simp only [Bool.and_eq_true] at hb
      obtain ⟨cx, rfl, _⟩ := (R_agg hb.1.2).1 hx
      obtain ⟨cy, rfl, _⟩ := (R_agg hb.2).1 hy
      have hg := plainTy_eqGuard 20 t hb.1.1 P.depth (depth_ge P)
      refine ⟨.bool (bif neg then !v0 else v0), ?_, rfl⟩
      rw [Sem.run_bind, run_eqGuard_agg w _ t xo yo cx cy hg]
      cases neg
      · simp only [cond_false, Result.andThen_ok, run_eql_struct, hq hvc]
      · simp only [cond_true, Result.andThen_ok, run_neq_struct, hq hvc]
    | false =>
      rw [hb] at h
      simp only [cond_false] at h
      have shape : (P.underlying t = some .bool ∨ (∃ e, P.underlying t = some (.pointer e)) ∨ ∃ e, P.underlying t = some (.slice e)) ∧ vc' = vc ∧ v = .bool (bif neg then !v0 else v0) := by
        split at h
        · rename_i hu; cases h; exact ⟨.inl hu, rfl, rfl⟩
        · rename_i e hu; cases h; exact ⟨.inr (.inl ⟨e, hu⟩), rfl, rfl⟩
        · rename_i e hu; cases h; exact ⟨.inr (.inr ⟨e, hu⟩), rfl, rfl⟩
        · cases h
      obtain ⟨hu, rfl, rfl⟩ := shape
      have hq := hq hvc
      refine ⟨.bool (bif neg then !v0 else v0), ?_, rfl⟩
      have key : (eqGuard (bif neg then .neq else .eql) t xo yo x' y').run P w = .ok () w ∧ binOp (bif neg then .neq else .eql) t x' y' = (do let b ← Op.equal t x' y'; Pure.pure (.bool (bif neg then !b else b))) := by
        have he' : eqT P (19 + 1) t x y = some (vc', v0) := he
        clear he
        generalize 19 = d at he'
        have he := he'
        simp only [eqT] at he
        rcases hu with hu | ⟨e, hu⟩ | ⟨e, hu⟩ <;> rw [hu] at he <;> simp only at he
        · split at he
          · obtain rfl : x' = _ := hx
            obtain rfl : y' = _ := hy
            cases neg <;> exact ⟨rfl, rfl⟩
          · cases he
        · split at he
          · obtain rfl : x' = _ := hx
            obtain rfl : y' = _ := hy
            cases neg <;> exact ⟨rfl, rfl⟩
          · obtain ⟨b, sz, _, rfl⟩ := hx
            obtain rfl : y' = _ := hy
            cases neg <;> exact ⟨rfl, rfl⟩
          · obtain ⟨b, sz, _, rfl⟩ := hy
            obtain rfl : x' = _ := hx
            cases neg <;> exact ⟨rfl, rfl⟩
          · cases he
        · split at he
          · obtain rfl : x' = _ := hx
            obtain rfl : y' = _ := hy
            cases neg <;> exact ⟨rfl, rfl⟩
          · obtain ⟨b, sz, _, hs⟩ := hx
            obtain rfl : y' = _ := hy
            simp only [SliceRel] at hs
            subst hs
            cases neg <;> exact ⟨rfl, rfl⟩
          · cases he
      rw [Sem.run_bind, key.1]
      simp only [Result.andThen_ok, key.2]
      simp only [Sem.run_bind, Op.equal, Op.maxDepth, hq, Result.andThen_ok, Sem.run_pure]
  · cases h

end
end Go.AE
