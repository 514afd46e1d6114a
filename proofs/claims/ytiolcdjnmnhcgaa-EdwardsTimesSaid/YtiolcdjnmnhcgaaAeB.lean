/- The abstract evaluator: memory, operations, regions. No condition. -/
import Derived.Test.YtiolcdjnmnhcgaaAeA
import Derived.Laws.AppendOwn
import Derived.Laws.MakeOwn

/-! The abstract evaluator: loads, stores, new variables. No condition. -/
namespace Go.AE
open Go
noncomputable section

theorem isCell_one {x : Value} (h : isCell x) : x.oneCell' = true := by cases x <;> first | rfl | exact h.elim

theorem Post.pure {ρ : Rho} {G : Heap} {w : World} {vc : Bool} {v : T} {v' : Value} (h : (R ρ v).v v') (t : Nat) : Post ρ ρ G w ⟨vc, v, G, t, 0⟩ v' w where
  ext := Rho.Ext.refl ρ
  dom _ _ := rfl
  val := h
  sim k t hk hg := by
    rcases hk with hk | hk
    · have : k < G.length := hget_lt hg
      omega
    · simp at hk
  new k t p hk hg := by
    have : k < G.length := hget_lt hg
    omega
  inj k k' t t' p p' hk _ hg := by
    have : k < G.length := hget_lt hg
    omega
  frame _ _ _ := rfl
  size := Nat.le_refl _
  os := rfl
  tape := rfl
  output := rfl

theorem cell_blk {w : World} {b : Nat} {cs : Array Value} {ty : TypeId} {fr : Nat × Nat} (h : w.heap[b]? = some (.cells cs ty fr)) (o : Nat) : w.cell? ⟨b, o, none⟩ = cs[o]? := by
  simp [World.cell?, h]

theorem frozen_blk {w : World} {b : Nat} {cs : Array Value} {ty : TypeId} {fr : Nat × Nat} (h : w.heap[b]? = some (.cells cs ty fr)) (o : Nat) (hn : ¬(fr.1 ≤ o ∧ o < fr.2)) :
    w.frozen? ⟨b, o, none⟩ = false := by
  simp only [World.frozen?, h]
  rw [Bool.and_eq_false_iff]
  by_cases h1 : fr.1 ≤ o
  · right; simp; omega
  · left; simpa using h1

theorem cut_getElem {cs : List Value} {o n j : Nat} (h : j < n) : (cut cs o n)[j]? = cs[o + j]? := by
  simp only [cut]
  rw [List.getElem?_take_of_lt h, List.getElem?_drop]

theorem run_loadCells_blk {P : Program} {w : World} {b : Nat} {cs : Array Value} {ty : TypeId} {fr : Nat × Nat} (h : w.heap[b]? = some (.cells cs ty fr)) (off n : Nat) (hb : off + n ≤ cs.size) :
    (loadCells ⟨b, off, none⟩ n).run P w = .ok (cut cs.toList off n).toArray w := by
  have hl : (cut cs.toList off n).length = n := cut_len (by simpa using hb)
  have := run_loadCells_list (P := P) w ⟨b, off, none⟩ (cut cs.toList off n) (fun j v hv => by
    rw [add_zero', cell_blk h]
    have hj : j < n := by
      have := (List.getElem?_eq_some_iff.1 hv).1
      omega
    rw [cut_getElem hj] at hv
    simpa using hv)
  rwa [hl] at this

theorem run_loadVar_blk {P : Program} {w : World} {b : Nat} {cs : Array Value} {ty : TypeId} {fr : Nat × Nat} (h : w.heap[b]? = some (.cells cs ty fr)) {t : TypeId} {off : Nat} {u : T} {ρ : Rho} {n : Nat}
    (hn : szO P t = some n) (hs : u.size = n) (ha : aggIs P t u.isAgg = true) (hc : (R ρ u).c (cut cs.toList off u.size)) (hb : off + u.size ≤ cs.size) :
    ∃ v', (loadVar t ⟨b, off, none⟩).run P w = .ok v' w ∧ (R ρ u).v v' := by
  unfold loadVar
  rw [Sem.run_bind, aggIs_run ha]
  simp only [Result.andThen_ok]
  cases hg : u.isAgg with
  | true =>
    simp only [if_true, Sem.run_bind, szO_run hn, Result.andThen_ok, Sem.run_pure]
    rw [← hs, run_loadCells_blk h off u.size hb]
    exact ⟨_, rfl, (R_agg hg).2 ⟨_, rfl, by simpa using hc⟩⟩
  | false =>
    obtain ⟨x, hx, hv⟩ := R_leaf_back hg hc
    have h1 : u.size = 1 := by have := R_size hc; rw [hx] at this; simpa using this.symm
    refine ⟨x, ?_, hv⟩
    have h2 : (cut cs.toList off u.size)[0]? = some x := by rw [hx]; rfl
    rw [cut_getElem (by omega)] at h2
    have h3 : w.cell? ⟨b, off, none⟩ = some x := by rw [cell_blk h]; simpa using h2
    simp [h3]

def evLoad (P : Program) (G : Heap) (t : TypeId) : T → Option Res
  | .ptr id path => match hget G id with
    | some tr => match get tr path, szO P t with
      | some u, some n => bif Nat.beq u.size n && aggIs P t u.isAgg then some ⟨getOK tr path, u, G, 2 ^ id, 0⟩ else none
      | _, _ => none
    | none => none
  | _ => none

theorem tb_self (i : Nat) : bitK (2 ^ i) i := by simp [bitK, Nat.testBit_two_pow]

theorem cut_take {cs : List Value} {m o n : Nat} (h : o + n ≤ m) : cut (cs.take m) o n = cut cs o n := by
  simp only [cut]
  rw [List.drop_take, List.take_take]
  congr 1
  omega

theorem evLoad_sound {P : Program} {G : Heap} {t : TypeId} {x : T} {r : Res} {ρ : Rho} {x' : Value} {w : World} (h : evLoad P G t x = some r) (hvc : r.vc = true)
    (hx : (R ρ x).v x') (hsim : Sim (bitK r.t) ρ G w) : ∃ v', (Instr.loadAt t x').run P w = .ok v' w ∧ ∃ ρ', Post ρ ρ' G w r v' w := by
  unfold evLoad at h
  split at h
  · rename_i id path
    obtain ⟨b, sz, hr, rfl⟩ := hx
    split at h
    · rename_i tr htr
      split at h
      · rename_i u n hu hn
        cases hb : (Nat.beq u.size n && aggIs P t u.isAgg) with
        | false => rw [hb] at h; cases h
        | true =>
          rw [hb] at h
          cases h
          simp only [Bool.and_eq_true] at hb
          obtain ⟨p, hp, cs, ty, fr, h1, h2, h3, h4, h5⟩ := hsim.blk id tr (tb_self id) htr
          rw [hr] at hp
          cases hp
          obtain ⟨h6, h7⟩ := get_sound h4 hu hvc
          simp only [List.length_take, Array.length_toList] at h7
          rw [cut_take (by omega)] at h6
          obtain ⟨v', hv, hrv⟩ := run_loadVar_blk (P := P) h1 hn (Nat.eq_of_beq_eq_true hb.1) hb.2 h6 (by omega)
          exact ⟨v', by simp [Instr.loadAt, Instr.sureAddr, hv], ρ, Post.pure hrv _⟩
      · cases h
    · cases h
  · cases h

theorem heap_setCells (b : Nat) : ∀ (vs : List Value) (o : Nat) (w : World) (cs : Array Value) (ty : TypeId) (fr : Nat × Nat), w.heap[b]? = some (.cells cs ty fr) → o + vs.length ≤ cs.size →
    (w.setCells b o vs).heap[b]? = some (.cells (splice cs.toList o vs).toArray ty fr) ∧ (∀ k, k ≠ b → (w.setCells b o vs).heap[k]? = w.heap[k]?) ∧
    (w.setCells b o vs).heap.size = w.heap.size ∧ (w.setCells b o vs).os = w.os ∧ (w.setCells b o vs).tape = w.tape ∧ (w.setCells b o vs).output = w.output
  | [], o, w, cs, ty, fr, h, hb => by
    refine ⟨?_, fun _ _ => rfl, rfl, rfl, rfl, rfl⟩
    simp only [World.setCells, splice, List.append_nil, List.length_nil, Nat.add_zero, List.take_append_drop]
    exact h
  | v :: r, o, w, cs, ty, fr, h, hb => by
    have h1 : (w.setCell ⟨b, o, none⟩ v).heap[b]? = some (.cells (cs.setIfInBounds o v) ty fr) := by
      simp [World.setCell, Array.getElem?_modify, h]
    simp only [List.length_cons] at hb
    obtain ⟨a1, a2, a3, a4, a5, a6⟩ := heap_setCells b r (o + 1) (w.setCell ⟨b, o, none⟩ v) _ ty fr h1 (by simp; omega)
    refine ⟨?_, ?_, ?_, a4, a5, a6⟩
    · simp only [World.setCells]
      rw [a1]
      congr 3
      have ho : o < cs.size := by omega
      have e1 : (cs.setIfInBounds o v).toList = cs.toList.set o v := by simp
      rw [e1]
      simp only [splice]
      apply List.ext_getElem?
      intro k
      have hl : (cs.toList.set o v).length = cs.size := by simp
      by_cases hk : k < o
      · rw [List.append_assoc, List.getElem?_append_left (by simp; omega), List.getElem?_take_of_lt (by omega), List.getElem?_set_ne (by omega), List.append_assoc, List.getElem?_append_left (by simp; omega), List.getElem?_take_of_lt hk]
      · by_cases hk2 : k = o
        · subst hk2
          rw [List.append_assoc, List.getElem?_append_left (by simp; omega), List.getElem?_take_of_lt (by omega), List.getElem?_set_self (by simpa using ho), List.append_assoc, List.getElem?_append_right (by simp; omega)]
          simp [Nat.min_eq_left (Nat.le_of_lt ho)]
        · by_cases hk3 : k < o + 1 + r.length
          · rw [List.getElem?_append_left (by simp; omega), List.getElem?_append_right (by simp; omega), List.getElem?_append_left (by simp; omega), List.getElem?_append_right (by simp; omega)]
            simp only [List.length_take, Array.length_toList, List.length_set, Nat.min_eq_left (Nat.le_of_lt ho), Nat.min_eq_left (show o + 1 ≤ cs.size by omega)]
            rw [show k - o = (k - (o + 1)) + 1 by omega, List.getElem?_cons_succ]
          · rw [List.getElem?_append_right (by simp; omega), List.getElem?_append_right (by simp; omega), List.getElem?_drop, List.getElem?_drop, List.getElem?_set_ne (by simp; omega)]
            congr 1
            simp; omega
    · intro k hk
      simp only [World.setCells]
      rw [a2 k hk]
      simp only [World.setCell, Array.getElem?_modify]
      rw [if_neg (fun e => hk e.symm)]
    · simp only [World.setCells]
      rw [a3]; simp [World.setCell]

theorem run_storeCells_blk {P : Program} {w : World} {b : Nat} {cs : Array Value} {ty : TypeId} {fr : Nat × Nat} (h : w.heap[b]? = some (.cells cs ty fr)) (hf : ∀ i, i < cs.size → ¬(fr.1 ≤ i ∧ i < fr.2))
    {off : Nat} {us : List Value} (hb : off + us.length ≤ cs.size) (hu : ∀ x ∈ us, isCell x) : (storeCells ⟨b, off, none⟩ us).run P w = .ok () (w.setCells b off us) := by
  have := run_storeCells_cells (P := P) b off us 0 w (fun j hj => by
      rw [cell_blk h]
      simp; omega) (fun j hj => frozen_blk h _ (hf _ (by omega))) (fun v hv => isCell_one (hu v hv))
  simpa using this

def evStore (P : Program) (G : Heap) (t : TypeId) : T → T → Option Res
  | .ptr id path, x => match hget G id with
    | some tr => match get tr path, szO P t with
      | some u, some n => bif Nat.beq u.size n && Nat.beq x.size n && (x.isAgg || x.isLeaf) then some ⟨getOK tr path, .any, hset G id (some (put tr path x)), 2 ^ id, 2 ^ id⟩ else none
      | _, _ => none
    | none => none
  | _, _ => none

theorem T.cellsOf {ρ : Rho} {x : T} {x' : Value} (h : (x.isAgg || x.isLeaf) = true) (hx : (R ρ x).v x') : (R ρ x).c x'.cells.toList := by
  cases ha : x.isAgg with
  | true =>
    obtain ⟨cs, rfl, hc⟩ := (R_agg ha).1 hx
    exact hc
  | false =>
    rw [ha, Bool.false_or] at h
    obtain ⟨h1, h2⟩ := R_leaf h hx
    have : x'.cells = #[x'] := by cases x' <;> first | rfl | exact h2.elim
    rw [this]; exact h1

theorem tb_eq {i k : Nat} (h : (2 ^ i).testBit k = true) : i = k := by simpa [Nat.testBit_two_pow] using h

theorem evStore_sound {P : Program} {G : Heap} {t : TypeId} {x y : T} {r : Res} {ρ : Rho} {x' y' : Value} {w : World} (h : evStore P G t x y = some r) (hvc : r.vc = true)
    (hx : (R ρ x).v x') (hy : (R ρ y).v y') (hsim : Sim (bitK r.t) ρ G w) : ∃ w', (Instr.storeAt t x' y').run P w = .ok () w' ∧ ∃ ρ', Post ρ ρ' G w r undef w' := by
  unfold evStore at h
  split at h
  · rename_i id path
    obtain ⟨b, sz, hr, rfl⟩ := hx
    split at h
    · rename_i tr htr
      split at h
      · rename_i u n hu hn
        cases hb : (Nat.beq u.size n && Nat.beq y.size n && (y.isAgg || y.isLeaf)) with
        | false => rw [hb] at h; cases h
        | true =>
          rw [hb] at h
          cases h
          simp only [Bool.and_eq_true] at hb
          obtain ⟨⟨hb1, hb2⟩, hb3⟩ := hb
          have e1 := Nat.eq_of_beq_eq_true hb1
          have e2 := Nat.eq_of_beq_eq_true hb2
          obtain ⟨p, hp, cs, ty, fr, h1, h2, h3, h4, h5⟩ := hsim.blk id tr (tb_self id) htr
          rw [hr] at hp
          cases hp
          obtain ⟨h6, h7⟩ := get_sound h4 hu hvc
          simp only [List.length_take, Array.length_toList] at h7
          have hyc := T.cellsOf hb3 hy
          have hyl := R_size hyc
          have e5 : y'.cells.toList.length = y'.cells.size := Array.length_toList
          have hst := run_storeCells_blk (P := P) h1 h5 (off := poff path) (us := y'.cells.toList) (by omega) (R_cells hyc)
          obtain ⟨g1, g2, g3, g4, g5, g6⟩ := heap_setCells b y'.cells.toList (poff path) w cs ty fr h1 (by omega)
          have hput := put_sound h4 hu hvc hyc (by omega)
          have hpsz : (put tr path y).size = tr.size := put_size hu (by omega)
          have hblk : Blk ρ (put tr path y) (b, sz) (w.setCells b (poff path) y'.cells.toList) := by
            refine ⟨_, ty, fr, g1, ?_, ?_, ?_, ?_⟩
            · rw [List.size_toArray, splice_len (by simp only [Array.length_toList]; omega)]; simpa using h2
            · rw [List.size_toArray, splice_len (by simp only [Array.length_toList]; omega), hpsz]; simpa using h3
            · rw [hpsz]
              change (R ρ (put tr path y)).c (List.take tr.size (splice cs.toList (poff path) y'.cells.toList))
              have : List.take tr.size (splice cs.toList (poff path) y'.cells.toList) = splice (List.take tr.size cs.toList) (poff path) y'.cells.toList := by
                simp only [splice]
                rw [List.take_append, List.take_append, List.take_take, List.take_take, List.take_of_length_le (l := y'.cells.toList) (by simp; omega)]
                congr 2
                · congr 1; omega
                · rw [List.drop_take]; congr 1; simp; omega
              rw [this]; exact hput
            · intro i hi
              rw [List.size_toArray, splice_len (by simp only [Array.length_toList]; omega)] at hi
              exact h5 i (by simpa using hi)
          refine ⟨w.setCells b (poff path) y'.cells.toList, ?_, ρ, ?_⟩
          · have e3 : y'.cells.size = n := by rw [← Array.length_toList, hyl, e2]
            simp [Instr.storeAt, Instr.sureAddr, storeVar, szO_run hn, e3, hst]
          · exact {
              ext := Rho.Ext.refl ρ
              dom := fun _ _ => rfl
              val := trivial
              sim := fun k t' hk hg => by
                rcases hk with hk | hk
                · have := hget_lt hg
                  simp only [hset_len] at this
                  omega
                · have := tb_eq hk
                  subst this
                  rw [hget_hset_same _ (hget_lt htr)] at hg
                  cases hg
                  exact ⟨_, hr, hblk⟩
              new := fun k t' p hk hg => by
                have := hget_lt hg
                simp only [hset_len] at this
                omega
              inj := fun k k' t' t'' p p' hk _ hg => by
                have := hget_lt hg
                simp only [hset_len] at this
                omega
              frame := fun b' _ hne => g2 b' (fun e => hne id _ (hget_lt htr) (tb_self id) hr e.symm)
              size := by rw [g3]; exact Nat.le_refl _
              os := g4
              tape := g5
              output := g6 }
      · cases h
    · cases h
  · cases h

def newR (G : Heap) (z : T) (v : T) : Res := ⟨true, v, G ++ [some z], 0, 0⟩

theorem heap_alloc_new (w : World) (o : Obj) : (({ w with heap := w.heap.push o } : World).heap)[w.heap.size]? = some o := by simp

/-- A new block. -/
theorem Post.alloc {ρ : Rho} {G : Heap} {w : World} {z v : T} {v' : Value} {cs : Array Value} {ty : TypeId} (w1 : World) (hw : w1.heap = w.heap.push (.cells cs ty (0, 0))) (ho : w1.os = w.os) (ht : w1.tape = w.tape) (hu : w1.output = w.output)
    (hf : ρ G.length = none) (hz : z.size ≤ cs.size) (hc : (R ρ z).c (cs.toList.take z.size))
    (hv : ∀ ρ' : Rho, ρ.Ext ρ' → ρ' G.length = some (w.heap.size, cs.size) → (R ρ' v).v v') : ∃ ρ', Post ρ ρ' G w (newR G z v) v' w1 := by
  let ρ' : Rho := fun k => if k = G.length then some (w.heap.size, cs.size) else ρ k
  have hext : ρ.Ext ρ' := fun k p hk => by
    by_cases e : k = G.length
    · rw [e, hf] at hk; cases hk
    · simp [ρ', e, hk]
  have hnew : ρ' G.length = some (w.heap.size, cs.size) := by simp [ρ']
  have hlt : ∀ k t, G.length ≤ k → hget (G ++ [some z]) k = some t → k = G.length ∧ t = z := fun k t hk hg => by
    have h1 := hget_lt hg
    simp only [List.length_append, List.length_singleton] at h1
    have : k = G.length := by omega
    subst this
    rw [hget_append_new] at hg
    cases hg
    exact ⟨rfl, rfl⟩
  refine ⟨ρ', ?_⟩
  exact {
    ext := hext
    dom := fun k hk => by
      simp only [newR, List.length_append, List.length_singleton] at hk
      have : k ≠ G.length := by omega
      simp [ρ', this]
    val := hv ρ' hext hnew
    sim := fun k t hk hg => by
      rcases hk with hk | hk
      · obtain ⟨rfl, rfl⟩ := hlt k t hk hg
        refine ⟨_, hnew, cs, ty, (0, 0), ?_, rfl, hz, R_c_mono hext hc, ?_⟩
        · simp [hw]
        · intro i _; simp
      · simp [newR] at hk
    new := fun k t p hk hg hp => by
      obtain ⟨rfl, rfl⟩ := hlt k t hk hg
      rw [hnew] at hp
      cases hp
      exact .inl (Nat.le_refl _)
    inj := fun k k' t t' p p' hk hk' hg hg' _ _ _ => by
      rw [(hlt k t hk hg).1, (hlt k' t' hk' hg').1]
    frame := fun b hb _ => by rw [hw, Array.getElem?_push, if_neg (by omega)]
    size := by rw [hw]; simp
    os := ho
    tape := ht
    output := hu }

def evBox (G : Heap) (x : T) : Option Res := bif x.isAgg || x.isLeaf then some (newR G x (.ptr G.length [])) else none

theorem evBox_sound {P : Program} {G : Heap} {t : TypeId} {x : T} {r : Res} {ρ : Rho} {x' : Value} {w : World} (h : evBox G x = some r)
    (hx : (R ρ x).v x') (hf : fresh ρ G.length r.G.length) : ∃ v' w', (Instr.box t x').run P w = .ok v' w' ∧ ∃ ρ', Post ρ ρ' G w r v' w' := by
  unfold evBox at h
  cases hb : (x.isAgg || x.isLeaf) with
  | false => rw [hb] at h; cases h
  | true =>
    rw [hb] at h
    cases h
    have hc := T.cellsOf hb hx
    have hl := R_size hc
    refine ⟨_, _, rfl, ?_⟩
    refine Post.alloc (cs := x'.cells) (ty := t) _ rfl rfl rfl rfl (hf _ (Nat.le_refl _) (by simp [newR])) ?_ ?_ ?_
    · rw [← hl]; simp
    · rw [← hl, List.take_length]; exact hc
    · intro ρ' _ hn
      exact ⟨_, _, hn, rfl⟩

theorem zIter_sound {f : Nat → T} {ρ : Rho} (hrec : ∀ i r r', zmatch (f i) r = some r' → ∃ a, r = a ++ r' ∧ (R ρ (f i)).c a) :
    ∀ (n i : Nat) (r r' : List Value), zIter (fun i => zmatch (f i)) n i r = some r' → ∃ as : List (List Value), as.length = n ∧ r = as.flatten ++ r' ∧ ∀ j a, as[j]? = some a → (R ρ (f (i + j))).c a
  | 0, i, r, r', h => by cases h; exact ⟨[], rfl, rfl, fun j a hj => by simp at hj⟩
  | n + 1, i, r, r', h => by
    simp only [zIter] at h
    split at h
    · rename_i r1 h1
      obtain ⟨a, rfl, ha⟩ := hrec i r r1 h1
      obtain ⟨as, hl, rfl, hs⟩ := zIter_sound hrec n (i + 1) r1 r' h
      refine ⟨a :: as, by simp [hl], by simp, ?_⟩
      intro j b hj
      cases j with
      | zero => simp at hj; subst hj; exact ha
      | succ j => have := hs j b (by simpa using hj); rwa [show i + 1 + j = i + (j + 1) by omega] at this
    · cases h

theorem flatten_at {as : List (List Value)} {m : Nat} (hm : ∀ a ∈ as, a.length = m) : as.flatten.length = as.length * m ∧ ∀ j a, as[j]? = some a → (as.flatten.drop (j * m)).take m = a := by
  induction as with
  | nil => exact ⟨by simp, fun j a h => by simp at h⟩
  | cons b as ih =>
    obtain ⟨h1, h2⟩ := ih (fun a ha => hm a (by simp [ha]))
    have hb := hm b (by simp)
    refine ⟨by simp [h1, hb, Nat.succ_mul, Nat.add_comm], ?_⟩
    intro j a hj
    cases j with
    | zero =>
      simp at hj; subst hj
      simp only [Nat.zero_mul, List.drop_zero, List.flatten_cons]
      rw [← hb, List.take_left]
    | succ j =>
      have := h2 j a (by simpa using hj)
      rw [List.flatten_cons, List.drop_append, List.drop_eq_nil_of_le (by rw [hb, Nat.succ_mul]; omega), List.nil_append, hb]
      rw [show (j + 1) * m - m = j * m by rw [Nat.succ_mul]; omega]
      exact this

/-- Rows whose parts are all as long. -/
def wfT : T → Prop
  | .cons h t => wfT h ∧ wfT t
  | .rows n m f => ∀ i, i < n → (f i).size = m ∧ wfT (f i)
  | _ => True

theorem zmatch_sound {ρ : Rho} : ∀ {z : T}, wfT z → ∀ {r r' : List Value}, zmatch z r = some r' → ∃ a, r = a ++ r' ∧ (R ρ z).c a := by
  intro z
  induction z with
  | bool b =>
    intro _ r r' h
    cases r with
    | nil => simp [zmatch] at h
    | cons v r => cases v <;> first
      | (simp [zmatch] at h; done)
      | (rename_i b'
         simp only [zmatch] at h
         cases hb : (b == b') <;> rw [hb] at h <;> cases h
         exact ⟨[.bool b'], rfl, _, rfl, by simp at hb; rw [hb]⟩)
  | int k n =>
    intro _ r r' h
    cases r with
    | nil => simp [zmatch] at h
    | cons v r => cases v <;> first
      | (simp [zmatch] at h; done)
      | (rename_i k' n'
         simp only [zmatch] at h
         split at h
         · rename_i e
           obtain ⟨rfl, rfl⟩ := e
           cases h
           exact ⟨[.int k n], rfl, _, rfl, rfl⟩
         · cases h)
  | str s =>
    intro _ r r' h
    cases r with
    | nil => simp [zmatch] at h
    | cons v r => cases v <;> first
      | (simp [zmatch] at h; done)
      | (rename_i s'
         simp only [zmatch] at h
         cases hb : (Nat.beq s.size 0 && Nat.beq s'.size 0) <;> rw [hb] at h <;> cases h
         simp only [Bool.and_eq_true] at hb
         refine ⟨[.string s'], rfl, _, rfl, ?_⟩
         have e1 := Nat.eq_of_beq_eq_true hb.1
         have e2 := Nat.eq_of_beq_eq_true hb.2
         have : s' = s := by
           cases s; cases s'
           simp [ByteArray.size] at e1 e2
           simp [e1, e2]
         rw [this])
  | nilptr =>
    intro _ r r' h
    unfold zmatch at h
    split at h <;> first | (cases h; done) | skip
    all_goals simp_all
    all_goals (subst h; exact ⟨[_], rfl, _, rfl, rfl⟩)
  | nilslice =>
    intro _ r r' h
    unfold zmatch at h
    split at h <;> first | (cases h; done) | skip
    all_goals simp_all
    all_goals (subst h; exact ⟨[_], rfl, _, rfl, rfl⟩)
  | nilfn =>
    intro _ r r' h
    unfold zmatch at h
    split at h <;> first | (cases h; done) | skip
    all_goals simp_all
    all_goals (subst h; exact ⟨[_], rfl, _, rfl, rfl⟩)
  | nil => intro _ r r' h; simp only [zmatch] at h; cases h; exact ⟨[], rfl, rfl⟩
  | cons a b iha ihb =>
    intro hw r r' h
    simp only [zmatch] at h
    split at h
    · rename_i r1 h1
      obtain ⟨x, rfl, hx⟩ := iha hw.1 h1
      obtain ⟨y, rfl, hy⟩ := ihb hw.2 h
      exact ⟨x ++ y, by simp, x, y, rfl, hx, hy⟩
    · cases h
  | rows n m f ih =>
    intro hw r r' h
    simp only [zmatch] at h
    have key : ∀ (n' i : Nat) (r r' : List Value), i + n' = n → zIter (fun i => zmatch (f i)) n' i r = some r' → ∃ as : List (List Value), as.length = n' ∧ r = as.flatten ++ r' ∧ ∀ j a, as[j]? = some a → (R ρ (f (i + j))).c a := by
      intro n'
      induction n' with
      | zero => intro i r r' _ h; cases h; exact ⟨[], rfl, rfl, fun j a hj => by simp at hj⟩
      | succ n' ihn =>
        intro i r r' hi h
        simp only [zIter] at h
        split at h
        · rename_i r1 h1
          obtain ⟨a, rfl, ha⟩ := ih i (hw i (by omega)).2 h1
          obtain ⟨as, hl, rfl, hs⟩ := ihn (i + 1) r1 r' (by omega) h
          refine ⟨a :: as, by simp [hl], by simp, ?_⟩
          intro j b hj
          cases j with
          | zero => simp at hj; subst hj; exact ha
          | succ j => have := hs j b (by simpa using hj); rwa [show i + 1 + j = i + (j + 1) by omega] at this
        · cases h
    obtain ⟨as, hl, rfl, hs⟩ := key n 0 r r' (by omega) h
    have hm : ∀ a ∈ as, a.length = m := fun a ha => by
      obtain ⟨j, hj, rfl⟩ := List.mem_iff_getElem.1 ha
      have h1 := R_size (hs j as[j] (List.getElem?_eq_getElem hj))
      rw [h1]
      exact (hw (0 + j) (by omega)).1
    obtain ⟨g1, g2⟩ := flatten_at hm
    refine ⟨as.flatten, rfl, by rw [g1, hl], ?_⟩
    intro i hi
    have hj : i < as.length := by omega
    rw [g2 i as[i] (List.getElem?_eq_getElem hj)]
    have := hs i as[i] (List.getElem?_eq_getElem hj)
    rwa [Nat.zero_add] at this
  | ints k n f =>
    intro _ r r' h
    simp only [zmatch] at h
    have key : ∀ (n' i : Nat) (r r' : List Value), zInts k f n' i r = some r' → ∃ a, r = a ++ r' ∧ a.length = n' ∧ ∀ j, j < n' → a[j]? = some (.int k (f (i + j))) := by
      intro n'
      induction n' with
      | zero => intro i r r' h; cases h; exact ⟨[], rfl, rfl, fun j hj => by omega⟩
      | succ n' ihn =>
        intro i r r' h
        cases r with
        | nil => simp [zInts] at h
        | cons v r => cases v <;> first
          | (simp [zInts] at h; done)
          | (rename_i k' v
             simp only [zInts] at h
             split at h
             · rename_i e
               obtain ⟨rfl, rfl⟩ := e
               obtain ⟨a, rfl, hl, ha⟩ := ihn (i + 1) r r' h
               refine ⟨.int k (f i) :: a, rfl, by simp [hl], fun j hj => ?_⟩
               cases j with
               | zero => simp
               | succ j => have := ha j (by omega); rw [show i + 1 + j = i + (j + 1) by omega] at this; simpa using this
             · cases h)
    obtain ⟨a, rfl, hl, ha⟩ := key n 0 r r' h
    exact ⟨a, rfl, hl, fun i hi => by have := ha i hi; rwa [Nat.zero_add] at this⟩
  | _ => intro _ r r' h; simp [zmatch] at h

theorem copies_wf {z : T} (h : wfT z) : ∀ n, wfT (copies z n)
  | 0 => trivial
  | n + 1 => ⟨h, copies_wf h n⟩

theorem zeroT_wf (P : Program) : ∀ (d : Nat) (t : TypeId) (z : T), zeroT P d t = some z → wfT z
  | 0, _, _, h => by cases h
  | d + 1, t, z, h => by
    simp only [zeroT] at h
    split at h <;> first
      | (cases h; done)
      | (cases h; trivial)
      | skip
    · have key : ∀ (l : List Field) (z : T), zFields (zeroT P d) l = some z → wfT z := by
        intro l
        induction l with
        | nil => intro z h; cases h; trivial
        | cons f r ih =>
          intro z h
          simp only [zFields] at h
          split at h
          · rename_i a b ha hb
            cases h
            exact ⟨zeroT_wf P d _ _ ha, ih _ hb⟩
          · cases h
      exact key _ _ h
    · split at h
      · rename_i k' i' hz'
        simp only [Option.some.injEq] at h
        subst h
        cases Nat.ble _ 8
        · trivial
        · exact copies_wf (z := .int k' i') trivial _
      · rename_i z' hz'
        have hw := zeroT_wf P d _ _ hz'
        simp only [Option.some.injEq] at h
        subst h
        cases Nat.ble _ 8
        · exact fun i _ => ⟨rfl, hw⟩
        · exact copies_wf hw _
      · cases h

theorem zOf_sound {P : Program} {t : TypeId} {z : T} {ρ : Rho} (h : zOf P t = some z) (w : World) : ∃ v, (zeroValue t).run P w = .ok v w ∧ (R ρ z).c v.cells.toList ∧ (z.isAgg = true → (R ρ z).v v) := by
  unfold zOf at h
  split at h
  · rename_i v z' hv hz
    split at h
    · rename_i hm
      cases hb : (z'.isAgg == isAggV v) with
      | false => rw [hb] at h; cases h
      | true =>
        rw [hb] at h
        cases h
        obtain ⟨a, ha, hc⟩ := zmatch_sound (ρ := ρ) (zeroT_wf P 20 t z hz) hm
        rw [List.append_nil] at ha
        refine ⟨v, ?_, by rw [ha]; exact hc, ?_⟩
        · cases hi : P.info? t with
          | none => simp [hi] at hv
          | some i =>
            simp [hi] at hv
            simp [zeroValue, typeInfo, hi, hv]
        · intro hg
          rw [hg] at hb
          cases v <;> simp [isAggV] at hb
          exact (R_agg hg).2 ⟨_, rfl, by rw [← ha] at hc; exact hc⟩
    · cases h
  · cases h

def evAlloc (P : Program) (G : Heap) (t : TypeId) : Option Res :=
  match zOf P t with
  | some z => some (newR G z (.ptr G.length []))
  | none => none

theorem evAlloc_sound {P : Program} {G : Heap} {t : TypeId} {r : Res} {ρ : Rho} {w : World} (h : evAlloc P G t = some r) (hf : fresh ρ G.length r.G.length) :
    ∃ v' w', (Instr.alloc t true (.tuple #[])).run P w = .ok v' w' ∧ ∃ ρ', Post ρ ρ' G w r v' w' := by
  unfold evAlloc at h
  split at h
  · rename_i z hz
    cases h
    obtain ⟨v, hv, hc, _⟩ := zOf_sound (ρ := ρ) hz w
    have hl := R_size hc
    refine ⟨.pointer (some ⟨w.heap.size, 0, none⟩), { w with heap := w.heap.push (.cells v.cells t) }, ?_, Post.alloc (cs := v.cells) (ty := t) { w with heap := w.heap.push (.cells v.cells t) } rfl rfl rfl rfl (hf _ (Nat.le_refl _) (by simp [newR])) ?_ ?_ ?_⟩
    · simp [Instr.alloc, hv, newVar, newRow]
    · rw [← hl]; simp
    · rw [← hl, List.take_length]; exact hc
    · intro ρ' _ hn
      exact ⟨_, _, hn, rfl⟩
  · cases h

theorem Stat.pure (G : Heap) (vc : Bool) (v : T) (t : Nat) : Stat G ⟨vc, v, G, t, 0⟩ := ⟨Nat.le_refl _, fun k _ h => by simp at h, fun _ _ _ => rfl⟩
theorem Stat.new (G : Heap) (z v : T) : Stat G (newR G z v) := ⟨by simp [newR], fun k _ h => by simp [newR] at h, fun k hk _ => hget_append_left hk⟩

theorem evLoad_stat {P : Program} {G : Heap} {t : TypeId} {x : T} {r : Res} (h : evLoad P G t x = some r) : Stat G r := by
  unfold evLoad at h
  split at h
  · split at h
    · split at h
      · rename_i u n _ _
        cases hb : (Nat.beq u.size n && aggIs P t u.isAgg) with
        | false => rw [hb] at h; cases h
        | true => rw [hb] at h; cases h; exact Stat.pure _ _ _ _
      · cases h
    · cases h
  · cases h

theorem evStore_stat {P : Program} {G : Heap} {t : TypeId} {x y : T} {r : Res} (h : evStore P G t x y = some r) : Stat G r := by
  unfold evStore at h
  split at h
  · split at h
    · rename_i tr htr
      split at h
      · rename_i u n _ _
        cases hb : (Nat.beq u.size n && Nat.beq y.size n && (y.isAgg || y.isLeaf)) with
        | false => rw [hb] at h; cases h
        | true =>
          rw [hb] at h
          cases h
          exact ⟨by simp [hset_len], fun k _ hk => ⟨hk, by rw [← tb_eq hk]; exact ⟨tr, htr⟩⟩, fun k _ hk => hget_hset_ne _ (fun e => by subst e; simp at hk)⟩
      · cases h
    · cases h
  · cases h

theorem evBox_stat {G : Heap} {x : T} {r : Res} (h : evBox G x = some r) : Stat G r := by
  unfold evBox at h
  cases hb : (x.isAgg || x.isLeaf) with
  | false => rw [hb] at h; cases h
  | true => rw [hb] at h; cases h; exact Stat.new _ _ _

theorem evAlloc_stat {P : Program} {G : Heap} {t : TypeId} {r : Res} (h : evAlloc P G t = some r) : Stat G r := by
  unfold evAlloc at h
  split at h
  · cases h; exact Stat.new _ _ _
  · cases h

end
end Go.AE

/-! The abstract evaluator: literals, slices of memory, and all operations together. No condition. -/
namespace Go.AE
open Go
noncomputable section

/-! ### Literals -/

theorem foldl_splice : ∀ (us : List Value) (k off : Nat) (cells : Array Value), off + k + us.length ≤ cells.size →
    ((us.zipIdx k).foldl (fun (cs : Array Value) (p : Value × Nat) => cs.setIfInBounds (off + p.2) p.1) cells).toList = splice cells.toList (off + k) us
  | [], k, off, cells, _ => by simp [splice]
  | u :: us, k, off, cells, h => by
    simp only [List.length_cons] at h
    simp only [List.zipIdx_cons, List.foldl_cons]
    rw [foldl_splice us (k + 1) off _ (by simp; omega)]
    have ho : off + k < cells.toList.length := by simp; omega
    simp only [splice, Array.toList_setIfInBounds, List.length_cons]
    apply List.ext_getElem?
    intro j
    have hl : (cells.toList.set (off + k) u).length = cells.size := by simp
    by_cases hk : j < off + k
    · rw [List.append_assoc, List.getElem?_append_left (by simp; omega), List.getElem?_take_of_lt (by omega), List.getElem?_set_ne (by omega), List.append_assoc, List.getElem?_append_left (by simp; omega), List.getElem?_take_of_lt hk]
    · by_cases hk2 : j = off + k
      · subst hk2
        rw [List.append_assoc, List.getElem?_append_left (by simp; omega), List.getElem?_take_of_lt (by omega), List.getElem?_set_self ho, List.append_assoc, List.getElem?_append_right (by simp; omega)]
        simp only [List.length_take, Array.length_toList, Nat.min_eq_left (show off + k ≤ cells.size by omega), Nat.sub_self, List.cons_append, List.getElem?_cons_zero]
      · by_cases hk3 : j < off + k + 1 + us.length
        · rw [List.getElem?_append_left (by simp; omega), List.getElem?_append_right (by simp; omega), List.getElem?_append_left (by simp; omega), List.getElem?_append_right (by simp; omega)]
          simp only [List.length_take, Array.length_toList, List.length_set, Nat.min_eq_left (show off + k ≤ cells.size by omega), Nat.min_eq_left (show off + (k + 1) ≤ cells.size by omega)]
          rw [show j - (off + k) = (j - (off + (k + 1))) + 1 by omega, List.getElem?_cons_succ]
        · rw [List.getElem?_append_right (by simp; omega), List.getElem?_append_right (by simp; omega), List.getElem?_drop, List.getElem?_drop, List.getElem?_set_ne (by simp; omega)]
          congr 1
          simp; omega

theorem setNth_isAgg (t : T) (j : Nat) (u : T) : (setNth t j u).isAgg = t.isAgg := by cases t <;> cases j <;> rfl
theorem stepSet_isAgg (t : T) (s : Step) (u : T) : (stepSet t s u).isAgg = t.isAgg := by
  cases t
  case abs a =>
    cases a <;> cases s
    case nn.idx => cases u <;> simp only [stepSet] <;> first | rfl | (split <;> rfl)
    all_goals rfl
  all_goals cases s <;> first | exact setNth_isAgg _ _ _ | rfl | (cases u <;> simp only [stepSet] <;> first | rfl | (split <;> rfl))

def fillT (place : Nat → Option (Step × Nat)) : T → List (Nat × T) → Option (Bool × T)
  | z, [] => some (true, z)
  | z, (i, x) :: rest => match place i with
    | some (s, n) => match stepT z s with
      | some u => bif Nat.beq u.size n && Nat.beq x.size n && (x.isAgg || x.isLeaf) then
          match fillT place (stepSet z s x) rest with
          | some (vc, r) => some (stepOK z s && vc, r)
          | none => none
        else none
      | none => none
    | none => none

theorem fillT_sound {ρ : Rho} {place : Nat → Option (Step × Nat)} {place' : Nat → Option (Nat × Nat)} (hp : ∀ i s n, place i = some (s, n) → place' i = some (s.off, n)) :
    ∀ (parts : List (Nat × T)) (parts' : List (Nat × Value)) (z z' : T) (cells : Array Value), (∀ (j i : Nat) (x : T), parts[j]? = some (i, x) → ∃ x', parts'[j]? = some (i, x') ∧ (R ρ x).v x') → parts'.length = parts.length →
    (R ρ z).c cells.toList → ∀ vc, fillT place z parts = some (vc, z') → vc = true → ∃ cells', Instr.fill place' cells parts' = some cells' ∧ (R ρ z').c cells'.toList ∧ z'.isAgg = z.isAgg
  | [], [], z, z', cells, _, _, hc, vc, h, _ => by
    simp only [fillT, Option.some.injEq, Prod.mk.injEq] at h
    obtain ⟨_, rfl⟩ := h
    exact ⟨cells, rfl, hc, rfl⟩
  | [], _ :: _, _, _, _, _, hl, _, _, _, _ => by simp at hl
  | (i, x) :: parts, parts', z, z', cells, hr, hl, hc, vc, h, hvc => by
    obtain ⟨x', hx', hxv⟩ := hr 0 i x rfl
    cases parts' with
    | nil => simp at hx'
    | cons p' parts' =>
      simp only [List.getElem?_cons_zero, Option.some.injEq] at hx'
      subst hx'
      simp only [fillT] at h
      split at h
      · rename_i s n hpl
        split at h
        · rename_i u hu
          cases hb : (Nat.beq u.size n && Nat.beq x.size n && (x.isAgg || x.isLeaf)) with
          | false => rw [hb] at h; cases h
          | true =>
            rw [hb] at h
            simp only [cond_true] at h
            split at h
            · rename_i vc' r hf
              simp only [Option.some.injEq, Prod.mk.injEq] at h
              obtain ⟨h1, rfl⟩ := h
              subst hvc
              simp only [Bool.and_eq_true] at h1 hb
              obtain ⟨⟨hb1, hb2⟩, hb3⟩ := hb
              have e1 := Nat.eq_of_beq_eq_true hb1
              have e2 := Nat.eq_of_beq_eq_true hb2
              have hxc := T.cellsOf hb3 hxv
              have hxl := R_size hxc
              have hb5 := (stepT_sound hc hu h1.1).2
              have e5 : x'.cells.toList.length = x'.cells.size := Array.length_toList
              have hset := stepSet_sound hc hu h1.1 hxc (by omega)
              have e3 : (x'.cells.zipIdx.foldl (fun (cs : Array Value) (p : Value × Nat) => cs.setIfInBounds (s.off + p.2) p.1) cells).toList = splice cells.toList s.off x'.cells.toList := by
                have := foldl_splice x'.cells.toList 0 s.off cells (by simp only [Array.length_toList] at hb5; omega)
                rw [Nat.add_zero] at this
                rw [← this, ← Array.foldl_toList, Array.toList_zipIdx]
              obtain ⟨cells', g1, g2, g3⟩ := fillT_sound hp parts parts' _ r _ (fun j i x hj => by simpa using hr (j + 1) i x (by simpa using hj)) (by simpa using hl) (by rw [e3]; exact hset) vc' hf h1.2
              refine ⟨cells', ?_, g2, ?_⟩
              · simp only [Instr.fill, hp i s n hpl]
                rw [if_neg]
                · exact g1
                · simp only [Bool.or_eq_true, decide_eq_true_eq, not_or]
                  simp only [Array.length_toList] at hb5
                  omega
              · rw [g3]; exact stepSet_isAgg z s x
            · cases h
        · cases h
      · cases h

def evBuild (P : Program) (t : TypeId) (parts : List (Nat × T)) : Option (Bool × T) :=
  match zOf P t, P.underlying t with
  | some z, some (.struct fs) =>
    bif z.isAgg && fs.toList.all (fun f => (szO P f.type).isSome) then
      fillT (fun i => match fs.toList[i]? with
        | some f => match szO P f.type with
          | some n => some (.fld i f.offset, n)
          | none => none
        | none => none) z parts
    else none
  | some z, some (.array _ e) => match szO P e with
    | some m => bif z.isAgg then fillT (fun i => some (.idx i m, m)) z parts else none
    | none => none
  | _, _ => none

theorem evBuild_sound {P : Program} {t : TypeId} {parts : List (Nat × T)} {parts' : Array (Nat × Value)} {vc : Bool} {v : T} {ρ : Rho} (h : evBuild P t parts = some (vc, v)) (hvc : vc = true)
    (hr : ∀ (j i : Nat) (x : T), parts[j]? = some (i, x) → ∃ x', parts'.toList[j]? = some (i, x') ∧ (R ρ x).v x') (hl : parts'.toList.length = parts.length) (w : World) :
    ∃ v', (Instr.build t parts').run P w = .ok v' w ∧ (R ρ v).v v' := by
  unfold evBuild at h
  split at h
  · rename_i z fs hz hu
    cases hb : (z.isAgg && fs.toList.all (fun f => (szO P f.type).isSome)) with
    | false => rw [hb] at h; cases h
    | true =>
      rw [hb] at h
      simp only [Bool.and_eq_true, List.all_eq_true] at hb
      obtain ⟨zv, hzv, hzc, _⟩ := zOf_sound (ρ := ρ) hz w
      have hpl : ∀ l : List Field, (∀ f ∈ l, (szO P f.type).isSome = true) → l.mapM (fun f => (P.info? f.type).map fun i => (f.offset, i.size)) = some (l.map fun f => (f.offset, (szO P f.type).getD 0)) := by
        intro l
        induction l with
        | nil => intro _; rfl
        | cons f l ih =>
          intro h'
          have h1 := h' f (by simp)
          simp only [szO] at h1
          cases hi : P.info? f.type with
          | none => simp [hi] at h1
          | some i => simp [List.mapM_cons, ih (fun f hf => h' f (by simp [hf])), hi, szO]
      have hrun := run_places w _ _ (hpl fs.toList hb.2)
      obtain ⟨cells', g1, g2, g3⟩ := fillT_sound (ρ := ρ) (place' := fun i => (fs.toList.map fun f => (f.offset, (szO P f.type).getD 0)).toArray[i]?) (fun i s n hp => by
          split at hp
          · rename_i f hf
            split at hp
            · rename_i n' hn'
              cases hp
              have hf' : fs[i]? = some f := by simpa using hf
              simp [hf', hn', Step.off]
            · cases hp
          · cases hp) parts parts'.toList z v zv.cells hr hl hzc vc h hvc
      refine ⟨.agg cells', ?_, (R_agg (g3.trans hb.1)).2 ⟨_, rfl, g2⟩⟩
      have hmap : (fs.mapM fun (f : Field) => do pure (f.offset, ← sizeOf f.type)).run P w = .ok (fs.toList.map fun f => (f.offset, (szO P f.type).getD 0)).toArray w := by
        rw [Array.mapM_eq_mapM_toList]
        have : (fun (f : Field) => (do pure (f.offset, ← sizeOf f.type) : Sem (Nat × Nat))) = fun f => Prod.mk f.offset <$> sizeOf f.type := by
          funext f; rfl
        rw [this]
        simp [hrun]
      simp only [Instr.build, Sem.run_bind, hzv, Result.andThen_ok, run_underlying hu, hmap]
      rw [g1]; rfl
  · rename_i z n e hz hu
    split at h
    · rename_i m hm
      cases hb : z.isAgg with
      | false => rw [hb] at h; cases h
      | true =>
        rw [hb] at h
        obtain ⟨zv, hzv, hzc, _⟩ := zOf_sound (ρ := ρ) hz w
        obtain ⟨cells', g1, g2, g3⟩ := fillT_sound (ρ := ρ) (place' := fun i => some (i * m, m)) (fun i s n hp => by
            simp only [Option.some.injEq, Prod.mk.injEq] at hp
            obtain ⟨rfl, rfl⟩ := hp
            rfl) parts parts'.toList z v zv.cells hr hl hzc vc h hvc
        refine ⟨.agg cells', ?_, (R_agg (g3.trans hb)).2 ⟨_, rfl, g2⟩⟩
        simp only [Instr.build, Sem.run_bind, hzv, Result.andThen_ok, run_underlying hu, szO_run hm]
        rw [g1]; rfl
    · cases h
  · cases h

end
end Go.AE

/-! The abstract evaluator: make, append, copy over whole numbers. No condition. -/
namespace Go.AE
open Go
noncomputable section

variable {P : Program}

/-- What is told of a slice's elements: their size, zero value, and bytes. -/
def elemO (P : Program) (t : TypeId) : Option (TypeId × TypeInfo × Value) :=
  match P.underlying t with
  | some (.slice e) => match P.info? e with
    | some i => match i.zero with
      | some z => some (e, i, z)
      | none => none
    | none => none
  | _ => none

theorem elemO_spec {t e : TypeId} {i : TypeInfo} {z : Value} (h : elemO P t = some (e, i, z)) : P.underlying t = some (.slice e) ∧ P.info? e = some i ∧ i.zero = some z := by
  unfold elemO at h
  split at h
  · rename_i e' hu
    split at h
    · rename_i i' hi
      split at h
      · rename_i z' hz
        cases h
        exact ⟨hu, hi, hz⟩
      · cases h
    · cases h
  · cases h

theorem Post.anyVc {ρ ρ' : Rho} {G G' : Heap} {w w' : World} {vc vc2 : Bool} {v : T} {t t2 m : Nat} {v' : Value} (h : Post ρ ρ' G w ⟨vc, v, G', t, m⟩ v' w') : Post ρ ρ' G w ⟨vc2, v, G', t2, m⟩ v' w' :=
  ⟨h.ext, h.dom, h.val, h.sim, h.new, h.inj, h.frame, h.size, h.os, h.tape, h.output⟩

/-! ### make -/

def isInt0 (k : IntKind) : Value → Bool
  | .int k' n => (k' == k) && (n == 0)
  | _ => false

def evMake (P : Program) (G : Heap) (t : TypeId) (l c : T) : Option Res :=
  match elemO P t, l, c with
  | some (e, i, .int k 0), .int _ l, .int _ c => bif Nat.beq i.size 1 then
      some ⟨decide (0 ≤ l ∧ l ≤ c) && decide ((i.bytes : Int) * c ≤ 281474976710656 ∧ c ≤ 9223372036854775807), .slice G.length [] 0 1 l.toNat (some c.toNat), G ++ [some (.ints k c.toNat fun _ => 0)], 0, 0⟩ else none
  | _, _, _ => none

theorem madeCells_int (k : IntKind) (n j : Nat) (h : j < n) : (madeCells (Value.cells (.int k 0)) n).toList[j]? = some (.int k 0) := by
  simp [madeCells, Value.cells, h, Nat.mod_one]

theorem evMake_sound {G : Heap} {t : TypeId} {l c : T} {r : Res} {ρ : Rho} {l' c' : Value} {w : World} (h : evMake P G t l c = some r) (hvc : r.vc = true) (hl : (R ρ l).v l') (hc : (R ρ c).v c') (hf : fresh ρ G.length r.G.length) :
    ∃ v' w', (Instr.makeSlice t l' c').run P w = .ok v' w' ∧ ∃ ρ', Post ρ ρ' G w r v' w' := by
  unfold evMake at h
  split at h
  · rename_i e i k kl l kc c he
    obtain ⟨hu, hi, hz⟩ := elemO_spec he
    obtain rfl : l' = _ := hl
    obtain rfl : c' = _ := hc
    cases hs : Nat.beq i.size 1 with
    | false => rw [hs] at h; cases h
    | true =>
      rw [hs] at h
      have hs1 := Nat.eq_of_beq_eq_true hs
      cases h
      simp only [Bool.and_eq_true, decide_eq_true_eq] at hvc
      obtain ⟨⟨h1, h2⟩, h3, h4⟩ := hvc
      have hr := run_make (P := P) w t e i (.int k 0) hu hi hz kl kc l c h1 h2 h3 h4
      refine ⟨_, _, hr, ?_⟩
      have hsz : (madeCells (Value.cells (.int k 0)) (c.toNat * i.size)).size = c.toNat := by rw [size_madeCells, hs1, Nat.mul_one]
      refine Exists.imp (fun _ h => h.anyVc) (Post.alloc (z := .ints k c.toNat fun _ => 0) (v := .slice G.length [] 0 1 l.toNat (some c.toNat)) (cs := madeCells (Value.cells (.int k 0)) (c.toNat * i.size)) (ty := e) (w.alloc (.cells (madeCells (Value.cells (.int k 0)) (c.toNat * i.size)) e)) rfl rfl rfl rfl (hf G.length (Nat.le_refl _) (by simp)) ?_ ?_ ?_)
      · rw [hsz]; exact Nat.le_refl _
      · refine ⟨by simp [T.size, hsz], fun j hj => ?_⟩
        have e1 : (madeCells (Value.cells (.int k 0)) (c.toNat * i.size)).toList.take (T.size (.ints k c.toNat fun _ => 0)) = (madeCells (Value.cells (.int k 0)) (c.toNat * i.size)).toList := by
          rw [List.take_of_length_le]
          show _ ≤ c.toNat
          rw [Array.length_toList, hsz]
          exact Nat.le_refl _
        rw [e1]
        exact madeCells_int k _ j (by rw [hs1]; omega)
      · intro ρ' _ hn
        exact ⟨_, _, hn, by simp [SliceRel, poff]⟩
  · cases h

/-! ### Numbers in a row -/

/-- Length and numbers of a slice that is told, or of a string. -/
def contI (G : Heap) : T → Option (Bool × IntKind × Nat × (Nat → Int) × Nat)
  | .slice id path lo m len _ => bif Nat.beq m 1 then match hget G id with
    | some tr => match get tr path with
      | some (.ints k n f) => some (getOK tr path && decide (lo + len ≤ n), k, len, fun j => f (lo + j), 2 ^ id)
      | _ => none
    | none => none
    else none
  | .str s => some (true, .u8, s.size, fun j => ((s.data.toList.getD j 0).toNat : Nat), 0)
  | _ => none

def cellsI (k : IntKind) (n : Nat) (f : Nat → Int) : List Value := (List.range n).map fun j => .int k (f j)
theorem cellsI_len (k : IntKind) (n : Nat) (f : Nat → Int) : (cellsI k n f).length = n := by simp [cellsI]
theorem cellsI_get (k : IntKind) (n : Nat) (f : Nat → Int) {j : Nat} (h : j < n) : (cellsI k n f)[j]? = some (.int k (f j)) := by simp [cellsI, h]
theorem cellsI_R {ρ : Rho} (k : IntKind) (n : Nat) (f : Nat → Int) : (R ρ (.ints k n f)).c (cellsI k n f) := ⟨cellsI_len k n f, fun _ hj => cellsI_get k n f hj⟩

/-- What is in it, for what takes it as an argument. -/
def Holds (P : Program) (x' : Value) (n : Nat) (cs : List Value) (w : World) : Prop :=
  (Builtin.lenOf x').run P w = .ok n w ∧ (Builtin.firstCells 1 n x').run P w = .ok cs.toArray w ∧ (Builtin.firstCells 1 n x').run P w.drew = .ok cs.toArray w.drew

theorem contI_sound {G : Heap} {x : T} {vc : Bool} {k : IntKind} {n : Nat} {f : Nat → Int} {tm : Nat} {ρ : Rho} {x' : Value} {w : World} (h : contI G x = some (vc, k, n, f, tm)) (hvc : vc = true) (hx : (R ρ x).v x') {t : Nat}
    (ht : ∀ i, tm.testBit i = true → t.testBit i = true) (hsim : Sim (bitK t) ρ G w) : Holds P x' n (cellsI k n f) w := by
  subst hvc
  unfold contI at h
  split at h
  · rename_i id path lo m len cap
    cases hm : Nat.beq m 1 with
    | false => rw [hm] at h; cases h
    | true =>
      rw [hm] at h
      have hm1 := Nat.eq_of_beq_eq_true hm
      subst hm1
      simp only [cond_true] at h
      split at h
      · rename_i tr htr
        split at h
        · rename_i k0 n0 f0 hg
          simp only [Option.some.injEq, Prod.mk.injEq, Bool.and_eq_true, decide_eq_true_eq] at h
          obtain ⟨⟨h1, h2⟩, rfl, rfl, rfl, rfl⟩ := h
          obtain ⟨b, sz, hr, hs⟩ := hx
          obtain ⟨p, hp, cs, ty, fr, g1, g2, g3, g4, g5⟩ := hsim.blk id tr (ht _ (tb_self id)) htr
          rw [hr] at hp
          cases hp
          obtain ⟨h6, h7⟩ := get_sound g4 hg h1
          simp only [List.length_take, Array.length_toList] at h7
          rw [cut_take (by omega)] at h6
          obtain ⟨e6, h6⟩ := h6
          have hT : T.size (.ints k0 n0 f0) = n0 := rfl
          rw [hT] at h6 h7
          have cell : ∀ j, j < len → cs[poff path + lo + j]? = some (.int k0 (f0 (lo + j))) := fun j hj => by
            have := h6 (lo + j) (by omega)
            rw [cut_getElem (by omega)] at this
            rw [← Nat.add_assoc] at this
            simpa using this
          have key : ∀ (w1 : World), w1.heap = w.heap → ∀ (c : Nat), (Builtin.firstCells 1 len (.slice (some ⟨b, poff path + lo, none⟩) len c)).run P w1 = .ok (cellsI k0 len fun j => f0 (lo + j)).toArray w1 := fun w1 hw c => by
            refine run_firstCells_some (P := P) w1 1 len _ len c _ (by rw [cellsI_len, Nat.mul_one]) fun j v hj => ?_
            have hlt : j < len := by
              have := (List.getElem?_eq_some_iff.1 hj).1
              rwa [cellsI_len] at this
            rw [cellsI_get k0 len _ hlt] at hj
            cases hj
            rw [add_zero', cell_blk (w := w1) (by rw [hw]; exact g1)]
            exact cell j hlt
          cases cap with
          | some c =>
            simp only [SliceRel, Nat.mul_one] at hs
            subst hs
            exact ⟨rfl, key w rfl c, key w.drew rfl c⟩
          | none =>
            obtain ⟨rfl, _, (⟨c, rfl, _, _⟩ | ⟨h0, a, rfl, ha⟩)⟩ := hs
            · have := key
              simp only [poff, Nat.zero_add] at this
              simp only [Nat.mul_one]
              exact ⟨rfl, this w rfl c, this w.drew rfl c⟩
            · subst h0
              refine ⟨rfl, ?_, ?_⟩ <;> cases a <;> simp [Builtin.firstCells, cellsI, loadCells, loadCellsFrom]
        · cases h
      · cases h
  · rename_i s
    cases h
    obtain rfl : x' = _ := hx
    have e : ((s.extract 0 s.size).data.map fun b => (Value.int .u8 b.toNat : Value)) = (cellsI .u8 s.size fun j => ((s.data.toList.getD j 0).toNat : Nat)).toArray := by
      apply Array.ext'
      apply List.ext_getElem?
      intro j
      by_cases hj : j < s.size
      · have hl : j < s.data.toList.length := by simpa using hj
        have hl' : j < s.data.size := by simpa using hj
        rw [show ((cellsI .u8 s.size fun j => ((s.data.toList.getD j 0).toNat : Nat)).toArray).toList = cellsI .u8 s.size fun j => ((s.data.toList.getD j 0).toNat : Nat) from rfl, cellsI_get _ _ _ hj]
        have e2 : s.extract 0 s.size = s := by simp
        rw [e2]
        simp [List.getD_eq_getElem?_getD, Array.getElem?_eq_getElem hl']
      · have hl : ¬ j < s.data.size := by simpa using hj
        rw [List.getElem?_eq_none, List.getElem?_eq_none]
        · simp [cellsI]; omega
        · have e2 : s.extract 0 s.size = s := by simp
          rw [e2]
          simp; omega
    exact ⟨rfl, by simp only [Builtin.firstCells, Sem.run_pure]; rw [e], by simp only [Builtin.firstCells, Sem.run_pure]; rw [e]⟩
  · cases h

/-! ### append -/

def catF (n : Nat) (f g : Nat → Int) : Nat → Int := fun j => bif Nat.blt j n then f j else g (j - n)
theorem cellsI_cat (k : IntKind) (n m : Nat) (f g : Nat → Int) : cellsI k (n + m) (catF n f g) = cellsI k n f ++ cellsI k m g := by
  apply List.ext_getElem?
  intro j
  by_cases h1 : j < n
  · rw [cellsI_get _ _ _ (by omega), List.getElem?_append_left (by rw [cellsI_len]; exact h1), cellsI_get _ _ _ h1]
    have : Nat.blt j n = true := Nat.ble_eq_true_of_le h1
    unfold catF
    rw [this]; rfl
  · have hb : Nat.blt j n = false := by
      cases hb : Nat.blt j n
      · rfl
      · exact absurd (Nat.le_of_ble_eq_true hb) h1
    by_cases h2 : j < n + m
    · rw [cellsI_get _ _ _ h2, List.getElem?_append_right (by rw [cellsI_len]; omega), cellsI_len, cellsI_get _ _ _ (by omega)]
      unfold catF
      rw [hb]; rfl
    · rw [List.getElem?_eq_none (by rw [cellsI_len]; omega), List.getElem?_eq_none (by rw [List.length_append, cellsI_len, cellsI_len]; omega)]

/-- Is the second argument a slice or a string? -/
def isRow (P : Program) (u : TypeId) : Bool :=
  match P.underlying u with
  | some (.slice _) => true
  | some .string => true
  | _ => false

theorem app_grow {t u e : TypeId} {i : TypeInfo} {z : Value} {ty : TypeId} {base : Option Addr} {n c m : Nat} {x' : Value} {olds news : List Value} {w : World} (he : elemO P t = some (e, i, z)) (hu : isRow P u = true) (hs : i.size = 1)
    (hold : (Builtin.firstCells 1 n (.slice base n c)).run P w.drew = .ok olds.toArray w.drew) (hx : Holds P x' m news w) (hg : c < n + m) (hb : (n + m) * i.bytes ≤ 140737488355328) (h63 : n + m ≤ 9223372036854775807) :
    (Builtin.append_ #[t, u] ty #[.slice base n c, x']).run P w =
      .ok (.slice (some ⟨w.heap.size, 0, none⟩) (n + m) (grownCap w (n + m) c e)) (w.drew.alloc (.cells (olds.toArray ++ news.toArray ++ Builtin.zeroCells z.cells (grownCap w (n + m) c e - (n + m))) e)) := by
  obtain ⟨h1, h2, h3⟩ := elemO_spec he
  obtain ⟨x1, x2, x3⟩ := hx
  have hn : ¬ (n + m ≤ c) := by omega
  have h63' : ¬ (9223372036854775807 < ((n : Int) + (m : Int))) := by omega
  have h48' : ¬ (281474976710656 < Builtin.nextslicecap (n + m) c * i.bytes) := by
    have := growslice_fits hg hb
    omega
  unfold isRow at hu
  split at hu
  · rename_i e2 hu2
    simp [Builtin.append_, run_underlying h1, run_underlying hu2, sizeOf, typeInfo, zeroValue, h2, h3, hs, x1, hn, h63', h48', Question.forced, hold, x3, newRow, grownCap]
    congr 2
    apply Array.ext'
    simp [List.append_assoc]
  · rename_i hu2
    simp [Builtin.append_, run_underlying h1, run_underlying hu2, sizeOf, typeInfo, zeroValue, h2, h3, hs, x1, hn, h63', h48', Question.forced, hold, x3, newRow, grownCap]
    congr 2
    apply Array.ext'
    simp [List.append_assoc]
  · cases hu

theorem app_room {t u e : TypeId} {i : TypeInfo} {z : Value} {ty : TypeId} {b off : Nat} {n c m : Nat} {x' : Value} {news : List Value} {w : World} (he : elemO P t = some (e, i, z)) (hu : isRow P u = true) (hs : i.size = 1)
    (hx : Holds P x' m news w) (hg : n + m ≤ c) {cs : Array Value} {ty0 : TypeId} {fr : Nat × Nat} (h : w.heap[b]? = some (.cells cs ty0 fr)) (hf : ∀ i, i < cs.size → ¬(fr.1 ≤ i ∧ i < fr.2)) (hb : off + n + news.length ≤ cs.size) (hc : ∀ x ∈ news, isCell x) :
    (Builtin.append_ #[t, u] ty #[.slice (some ⟨b, off, none⟩) n c, x']).run P w = .ok (.slice (some ⟨b, off, none⟩) (n + m) c) (w.setCells b (off + n) news) := by
  obtain ⟨h1, h2, h3⟩ := elemO_spec he
  obtain ⟨x1, x2, x3⟩ := hx
  have hst := run_storeCells_blk (P := P) h hf (off := off + n) (us := news) hb hc
  unfold isRow at hu
  split at hu
  · rename_i e2 hu2
    simp [Builtin.append_, run_underlying h1, run_underlying hu2, sizeOf, typeInfo, h2, hs, x1, hg, x2, add_zero', hst]
  · rename_i hu2
    simp [Builtin.append_, run_underlying h1, run_underlying hu2, sizeOf, typeInfo, h2, hs, x1, hg, x2, add_zero', hst]
  · cases hu

/-- A block that is made, or taken over from one that is forgotten. -/
theorem Post.consume {ρ : Rho} {G : Heap} {w w1 : World} {vc : Bool} {v z tr : T} {v' : Value} {id t : Nat} {b sz : Nat} {p : Nat × Nat} (hid : hget G id = some tr) (hr : ρ id = some (b, sz)) (hf : ρ G.length = none) (hp : p.1 = b ∨ w.heap.size ≤ p.1)
    (hblk : Blk ρ z p w1) (hfr : ∀ b', b' < w.heap.size → b' ≠ b → w1.heap[b']? = w.heap[b']?) (hs : w.heap.size ≤ w1.heap.size) (ho : w1.os = w.os) (ht : w1.tape = w.tape) (hu : w1.output = w.output)
    (hv : ∀ ρ' : Rho, ρ.Ext ρ' → ρ' G.length = some p → (R ρ' v).v v') : ∃ ρ', Post ρ ρ' G w ⟨vc, v, hset G id none ++ [some z], t, 2 ^ id⟩ v' w1 := by
  let ρ' : Rho := fun k => if k = G.length then some p else ρ k
  have hext : ρ.Ext ρ' := fun k q hk => by
    by_cases e : k = G.length
    · rw [e, hf] at hk; cases hk
    · simp [ρ', e, hk]
  have hnew : ρ' G.length = some p := by simp [ρ']
  have hlen : (hset G id none).length = G.length := hset_len _ _ _
  have hidl := hget_lt hid
  have hlt : ∀ k t, G.length ≤ k → hget (hset G id none ++ [some z]) k = some t → k = G.length ∧ t = z := fun k t hk hg => by
    have h1 := hget_lt hg
    simp only [List.length_append, List.length_singleton, hlen] at h1
    have : k = G.length := by omega
    subst this
    have e := hget_append_new (hset G id none) z
    rw [hlen] at e
    rw [e] at hg
    cases hg
    exact ⟨rfl, rfl⟩
  have hnone : hget (hset G id none ++ [some z]) id = none := by
    rw [hget_append_left (by rw [hlen]; exact hidl), hget_hset_same _ hidl]
  refine ⟨ρ', ?_⟩
  exact {
    ext := hext
    dom := fun k hk => by
      simp only [List.length_append, List.length_singleton, hlen] at hk
      have : k ≠ G.length := by omega
      simp [ρ', this]
    val := hv ρ' hext hnew
    sim := fun k t hk hg => by
      rcases hk with hk | hk
      · obtain ⟨rfl, rfl⟩ := hlt k t hk hg
        exact ⟨_, hnew, hblk.mono hext⟩
      · have := tb_eq hk
        subst this
        rw [hnone] at hg
        cases hg
    new := fun k t q hk hg hq => by
      obtain ⟨rfl, rfl⟩ := hlt k t hk hg
      rw [hnew] at hq
      cases hq
      rcases hp with hp | hp
      · exact .inr ⟨id, (b, sz), hidl, tb_self id, hnone, hr, hp.symm⟩
      · exact .inl hp
    inj := fun k k' t t' q q' hk hk' hg hg' _ _ _ => by
      rw [(hlt k t hk hg).1, (hlt k' t' hk' hg').1]
    frame := fun b' hb hne => hfr b' hb (fun e => hne id (b, sz) hidl (tb_self id) hr e.symm)
    size := hs
    os := ho
    tape := ht
    output := hu }

def sizeB (i : TypeInfo) (n : Nat) : Bool := Nat.ble (n * i.bytes) 140737488355328 && Nat.ble n 9223372036854775807
theorem sizeB_spec {i : TypeInfo} {n : Nat} (h : sizeB i n = true) : n * i.bytes ≤ 140737488355328 ∧ n ≤ 9223372036854775807 := by
  unfold sizeB at h
  simp only [Bool.and_eq_true] at h
  exact ⟨Nat.le_of_ble_eq_true h.1, Nat.le_of_ble_eq_true h.2⟩

def isSliceT : T → Bool
  | .nilslice => true
  | .slice _ _ _ _ n (some c) => Nat.ble n c
  | .slice _ _ _ _ _ none => true
  | _ => false
def isNilT : T → Bool
  | .nilslice => true
  | _ => false

def evAppend (P : Program) (G : Heap) (t u : TypeId) (s x : T) : Option Res :=
  match elemO P t with
  | none => none
  | some (_, i, z) => bif !(isRow P u && Nat.beq i.size 1 && Nat.beq z.cells.size 1) then none else
    bif isNilT x && isSliceT s then some ⟨true, s, G, 0, 0⟩ else
    match contI G x with
    | none => none
    | some (vc, k, m, g, tm) => match s with
      | .nilslice => bif Nat.beq m 0 then some ⟨vc, .nilslice, G, tm, 0⟩ else some ⟨vc && sizeB i m, .slice G.length [] 0 1 m none, G ++ [some (.ints k m g)], tm, 0⟩
      | .slice id path lo q n (some c) => bif Nat.ble (n + m) c then (bif Nat.beq m 0 then some ⟨vc, .slice id path lo q n (some c), G, tm, 0⟩ else none) else
        match contI G (.slice id path lo q n (some c)) with
        | some (vc', k', n', f, tm') => bif decide (k = k') && Nat.beq n n' then some ⟨(vc && vc') && sizeB i (n + m), .slice G.length [] 0 1 (n + m) none, G ++ [some (.ints k (n + m) (catF n f g))], tm ||| tm', 0⟩ else none
        | none => none
      | .slice id [] 0 q n none => match hget G id with
        | some (.ints k' n0 f) => bif decide (k = k') && Nat.beq q 1 then some ⟨vc && (decide (n ≤ n0) && sizeB i (n + m)), .slice G.length [] 0 1 (n + m) none, hset G id none ++ [some (.ints k (n + m) (catF n f g))], tm ||| 2 ^ id, 2 ^ id⟩ else none
        | _ => none
      | _ => none

theorem R_slice_shape {ρ : Rho} {s : T} {s' : Value} (h : isSliceT s = true) (hs : (R ρ s).v s') : ∃ a n c, s' = .slice a n c ∧ n ≤ c := by
  unfold isSliceT at h
  split at h
  · obtain rfl : s' = _ := hs
    exact ⟨none, 0, 0, rfl, Nat.le_refl _⟩
  · obtain ⟨b, sz, _, hq⟩ := hs
    simp only [SliceRel] at hq
    exact ⟨_, _, _, hq, Nat.le_of_ble_eq_true h⟩
  · obtain ⟨b, sz, _, hq⟩ := hs
    obtain ⟨_, _, (⟨c, hq, _, hl⟩ | ⟨h0, a, hq, _⟩)⟩ := hq
    · exact ⟨_, _, _, hq, hl⟩
    · exact ⟨_, _, _, hq, Nat.le_refl _⟩
  · cases h

theorem app_none {t u e : TypeId} {i : TypeInfo} {z : Value} {ty : TypeId} {a : Option Addr} {n c : Nat} {x' : Value} {w : World} (he : elemO P t = some (e, i, z)) (hu : isRow P u = true) (hs : i.size = 1) (hx : Holds P x' 0 [] w) (hg : n ≤ c) :
    (Builtin.append_ #[t, u] ty #[.slice a n c, x']).run P w = .ok (.slice a n c) w := by
  obtain ⟨h1, h2, h3⟩ := elemO_spec he
  obtain ⟨x1, x2, x3⟩ := hx
  unfold isRow at hu
  split at hu
  · rename_i e2 hu2
    cases a <;> simp [Builtin.append_, run_underlying h1, run_underlying hu2, sizeOf, typeInfo, h2, hs, x1, hg, x2, storeCells]
  · rename_i hu2
    cases a <;> simp [Builtin.append_, run_underlying h1, run_underlying hu2, sizeOf, typeInfo, h2, hs, x1, hg, x2, storeCells]
  · cases hu

theorem size_grown {z : Value} {news : List Value} {n c : Nat} (hz : z.cells.size = 1) (hl : news.length = n) (hc : n ≤ c) : (news.toArray ++ Builtin.zeroCells z.cells (c - n)).size = c := by
  rw [Array.size_append, size_zeroCells, hz, List.size_toArray, hl]
  omega

theorem size_grown2 {z : Value} {a b : List Value} {n m c : Nat} (hz : z.cells.size = 1) (ha : a.length = n) (hb : b.length = m) (hc : n + m ≤ c) : (a.toArray ++ b.toArray ++ Builtin.zeroCells z.cells (c - (n + m))).size = c := by
  rw [Array.size_append, Array.size_append, size_zeroCells, hz, List.size_toArray, List.size_toArray, ha, hb]
  omega

theorem evAppend_sound {G : Heap} {t u : TypeId} {s x : T} {r : Res} {ρ : Rho} {s' x' : Value} {w : World} {ty : TypeId} (h : evAppend P G t u s x = some r) (hvc : r.vc = true) (hs : (R ρ s).v s') (hx : (R ρ x).v x') (hsim : Sim (bitK r.t) ρ G w) (hf : fresh ρ G.length r.G.length) :
    ∃ v' w', (Builtin.append_ #[t, u] ty #[s', x']).run P w = .ok v' w' ∧ ∃ ρ', Post ρ ρ' G w r v' w' := by
  unfold evAppend at h
  split at h
  · cases h
  · rename_i e i z he
    cases hk : (isRow P u && Nat.beq i.size 1 && Nat.beq z.cells.size 1) with
    | false => rw [hk] at h; cases h
    | true =>
      rw [hk] at h
      simp only [Bool.not_true, cond_false] at h
      simp only [Bool.and_eq_true] at hk
      obtain ⟨⟨hu, hs1⟩, hz1⟩ := hk
      have hs1 := Nat.eq_of_beq_eq_true hs1
      have hz1 := Nat.eq_of_beq_eq_true hz1
      cases hn : (isNilT x && isSliceT s) with
      | true =>
        rw [hn] at h
        cases h
        simp only [Bool.and_eq_true] at hn
        have hxn : x' = .slice none 0 0 := by
          cases x <;> simp [isNilT] at hn
          exact hx
        obtain ⟨a, n, c, rfl, hnc⟩ := R_slice_shape hn.2 hs
        have hh : Holds P x' 0 [] w := by
          subst hxn
          exact ⟨rfl, by simp [Builtin.firstCells], by simp [Builtin.firstCells]⟩
        exact ⟨_, _, app_none he hu hs1 hh hnc, ρ, Post.pure hs 0⟩
      | false =>
        rw [hn] at h
        simp only [cond_false] at h
        split at h
        · cases h
        · rename_i vc k m g tm hc
          have newBlk : ∀ {vc0 : Bool} {n c t0 : Nat} {F : Nat → Int}, (n + m) * i.bytes ≤ 140737488355328 → ρ G.length = none → n + m ≤ c → ∀ {cs : Array Value}, cs.size = c → cs.toList.take (n + m) = cellsI k (n + m) F →
              ∃ ρ', Post ρ ρ' G w ⟨vc0, .slice G.length [] 0 1 (n + m) none, G ++ [some (.ints k (n + m) F)], t0, 0⟩ (.slice (some ⟨w.heap.size, 0, none⟩) (n + m) c) (w.drew.alloc (.cells cs e)) := by
            intro vc0 n c t0 F _ hfr hle cs hsz htk
            refine Exists.imp (fun _ h => h.anyVc) (Post.alloc (w := w) (z := .ints k (n + m) F) (v := .slice G.length [] 0 1 (n + m) none) (cs := cs) (ty := e) (w.drew.alloc (.cells cs e)) rfl rfl rfl rfl hfr ?_ ?_ ?_)
            · show n + m ≤ cs.size
              omega
            · show (R ρ (.ints k (n + m) F)).c (cs.toList.take (n + m))
              rw [htk]
              exact cellsI_R _ _ _
            · intro ρ' _ hn'
              exact ⟨_, _, hn', rfl, by decide, .inl ⟨c, by simp, by omega, hle⟩⟩
          split at h
          · -- nil
            obtain rfl : s' = _ := hs
            cases hm : Nat.beq m 0 with
            | true =>
              rw [hm] at h
              cases h
              have hm0 := Nat.eq_of_beq_eq_true hm
              have hh := contI_sound (P := P) hc hvc hx (fun _ h => h) hsim
              subst hm0
              have hv : (R ρ .nilslice).v (.slice none 0 0) := rfl
              exact ⟨_, _, app_none he hu hs1 hh (Nat.le_refl _), ρ, Post.anyVc (Post.pure (vc := true) hv 0)⟩
            | false =>
              rw [hm] at h
              cases h
              simp only [Bool.and_eq_true] at hvc
              obtain ⟨hv1, hv2⟩ := hvc
              obtain ⟨hb1, hb2⟩ := sizeB_spec hv2
              have hm0 : m ≠ 0 := fun e => by subst e; cases hm
              have hh := contI_sound (P := P) hc hv1 hx (fun _ h => h) hsim
              have hr := app_grow (P := P) (ty := ty) (base := none) (n := 0) (c := 0) (olds := []) he hu hs1 (by simp [Builtin.firstCells]) hh (by omega) (by rw [Nat.zero_add]; exact hb1) (by omega)
              have hge := grownCap_ge w (0 + m) 0 e
              have hfr : ρ G.length = none := hf G.length (Nat.le_refl _) (by simp)
              have hp := newBlk (vc0 := vc && sizeB i m) (t0 := tm) (n := 0) (F := g) (c := grownCap w (0 + m) 0 e) (by rw [Nat.zero_add]; exact hb1) hfr hge
                (cs := #[] ++ (cellsI k m g).toArray ++ Builtin.zeroCells z.cells (grownCap w (0 + m) 0 e - (0 + m))) (by
                  simp only [Array.empty_append]
                  exact size_grown hz1 (by rw [cellsI_len]; omega) hge) (by
                  simp only [Nat.zero_add, Array.empty_append, Array.toList_append]
                  rw [List.take_append_of_le_length (by rw [cellsI_len]; exact Nat.le_refl _), List.take_of_length_le (by rw [cellsI_len]; exact Nat.le_refl _)])
              simp only [Nat.zero_add] at hp hr
              exact ⟨_, _, hr, hp⟩
          · -- a slice whose room is known
            rename_i id path lo q n c
            cases hle : Nat.ble (n + m) c with
            | true =>
              rw [hle] at h
              cases hm : Nat.beq m 0 with
              | false => rw [hm] at h; cases h
              | true =>
                rw [hm] at h
                cases h
                have hm0 := Nat.eq_of_beq_eq_true hm
                subst hm0
                have hh := contI_sound (P := P) hc hvc hx (fun _ h => h) hsim
                have hs' := hs
                obtain ⟨b, sz, hrb, hq⟩ := hs
                simp only [SliceRel] at hq
                subst hq
                exact ⟨_, _, app_none he hu hs1 hh (Nat.le_of_ble_eq_true hle), ρ, Post.anyVc (Post.pure (vc := true) hs' 0)⟩
            | false =>
              rw [hle] at h
              simp only [cond_false] at h
              have hgt : c < n + m := by
                rcases Nat.lt_or_ge c (n + m) with h | h
                · exact h
                · rw [Nat.ble_eq_true_of_le h] at hle; cases hle
              split at h
              · rename_i vc' k' n' f tm' hc'
                cases hk : (decide (k = k') && Nat.beq n n') with
                | false => rw [hk] at h; cases h
                | true =>
                  rw [hk] at h
                  simp only [Bool.and_eq_true, decide_eq_true_eq] at hk
                  obtain ⟨rfl, hnn⟩ := hk
                  have hnn := Nat.eq_of_beq_eq_true hnn
                  subst hnn
                  cases h
                  simp only [Bool.and_eq_true] at hvc
                  obtain ⟨⟨hv1, hv2⟩, hv3⟩ := hvc
                  obtain ⟨hb1, hb2⟩ := sizeB_spec hv3
                  have hh := contI_sound (P := P) hc hv1 hx (fun i h => by rw [Nat.testBit_or, h]; rfl) hsim
                  have hh' := contI_sound (P := P) hc' hv2 hs (fun i h => by rw [Nat.testBit_or, h, Bool.or_true]) hsim
                  obtain ⟨b, sz, hrb, hq⟩ := hs
                  simp only [SliceRel] at hq
                  subst hq
                  have hr := app_grow (P := P) (ty := ty) he hu hs1 hh'.2.2 hh hgt hb1 hb2
                  have hge := grownCap_ge w (n + m) c e
                  have hfr : ρ G.length = none := hf G.length (Nat.le_refl _) (by simp)
                  have hp := newBlk (vc0 := (vc && vc') && sizeB i (n + m)) (t0 := tm ||| tm') (n := n) (F := catF n f g) (c := grownCap w (n + m) c e) hb1 hfr hge
                    (cs := (cellsI k n f).toArray ++ (cellsI k m g).toArray ++ Builtin.zeroCells z.cells (grownCap w (n + m) c e - (n + m))) (size_grown2 hz1 (cellsI_len _ _ _) (cellsI_len _ _ _) hge) (by
                      simp only [Array.toList_append]
                      rw [← cellsI_cat]
                      rw [List.take_append_of_le_length (by rw [cellsI_len]; exact Nat.le_refl _), List.take_of_length_le (by rw [cellsI_len]; exact Nat.le_refl _)])
                  exact ⟨_, _, hr, hp⟩
              · cases h
          · -- a slice that is taken over
            rename_i id q n
            split at h
            · rename_i k' n0 f hid
              cases hk : (decide (k = k') && Nat.beq q 1) with
              | false => rw [hk] at h; cases h
              | true =>
                rw [hk] at h
                simp only [Bool.and_eq_true, decide_eq_true_eq] at hk
                obtain ⟨rfl, hq1⟩ := hk
                have hq1 := Nat.eq_of_beq_eq_true hq1
                subst hq1
                cases h
                simp only [Bool.and_eq_true, decide_eq_true_eq] at hvc
                obtain ⟨hv1, hv2, hv3⟩ := hvc
                obtain ⟨hb1, hb2⟩ := sizeB_spec hv3
                have hh := contI_sound (P := P) hc hv1 hx (fun i h => by rw [Nat.testBit_or, h]; rfl) hsim
                have hfr : ρ G.length = none := hf G.length (Nat.le_refl _) (by simp [hset_len])
                obtain ⟨b, sz, hrb, _, _, hq⟩ := hs
                obtain ⟨p, hp, cs, ty0, fr, g1, g2, g3, g4, g5⟩ := hsim.blk id _ (by rw [bitK, Nat.testBit_or]; simp [Nat.testBit_two_pow]) hid
                rw [hrb] at hp
                cases hp
                have hT : T.size (.ints k n0 f) = n0 := rfl
                rw [hT] at g3 g4
                have hpre : cs.toList.take n = cellsI k n f := by
                  obtain ⟨e4, g4⟩ := g4
                  apply List.ext_getElem?
                  intro j
                  by_cases hj : j < n
                  · rw [cellsI_get _ _ _ hj, List.getElem?_take_of_lt hj]
                    have := g4 j (by omega)
                    rwa [List.getElem?_take_of_lt (by omega)] at this
                  · rw [List.getElem?_eq_none (by simp; omega), List.getElem?_eq_none (by rw [cellsI_len]; omega)]
                have oldHold : ∀ c, (Builtin.firstCells 1 n (.slice (some ⟨b, 0, none⟩) n c)).run P w.drew = .ok (cellsI k n f).toArray w.drew := fun c => by
                  refine run_firstCells_some (P := P) w.drew 1 n _ n c _ (by rw [cellsI_len, Nat.mul_one]) fun j v hj => ?_
                  have hlt : j < n := by
                    have := (List.getElem?_eq_some_iff.1 hj).1
                    rwa [cellsI_len] at this
                  rw [add_zero', Nat.zero_add, cell_blk (w := w.drew) (by exact g1)]
                  rw [← hpre, List.getElem?_take_of_lt hlt] at hj
                  simpa using hj
                have grow : ∀ c, c < n + m → ∀ base, (Builtin.firstCells 1 n (.slice base n c)).run P w.drew = .ok (cellsI k n f).toArray w.drew →
                    ∃ v' w', (Builtin.append_ #[t, u] ty #[.slice base n c, x']).run P w = .ok v' w' ∧ ∃ ρ', Post ρ ρ' G w ⟨vc && (decide (n ≤ n0) && sizeB i (n + m)), .slice G.length [] 0 1 (n + m) none, hset G id none ++ [some (.ints k (n + m) (catF n f g))], tm ||| 2 ^ id, 2 ^ id⟩ v' w' := by
                  intro c hgt base hold
                  have hr := app_grow (P := P) (ty := ty) he hu hs1 hold hh hgt hb1 hb2
                  have hge := grownCap_ge w (n + m) c e
                  refine ⟨_, _, hr, ?_⟩
                  have hsz : ((cellsI k n f).toArray ++ (cellsI k m g).toArray ++ Builtin.zeroCells z.cells (grownCap w (n + m) c e - (n + m))).size = grownCap w (n + m) c e := size_grown2 hz1 (cellsI_len _ _ _) (cellsI_len _ _ _) hge
                  refine Post.consume (p := (w.heap.size, grownCap w (n + m) c e)) hid hrb hfr (.inr (Nat.le_refl _)) ⟨_, e, (0, 0), heap_alloc_new w.drew _, hsz, ?_, ?_, ?_⟩ (fun b' hb' _ => heap_alloc_old w.drew _ b' hb') (by simp) rfl rfl rfl ?_
                  · show n + m ≤ _
                    rw [hsz]; exact hge
                  · show (R ρ (.ints k (n + m) (catF n f g))).c (List.take (n + m) _)
                    simp only [Array.toList_append]
                    rw [← cellsI_cat, List.take_append_of_le_length (by rw [cellsI_len]; exact Nat.le_refl _), List.take_of_length_le (by rw [cellsI_len]; exact Nat.le_refl _)]
                    exact cellsI_R _ _ _
                  · intro i' _
                    simp
                  · intro ρ' _ hn'
                    exact ⟨_, _, hn', rfl, by decide, .inl ⟨grownCap w (n + m) c e, by simp, by omega, hge⟩⟩
                rcases hq with ⟨c, rfl, hsz, hnc⟩ | ⟨h0, a, rfl, ha⟩
                · simp only [Nat.zero_mul]
                  rcases Nat.lt_or_ge c (n + m) with hgt | hge
                  · exact grow c hgt _ (oldHold c)
                  · have hcs : cs.size = c := by simp only at g2; omega
                    have hcell : ∀ x ∈ cellsI k m g, isCell x := R_cells (cellsI_R (ρ := ρ) k m g)
                    have hr := app_room (P := P) (ty := ty) (off := 0) he hu hs1 hh hge g1 g5 (by rw [cellsI_len]; omega) hcell
                    obtain ⟨a1, a2, a3, a4, a5, a6⟩ := heap_setCells b (cellsI k m g) (0 + n) w cs ty0 fr g1 (by rw [cellsI_len]; omega)
                    refine ⟨_, _, hr, ?_⟩
                    have hsp : (splice cs.toList (0 + n) (cellsI k m g)).length = cs.size := by
                      rw [splice_len (by rw [cellsI_len, Array.length_toList]; omega), Array.length_toList]
                    refine Post.consume (p := (b, sz)) hid hrb hfr (.inl rfl) ⟨_, ty0, fr, a1, ?_, ?_, ?_, ?_⟩ (fun b' _ hne => a2 b' hne) (by rw [a3]; exact Nat.le_refl _) a4 a5 a6 ?_
                    · rw [List.size_toArray, hsp]; exact g2
                    · rw [List.size_toArray, hsp]
                      show n + m ≤ cs.size
                      omega
                    · show (R ρ (.ints k (n + m) (catF n f g))).c (List.take (n + m) (splice cs.toList (0 + n) (cellsI k m g)))
                      have : List.take (n + m) (splice cs.toList (0 + n) (cellsI k m g)) = cellsI k (n + m) (catF n f g) := by
                        rw [cellsI_cat, Nat.zero_add]
                        simp only [splice]
                        rw [hpre, List.append_assoc, ← List.append_assoc, List.take_append_of_le_length (by rw [List.length_append, cellsI_len, cellsI_len]; exact Nat.le_refl _), List.take_of_length_le (by rw [List.length_append, cellsI_len, cellsI_len]; exact Nat.le_refl _)]
                      rw [this]
                      exact cellsI_R _ _ _
                    · intro i' hi'
                      rw [List.size_toArray, hsp] at hi'
                      exact g5 i' hi'
                    · intro ρ' hext hn'
                      exact ⟨_, _, hn', rfl, by decide, .inl ⟨c, by simp, hsz, hge⟩⟩
                · subst h0
                  have hf0 : (Builtin.firstCells 1 0 (.slice a 0 0)).run P w.drew = .ok (cellsI k 0 f).toArray w.drew := by
                    cases a <;> simp [Builtin.firstCells, cellsI, loadCells, loadCellsFrom]
                  rcases Nat.eq_zero_or_pos m with hm0 | hm0
                  · subst hm0
                    refine ⟨_, _, app_none he hu hs1 hh (Nat.le_refl _), ?_⟩
                    refine Post.consume (p := (b, sz)) hid hrb hfr (.inl rfl) ⟨cs, ty0, fr, g1, g2, Nat.zero_le _, ?_, g5⟩ (fun _ _ _ => rfl) (Nat.le_refl _) rfl rfl rfl ?_
                    · show (R ρ (.ints k 0 _)).c (List.take 0 _)
                      exact ⟨rfl, fun j hj => absurd hj (by omega)⟩
                    · intro ρ' hext hn'
                      exact ⟨_, _, hn', rfl, by decide, .inr ⟨rfl, a, rfl, ha⟩⟩
                  · exact grow 0 (by omega) a hf0
            · cases h
          · cases h

/-! ### Literals of slices -/

def evBuildSlice (P : Program) (G : Heap) (t : TypeId) (n : Nat) (parts : List (Nat × T)) : Option Res :=
  match elemO P t with
  | some (_, i, .int k 0) => bif Nat.beq i.size 1 && Nat.ble n 16777216 then
      match fillT (fun j => some (.idx j 1, 1)) (.ints k n fun _ => 0) parts with
      | some (vc, .ints k' n' f) => bif Nat.beq n' n then some ⟨vc, .slice G.length [] 0 1 n (some n), G ++ [some (.ints k' n' f)], 0, 0⟩ else none
      | _ => none
    else none
  | _ => none

theorem evBuildSlice_sound {G : Heap} {t : TypeId} {n : Nat} {parts : List (Nat × T)} {parts' : Array (Nat × Value)} {r : Res} {ρ : Rho} {w : World} (h : evBuildSlice P G t n parts = some r) (hvc : r.vc = true)
    (hr : ∀ (j i : Nat) (x : T), parts[j]? = some (i, x) → ∃ x', parts'.toList[j]? = some (i, x') ∧ (R ρ x).v x') (hl : parts'.toList.length = parts.length) (hf : fresh ρ G.length r.G.length) :
    ∃ v' w', (Instr.buildSlice t n parts').run P w = .ok v' w' ∧ ∃ ρ', Post ρ ρ' G w r v' w' := by
  unfold evBuildSlice at h
  split at h
  · rename_i e i k he
    obtain ⟨hu, hi, hz⟩ := elemO_spec he
    cases hs : (Nat.beq i.size 1 && Nat.ble n 16777216) with
    | false => rw [hs] at h; cases h
    | true =>
      rw [hs] at h
      simp only [Bool.and_eq_true] at hs
      have hs1 := Nat.eq_of_beq_eq_true hs.1
      have hn := Nat.le_of_ble_eq_true hs.2
      simp only [cond_true] at h
      split at h
      · rename_i vc k' n' f hfill
        cases hnn : Nat.beq n' n with
        | false => rw [hnn] at h; cases h
        | true =>
          rw [hnn] at h
          have := Nat.eq_of_beq_eq_true hnn
          subst this
          cases h
          have h0 : (R ρ (.ints k n' fun _ => 0)).c (cellsI k n' fun _ => 0) := cellsI_R _ _ _
          obtain ⟨cells', g1, g2, g3⟩ := fillT_sound (ρ := ρ) (place := fun j => some (.idx j 1, 1)) (place' := fun j => some (j * 1, 1)) (fun j s m hp => by cases hp; rfl) parts parts'.toList (.ints k n' fun _ => 0) (.ints k' n' f) (cellsI k n' fun _ => 0).toArray hr hl h0 vc hfill hvc
          have hlen : cells'.size = n' := by
            have := R_size g2
            simpa [T.size] using this
          have hrun : (Instr.buildSlice t n' parts').run P w = .ok (.slice (some ⟨w.heap.size, 0, none⟩) n' n') (w.alloc (.cells cells' e)) := by
            have e1 : (Array.range n').map (fun x => (Value.cells (.int k 0))[x % (Value.cells (.int k 0)).size]!) = (cellsI k n' fun _ => 0).toArray := by
              apply Array.ext'
              simp [cellsI, Value.cells, Nat.mod_one, List.map_const']
            have hlim : ¬ (16777216 < n') := by omega
            by_cases h0 : n' = 0
            · subst h0
              have e2 : (cellsI k 0 fun _ => 0).toArray = #[] := rfl
              rw [e2] at g1
              have e3 : (Array.map (fun _ => (default : Value)) (Array.range 0)) = #[] := by apply Array.ext'; simp
              simp only [Nat.mul_one] at g1
              simp [Instr.buildSlice, run_underlying hu, sizeOf, typeInfo, hi, hs1, newRow]
              rw [e3, g1]
              simp
            · simp [Instr.buildSlice, run_underlying hu, sizeOf, typeInfo, zeroValue, hi, hz, hs1, hlim, h0, newRow, e1]
              simp only [Nat.mul_one] at g1
              rw [g1]
              simp
          refine ⟨_, _, hrun, ?_⟩
          refine Exists.imp (fun _ h => h.anyVc) (Post.alloc (w := w) (z := .ints k' n' f) (v := .slice G.length [] 0 1 n' (some n')) (cs := cells') (ty := e) (w.alloc (.cells cells' e)) rfl rfl rfl rfl (hf G.length (Nat.le_refl _) (by simp)) ?_ ?_ ?_)
          · show n' ≤ cells'.size
            omega
          · have : cells'.toList.take (T.size (.ints k' n' f)) = cells'.toList := List.take_of_length_le (by show _ ≤ n'; simp [hlen])
            rw [this]
            exact g2
          · intro ρ' _ hn'
            exact ⟨_, _, hn', by simp [SliceRel, poff]⟩
      · cases h
  · cases h

/-! ### What stays -/

theorem evMake_stat {G : Heap} {t : TypeId} {l c : T} {r : Res} (h : evMake P G t l c = some r) : Stat G r := by
  unfold evMake at h
  split at h
  · rename_i e i k _ _ _ _ _
    cases hs : Nat.beq i.size 1 <;> rw [hs] at h <;> cases h
    exact ⟨by simp, fun k _ h => by simp at h, fun _ hk _ => hget_append_left hk⟩
  · cases h
theorem evBuildSlice_stat {G : Heap} {t : TypeId} {n : Nat} {parts : List (Nat × T)} {r : Res} (h : evBuildSlice P G t n parts = some r) : Stat G r := by
  unfold evBuildSlice at h
  split at h
  · rename_i i k _
    cases hs : (Nat.beq i.size 1 && Nat.ble n 16777216) <;> rw [hs] at h
    · cases h
    · simp only [cond_true] at h
      split at h
      · rename_i vc k' n' f _
        cases hn : Nat.beq n' n <;> rw [hn] at h <;> cases h
        exact ⟨by simp, fun k _ h => by simp at h, fun _ hk _ => hget_append_left hk⟩
      · cases h
  · cases h
theorem evAppend_stat {G : Heap} {t u : TypeId} {s x : T} {r : Res} (h : evAppend P G t u s x = some r) : Stat G r := by
  unfold evAppend at h
  split at h
  · cases h
  · rename_i e i z _
    cases hk : (isRow P u && Nat.beq i.size 1 && Nat.beq z.cells.size 1) with
    | false => rw [hk] at h; cases h
    | true =>
      rw [hk] at h
      simp only [Bool.not_true, cond_false] at h
      cases hn : (isNilT x && isSliceT s) with
      | true =>
        rw [hn] at h
        cases h
        exact Stat.pure _ _ _ _
      | false =>
        rw [hn] at h
        simp only [cond_false] at h
        split at h
        · cases h
        · rename_i vc k m g tm hc
          split at h
          · cases hm : Nat.beq m 0 <;> rw [hm] at h <;> cases h
            · exact ⟨by simp, fun k _ h => by simp at h, fun _ hk _ => hget_append_left hk⟩
            · exact Stat.pure _ _ _ _
          · rename_i id path lo q n c
            cases hle : Nat.ble (n + m) c <;> rw [hle] at h
            · simp only [cond_false] at h
              split at h
              · rename_i vc' k' n' f tm' _
                cases hk : (decide (k = k') && Nat.beq n n') <;> rw [hk] at h <;> cases h
                exact ⟨by simp, fun k _ h => by simp at h, fun _ hk _ => hget_append_left hk⟩
              · cases h
            · cases hm : Nat.beq m 0 <;> rw [hm] at h <;> cases h
              exact Stat.pure _ _ _ _
          · rename_i id q n
            split at h
            · rename_i k' n0 f hid
              cases hk : (decide (k = k') && Nat.beq q 1) <;> rw [hk] at h <;> cases h
              have hl := hget_lt hid
              refine ⟨by simp [hset_len], fun j hj hb => ?_, fun j hj hb => ?_⟩
              · have := tb_eq hb
                subst this
                exact ⟨by rw [Nat.testBit_or]; simp [Nat.testBit_two_pow], _, hid⟩
              · have hne : j ≠ id := fun e => by
                  subst e
                  simp [Nat.testBit_two_pow] at hb
                show hget (hset G id none ++ _) j = _
                rw [hget_append_left (by rw [hset_len]; exact hj), hget_hset_ne _ hne]
            · cases h
          · cases h

end
end Go.AE

/-! The abstract evaluator: all operations together. No condition. -/
namespace Go.AE
open Go
noncomputable section

def bndI (d : Int) : Option T → Option Int
  | none => some d
  | some (.int _ n) => some n
  | some _ => none

def evSlice (P : Program) (t : TypeId) (x : T) (lo hi : Option T) : Option (Bool × T) :=
  match P.underlying t, x with
  | some (.array n e), .ptr id path => match szO P e, bndI 0 lo, bndI n hi with
    | some m, some l, some h => some (decide (0 ≤ h ∧ h ≤ n) && decide (0 ≤ l ∧ l ≤ h), .slice id path (if l.toNat = n then 0 else l.toNat) m (h.toNat - l.toNat) (some (n - l.toNat)))
    | _, _, _ => none
  | some (.slice e), .slice id path lo0 m len (some c) => match szO P e, bndI 0 lo, bndI len hi with
    | some m', some l, some h => bif Nat.beq m m' then some (decide (0 ≤ h ∧ h ≤ c) && decide (0 ≤ l ∧ l ≤ h), .slice id path (if l.toNat = c then lo0 else lo0 + l.toNat) m (h.toNat - l.toNat) (some (c - l.toNat))) else none
    | _, _, _ => none
  | some (.slice e), .slice id path lo0 m len none => match szO P e, bndI 0 lo, bndI len hi with
    | some m', some l, some h => bif Nat.beq m m' then some (decide (0 ≤ h ∧ h ≤ len) && decide (0 ≤ l ∧ l ≤ h), .slice id path (lo0 + l.toNat) m (h.toNat - l.toNat) none) else none
    | _, _, _ => none
  | some (.slice e), .nilslice => match szO P e, bndI 0 lo, bndI 0 hi with
    | some _, some l, some h => some (decide (h = 0) && decide (l = 0), .nilslice)
    | _, _, _ => none
  | some .string, .str s => match bndI 0 lo, bndI s.size hi with
    | some l, some h => some (decide (0 ≤ h ∧ h ≤ s.size) && decide (0 ≤ l ∧ l ≤ h), .str (s.extract l.toNat h.toNat))
    | _, _ => none
  | _, _ => none

def OptR (ρ : Rho) : Option T → Option Value → Prop
  | none, x => x = none
  | some t, x => ∃ v, x = some v ∧ (R ρ t).v v

theorem bnd_run {P : Program} {ρ : Rho} {d : Int} {lo : Option T} {l : Int} {lo' : Option Value} (h : bndI d lo = some l) (hr : OptR ρ lo lo') (hd : 0 ≤ d) (y : Nat) (code : BoundsCode) (h0 : 0 ≤ l) (h1 : l ≤ y) (w : World) :
    (match lo' with | some v => Instr.sliceBound v y code | none => (pure d.toNat : Sem Nat)).run P w = .ok l.toNat w := by
  cases lo with
  | none =>
    obtain rfl : lo' = none := hr
    cases h
    rfl
  | some t =>
    obtain ⟨v, rfl, hv⟩ := hr
    cases t <;> simp [bndI] at h
    obtain rfl : v = _ := hv
    subst h
    simp [Instr.sliceBound, asIntOf, h0, h1]

theorem bounds_run {P : Program} {ρ : Rho} {lo hi : Option T} {l h : Int} {lo' hi' : Option Value} {isS : Bool} {len cap : Nat} (hl : bndI 0 lo = some l) (hh : bndI len hi = some h) (hlo : OptR ρ lo lo') (hhi : OptR ρ hi hi')
    (h1 : 0 ≤ h ∧ h ≤ cap) (h2 : 0 ≤ l ∧ l ≤ h) (w : World) : (Instr.sliceBounds isS len cap lo' hi' none).run P w = .ok (l.toNat, h.toNat, cap) w := by
  have r1 := bnd_run (P := P) hh hhi (by omega) cap (if isS then .sliceAcap else .sliceAlen) h1.1 h1.2 w
  have r2 := bnd_run (P := P) hl hlo (by omega) h.toNat (if (none : Option Value).isSome then .slice3C else .sliceB) h2.1 (by omega) w
  unfold Instr.sliceBounds
  cases hi' <;> cases lo' <;> simp_all

theorem evSlice_sound {P : Program} {t : TypeId} {x : T} {lo hi : Option T} {vc : Bool} {v : T} {ρ : Rho} {x' : Value} {lo' hi' : Option Value} (h : evSlice P t x lo hi = some (vc, v)) (hvc : vc = true)
    (hx : (R ρ x).v x') (hlo : OptR ρ lo lo') (hhi : OptR ρ hi hi') (w : World) : ∃ v', (Instr.sliceAt t x' lo' hi' none).run P w = .ok v' w ∧ (R ρ v).v v' := by
  subst hvc
  unfold evSlice at h
  split at h
  · rename_i n e id path hu
    obtain ⟨b, sz, hr, rfl⟩ := hx
    split at h
    · rename_i m l hh hm hl hhh
      simp only [Option.some.injEq, Prod.mk.injEq, Bool.and_eq_true, decide_eq_true_eq] at h
      obtain ⟨⟨h1, h2⟩, rfl⟩ := h
      have hb := bounds_run (P := P) (isS := false) hl hhh hlo hhi h1 h2 w
      refine ⟨_, ?_, b, sz, hr, rfl⟩
      simp only [Instr.sliceAt, Sem.run_bind, run_underlying hu, Result.andThen_ok, Instr.sureAddr, Sem.run_pure, hb, szO_run hm]
      by_cases e1 : n = l.toNat
      · subst e1; simp
      · have : ¬ l.toNat = n := fun e => e1 e.symm
        simp [e1, this, add_zero']
    · cases h
  · rename_i e id path lo0 m len c hu
    obtain ⟨b, sz, hr, hs⟩ := hx
    simp only [SliceRel] at hs
    subst hs
    split at h
    · rename_i m' l hh hm hl hhh
      cases hb0 : Nat.beq m m' with
      | false => rw [hb0] at h; cases h
      | true =>
        rw [hb0] at h
        have := Nat.eq_of_beq_eq_true hb0
        subst this
        simp only [cond_true, Option.some.injEq, Prod.mk.injEq, Bool.and_eq_true, decide_eq_true_eq] at h
        obtain ⟨⟨h1, h2⟩, rfl⟩ := h
        have hb := bounds_run (P := P) (isS := true) hl hhh hlo hhi h1 h2 w
        refine ⟨_, ?_, b, sz, hr, rfl⟩
        simp only [Instr.sliceAt, Instr.slice, Sem.run_bind, run_underlying hu, Result.andThen_ok, Sem.run_pure, hb, szO_run hm]
        by_cases e1 : c = l.toNat
        · subst e1; simp
        · have : ¬ l.toNat = c := fun e => e1 e.symm
          simp [e1, this, add_zero', Nat.add_mul, Nat.add_assoc]
    · cases h
  · rename_i e id path lo0 m len hu
    obtain ⟨b, sz, hr, rfl, hm0, hs⟩ := hx
    split at h
    · rename_i m' l hh hm hl hhh
      cases hb0 : Nat.beq m m' with
      | false => rw [hb0] at h; cases h
      | true =>
        rw [hb0] at h
        have := Nat.eq_of_beq_eq_true hb0
        subst this
        simp only [cond_true, Option.some.injEq, Prod.mk.injEq, Bool.and_eq_true, decide_eq_true_eq] at h
        obtain ⟨⟨h1, h2⟩, rfl⟩ := h
        rcases hs with ⟨c, rfl, hsz, hlc⟩ | ⟨h0, a, rfl, ha⟩
        · have hb := bounds_run (P := P) (isS := true) (len := len) (cap := c) hl hhh hlo hhi (by omega) h2 w
          by_cases e1 : c = l.toNat
          · refine ⟨.slice (some ⟨b, lo0 * m, none⟩) (hh.toNat - l.toNat) (c - l.toNat), ?_, b, sz, hr, rfl, hm0, .inr ⟨by omega, some ⟨b, lo0 * m, none⟩, ?_, fun a' ha' => by cases ha'; rfl⟩⟩
            · simp only [Instr.sliceAt, Instr.slice, Sem.run_bind, run_underlying hu, Result.andThen_ok, Sem.run_pure, hb, szO_run hm]
              simp [e1]
            · rw [show hh.toNat - l.toNat = 0 by omega, show c - l.toNat = 0 by omega]
          · refine ⟨.slice (some ⟨b, (lo0 + l.toNat) * m, none⟩) (hh.toNat - l.toNat) (c - l.toNat), ?_, b, sz, hr, rfl, hm0, .inl ⟨c - l.toNat, rfl, ?_, by omega⟩⟩
            · simp only [Instr.sliceAt, Instr.slice, Sem.run_bind, run_underlying hu, Result.andThen_ok, Sem.run_pure, hb, szO_run hm]
              simp [e1, add_zero', Nat.add_mul]
            · rw [← hsz]; congr 1; omega
        · have hb := bounds_run (P := P) (isS := true) (len := len) (cap := 0) hl hhh hlo hhi (by omega) h2 w
          have hl0 : l.toNat = 0 := by omega
          have hh0 : hh.toNat = 0 := by omega
          refine ⟨.slice a 0 0, ?_, b, sz, hr, rfl, hm0, .inr ⟨by omega, a, rfl, ha⟩⟩
          subst h0
          simp only [Instr.sliceAt, Instr.slice, Sem.run_bind, run_underlying hu, Result.andThen_ok, Sem.run_pure, hb, szO_run hm]
          simp [hl0, hh0]
    · cases h
  · rename_i e hu
    obtain rfl : x' = _ := hx
    split at h
    · rename_i m' l hh hm hl hhh
      simp only [Option.some.injEq, Prod.mk.injEq, Bool.and_eq_true, decide_eq_true_eq] at h
      obtain ⟨⟨rfl, rfl⟩, rfl⟩ := h
      have hb := bounds_run (P := P) (isS := true) (len := 0) (cap := 0) hl hhh hlo hhi (by simp) (by simp) w
      refine ⟨_, ?_, rfl⟩
      simp only [Instr.sliceAt, Instr.slice, Sem.run_bind, run_underlying hu, Result.andThen_ok, Sem.run_pure, hb, szO_run hm]
      simp
    · cases h
  · rename_i s hu
    obtain rfl : x' = _ := hx
    split at h
    · rename_i l hh hl hhh
      simp only [Option.some.injEq, Prod.mk.injEq, Bool.and_eq_true, decide_eq_true_eq] at h
      obtain ⟨⟨h1, h2⟩, rfl⟩ := h
      have hb := bounds_run (P := P) (isS := false) (len := s.size) (cap := s.size) hl hhh hlo hhi h1 h2 w
      refine ⟨_, ?_, rfl⟩
      simp only [Instr.sliceAt, Instr.slice, Sem.run_bind, run_underlying hu, Result.andThen_ok, Sem.run_pure]
      simp [hb]
    · cases h
  · cases h

def evLen (P : Program) (t : TypeId) (x : T) : Option T :=
  match P.underlying t, x with
  | some .string, .str s => some (.int .i64 s.size)
  | some (.slice _), .slice _ _ _ _ len _ => some (.int .i64 len)
  | some (.slice _), .nilslice => some (.int .i64 0)
  | some (.array n _), _ => some (.int .i64 n)
  | _, _ => none

theorem evLen_sound {P : Program} {t ty : TypeId} {x v : T} {ρ : Rho} {x' : Value} (h : evLen P t x = some v) (hx : (R ρ x).v x') (w : World) :
    ∃ v', (Builtin.len_ #[t] ty #[x']).run P w = .ok v' w ∧ (R ρ v).v v' := by
  unfold evLen at h
  split at h
  · rename_i s hu
    obtain rfl : x' = _ := hx
    cases h
    exact ⟨_, by simp [Builtin.len_, run_underlying hu, goInt], rfl⟩
  · rename_i e id path lo m len cap hu
    obtain ⟨b, sz, hr, hs⟩ := hx
    cases h
    cases cap with
    | some c => simp only [SliceRel] at hs; subst hs; exact ⟨_, by simp [Builtin.len_, run_underlying hu, goInt], rfl⟩
    | none =>
      obtain ⟨_, _, (⟨c, rfl, _⟩ | ⟨h0, a, rfl, _⟩)⟩ := hs
      · exact ⟨_, by simp [Builtin.len_, run_underlying hu, goInt], rfl⟩
      · subst h0; exact ⟨_, by simp [Builtin.len_, run_underlying hu, goInt], rfl⟩
  · rename_i e hu
    obtain rfl : x' = _ := hx
    cases h
    exact ⟨_, by simp [Builtin.len_, run_underlying hu, goInt], rfl⟩
  · rename_i n e hu
    cases h
    exact ⟨_, by simp [Builtin.len_, run_underlying hu, goInt], rfl⟩
  · cases h

/-! ### All together -/

def opnds : Op → List Operand
  | .move x | .assign x | .box _ x | .load _ x | .nilCheck x | .unOp _ _ x | .convert _ _ x | .fieldAddr _ x _ | .field _ x _ | .extract x _ => [x]
  | .build _ ps | .buildSlice _ _ ps => ps.toList.map (·.2)
  | .store _ a v | .binOp _ _ a v _ | .indexAddr _ a v | .index _ a v | .makeSlice _ a v => [a, v]
  | .makeFunc _ _ captured => captured.toList
  | .slice _ x l h _ => x :: (l.toList ++ h.toList)
  | .call c => match c.callee with
    | .value f => f :: c.args.toList
    | _ => c.args.toList
  | _ => []

def val (G : Heap) : Option (Bool × T) → Option Res
  | some (vc, v) => some (pureR G vc v)
  | none => none
def val1 (G : Heap) : Option T → Option Res
  | some v => some (pureR G true v)
  | none => none

def isNone' {α : Type} : Option α → Bool
  | none => true
  | some _ => false

def evBuiltin (P : Program) (G : Heap) (b : Builtin) (tys : List TypeId) (args : List T) : Option Res :=
  match b, tys, args with
  | .len, [t], [x] => val1 G (evLen P t x)
  | .append, [t, u], [s, x] => evAppend P G t u s x
  | _, _, _ => none

def evOp (P : Program) (env : Env) (es : Operand → T) (G : Heap) (o : Op) : Option Res :=
  match o with
  | .move x | .assign x => some (pureR G true (es x))
  | .alloc t => evAlloc P G t
  | .box _ x => evBox G (es x)
  | .build t ps => val G (evBuild P t (ps.toList.map fun p => (p.1, es p.2)))
  | .load t a => evLoad P G t (es a)
  | .store t a x => evStore P G t (es a) (es x)
  | .nilCheck x => match es x with
    | .ptr id path => some (pureR G true (.ptr id path))
    | .fn (.func f) c => some (pureR G true (.fn (.func f) c))
    | _ => none
  | .binOp op t x y _ => match evBin op (unbit (es x)) (unbit (es y)) with
    | some r => val G (some r)
    | none => match op with
      | .eql => val G (evEq P false t (es x) (es y))
      | .neq => val G (evEq P true t (es x) (es y))
      | _ => none
  | .unOp op _ x => val1 G (evUn op (es x))
  | .convert s d x => val1 G (evConv P s d (es x))
  | .fieldAddr t x f => val1 G (evFieldAddr P t f (es x))
  | .field t x f => val1 G (evField P t f (es x))
  | .indexAddr t x i => val G (evIndexAddr P t (es x) (es i))
  | .index t x i => val G (evIndex P t (es x) (es i))
  | .extract x i => val1 G (evExtract i (es x))
  | .makeFunc f first cap => match f, first.toList with
    | .func f, [] => some (pureR G true (.fn (.func f) (ofL (cap.toList.map es))))
    | _, _ => none
  | .slice t x lo hi mx => match mx with
    | none => val G (evSlice P t (es x) (lo.map es) (hi.map es))
    | some _ => none
  | .call c => match c.callee with
    | .value f => match es f with
      | .fn (.func fid) cap => match env fid with
        | some m => m (c.args.toList.map es ++ toL cap) G
        | none => none
      | _ => none
    | .builtin b => evBuiltin P G b c.argTypes.toList (c.args.toList.map es)
    | _ => none
  | .buildSlice t n ps => evBuildSlice P G t n (ps.toList.map fun p => (p.1, es p.2))
  | .makeSlice t l c => evMake P G t (es l) (es c)
  | _ => none

/-- What an operation's run lands in. -/
def OpOK (P : Program) (ρm : Operand → Value) (o : Oper) (ρ : Rho) (G : Heap) (w : World) (r : Res) : Prop :=
  Lands P (fun v' w' => ∃ ρ', Post ρ ρ' G w r v' w') ((execOp ρm o).run P w)

theorem ok_val {P : Program} {ρm : Operand → Value} {o : Oper} {ρ : Rho} {G : Heap} {w : World} {vc : Bool} {v : T} {s : Sem Value} (hs : execOp ρm o = (do pure (.value (← s))))
    (h : ∃ v', s.run P w = .ok v' w ∧ (R ρ v).v v') : OpOK P ρm o ρ G w (pureR G vc v) := by
  obtain ⟨v', h1, h2⟩ := h
  unfold OpOK
  rw [hs]
  simp only [Sem.run_bind, h1, Result.andThen_ok, Sem.run_pure, Lands]
  exact ⟨ρ, Post.pure h2 0⟩

theorem eqGuard_int {P : Program} {op : BinOp} {t : TypeId} {x y : Operand} {a b : Value} (h : (∃ k n k' m, a = .int k n ∧ b = .int k' m) ∨ (∃ s s', a = .string s ∧ b = .string s')) (w : World) :
    (eqGuard op t x y a b).run P w = .ok () w := by
  unfold eqGuard
  rcases h with ⟨k, n, k', m, rfl, rfl⟩ | ⟨s, s', rfl, rfl⟩ <;> (cases op <;> rfl)

theorem evBin_shape {op : BinOp} {x y : T} {r : Bool × T} {ρ : Rho} {x' y' : Value} (h : evBin op x y = some r) (hx : (R ρ x).v x') (hy : (R ρ y).v y') :
    (∃ k n k' m, x' = .int k n ∧ y' = .int k' m) ∨ (∃ s s', x' = .string s ∧ y' = .string s') := by
  unfold evBin at h
  split at h
  · obtain rfl : x' = _ := hx
    obtain rfl : y' = _ := hy
    exact .inl ⟨_, _, _, _, rfl, rfl⟩
  · obtain rfl : x' = _ := hx
    obtain rfl : y' = _ := hy
    exact .inr ⟨_, _, rfl, rfl⟩
  · cases h

theorem OptR_map {ρ : Rho} {es : Operand → T} {ρm : Operand → Value} {l : Option Operand} (h : ∀ x ∈ l.toList, (R ρ (es x)).v (ρm x)) : OptR ρ (l.map es) (l.map ρm) := by
  cases l with
  | none => rfl
  | some x => exact ⟨_, rfl, h x (by simp)⟩

theorem evOp_sound {P : Program} {env : Env} (henv : EnvOK P env) {es : Operand → T} {ρm : Operand → Value} {G : Heap} {o : Oper} {r : Res} {ρ : Rho} {w : World}
    (h : evOp P env es G o.op = some r) (hvc : r.vc = true) (hes : ∀ x ∈ opnds o.op, (R ρ (es x)).v (ρm x)) (hsim : Sim (bitK r.t) ρ G w) (hf : fresh ρ G.length r.G.length) :
    OpOK P ρm o ρ G w r := by
  obtain ⟨dst, op, type, pos, after, guard⟩ := o
  simp only at h hes
  unfold evOp at h
  split at h
  · cases h
    rename_i x
    have hx := hes x (by simp [opnds])
    simp only [OpOK, execOp, Sem.run_pure, Lands]
    exact ⟨ρ, Post.pure hx 0⟩
  · cases h
    rename_i x
    have hx := hes x (by simp [opnds])
    simp only [OpOK, execOp, Sem.run_pure, Lands]
    exact ⟨ρ, Post.pure hx 0⟩
  · rename_i t
    obtain ⟨v', w', h1, h2⟩ := evAlloc_sound (ρ := ρ) (w := w) h hf
    simp only [OpOK, execOp, Sem.run_bind, h1, Result.andThen_ok, Sem.run_pure, Lands]
    exact h2
  · rename_i t x
    have hx := hes x (by simp [opnds])
    obtain ⟨v', w', h1, h2⟩ := evBox_sound (P := P) (t := t) (w := w) h hx hf
    simp only [OpOK, execOp, Sem.run_bind, h1, Result.andThen_ok, Sem.run_pure, Lands]
    exact h2
  · rename_i t ps
    unfold val at h
    split at h
    · rename_i vc v hv
      cases h
      refine ok_val (s := Instr.build t (ps.map fun (i, x) => (i, ρm x))) rfl (evBuild_sound hv hvc ?_ (by simp) w)
      intro j i x hj
      simp only [List.getElem?_map, Option.map_eq_some_iff] at hj
      obtain ⟨⟨a, b⟩, hj1, hj2⟩ := hj
      simp only [Prod.mk.injEq] at hj2
      obtain ⟨rfl, rfl⟩ := hj2
      refine ⟨ρm b, ?_, hes b ?_⟩
      · simp at hj1
        simp [hj1]
      · simp only [opnds, List.mem_map]
        exact ⟨_, List.mem_of_getElem? hj1, rfl⟩
    · cases h
  · rename_i t a
    have ha := hes a (by simp [opnds])
    obtain ⟨v', h1, h2⟩ := evLoad_sound h hvc ha hsim
    simp only [OpOK, execOp, Sem.run_bind, h1, Result.andThen_ok, Sem.run_pure, Lands]
    exact h2
  · rename_i t a x
    have ha := hes a (by simp [opnds])
    have hx := hes x (by simp [opnds])
    obtain ⟨w', h1, h2⟩ := evStore_sound h hvc ha hx hsim
    simp only [OpOK, execOp, Sem.run_bind, h1, Result.andThen_ok, Sem.run_pure, Lands]
    exact h2
  · rename_i x
    have hx := hes x (by simp [opnds])
    split at h
    · rename_i id path he
      cases h
      rw [he] at hx
      obtain ⟨b, sz, hr, hxe⟩ := hx
      simp only [OpOK, execOp, hxe, Sem.run_pure, Lands]
      have hv : (R ρ (.ptr id path)).v (.pointer (some ⟨b, poff path, none⟩)) := ⟨b, sz, hr, rfl⟩
      exact ⟨ρ, Post.pure hv 0⟩
    · rename_i f c he
      cases h
      rw [he] at hx
      obtain ⟨vs, hxe, hl⟩ := hx
      simp only [OpOK, execOp, hxe, Sem.run_pure, Lands]
      have hv : (R ρ (.fn (.func f) c)).v (.func (.func f) #[] vs) := ⟨vs, rfl, hl⟩
      exact ⟨ρ, Post.pure hv 0⟩
    · cases h
  · rename_i op t x y yt
    have hx := hes x (by simp [opnds])
    have hy := hes y (by simp [opnds])
    split at h
    · rename_i r' hv
      obtain ⟨vc, v⟩ := r'
      simp only [val] at h
      cases h
      obtain ⟨v', h1, h2⟩ := evBin_sound (P := P) (t := t) hv hvc (unbit_R hx) (unbit_R hy) w
      refine ok_val (s := do eqGuard op t x y (ρm x) (ρm y); binOp op t (ρm x) (ρm y)) rfl ⟨v', ?_, h2⟩
      rw [Sem.run_bind, eqGuard_int (evBin_shape hv (unbit_R hx) (unbit_R hy))]
      exact h1
    · split at h
      · unfold val at h
        split at h
        · rename_i vc v hv
          cases h
          exact ok_val (s := do eqGuard .eql t x y (ρm x) (ρm y); binOp .eql t (ρm x) (ρm y)) rfl (evEq_sound (neg := false) hv hvc hx hy w)
        · cases h
      · unfold val at h
        split at h
        · rename_i vc v hv
          cases h
          exact ok_val (s := do eqGuard .neq t x y (ρm x) (ρm y); binOp .neq t (ρm x) (ρm y)) rfl (evEq_sound (neg := true) hv hvc hx hy w)
        · cases h
      · cases h
  · rename_i op t x
    have hx := hes x (by simp [opnds])
    unfold val1 at h
    split at h
    · rename_i v hv
      cases h
      exact ok_val (s := Op.unary op (ρm x)) rfl (evUn_sound hv hx w)
    · cases h
  · rename_i s d x
    have hx := hes x (by simp [opnds])
    unfold val1 at h
    split at h
    · rename_i v hv
      cases h
      exact ok_val (s := convert s d (ρm x)) rfl (evConv_sound hv hx w)
    · cases h
  · rename_i t x f
    have hx := hes x (by simp [opnds])
    unfold val1 at h
    split at h
    · rename_i v hv
      cases h
      exact ok_val (s := Instr.fieldAt t (ρm x) f) rfl (evFieldAddr_sound hv hx w)
    · cases h
  · rename_i t x f
    have hx := hes x (by simp [opnds])
    unfold val1 at h
    split at h
    · rename_i v hv
      cases h
      exact ok_val (s := Instr.field t (ρm x) f) rfl (evField_sound hv hx w)
    · cases h
  · rename_i t x i
    have hx := hes x (by simp [opnds])
    have hi := hes i (by simp [opnds])
    unfold val at h
    split at h
    · rename_i vc v hv
      cases h
      exact ok_val (s := Instr.indexAt t (ρm x) (ρm i)) rfl (evIndexAddr_sound hv hvc hx hi w)
    · cases h
  · rename_i t x i
    have hx := hes x (by simp [opnds])
    have hi := hes i (by simp [opnds])
    unfold val at h
    split at h
    · rename_i vc v hv
      cases h
      exact ok_val (s := Instr.index t (ρm x) (ρm i)) rfl (evIndex_sound hv hvc hx hi w)
    · cases h
  · rename_i x i
    have hx := hes x (by simp [opnds])
    unfold val1 at h
    split at h
    · rename_i v hv
      cases h
      exact ok_val (s := Instr.extract (ρm x) i) rfl (evExtract_sound hv hx w)
    · cases h
  · rename_i f first cap
    split at h
    · rename_i f hfirst
      cases h
      have hfi : first = #[] := by simpa using hfirst
      subst hfi
      refine ok_val (s := Instr.makeFunc (.func f) ((#[] : Array Operand).map ρm) (cap.map ρm)) rfl ⟨_, rfl, cap.map ρm, by simp, ?_⟩
      rw [Array.toList_map]
      exact ofL_l (VLs_map fun x hx => hes x (by simpa [opnds] using hx))
    · cases h
  · rename_i t x lo hi mx
    split at h
    · unfold val at h
      split at h
      · rename_i vc v hv
        cases h
        exact ok_val (s := Instr.sliceAt t (ρm x) (lo.map ρm) (hi.map ρm) none) rfl (evSlice_sound hv hvc (hes x (by simp [opnds]))
          (OptR_map fun y hy => hes y (by simp [opnds]; right; left; simpa using hy)) (OptR_map fun y hy => hes y (by simp [opnds]; right; right; simpa using hy)) w)
      · cases h
    · cases h
  · rename_i c
    obtain ⟨callee, args, argTypes⟩ := c
    simp only at h
    split at h
    · rename_i f
      have hfv := hes f (by simp [opnds])
      have hargs : VLs ρ (args.toList.map es) (args.toList.map ρm) := VLs_map fun x hx => hes x (by simp [opnds]; right; simpa using hx)
      split at h
      · rename_i fid cap he
        rw [he] at hfv
        obtain ⟨vs, hfe, hcap⟩ := hfv
        split at h
        · rename_i m hm
          have hd := (henv _ _ hm).lands _ _ _ h hvc ρ w _ hsim hf (VLs_append hargs (toL_VLs hcap))
          simp only [OpOK, execOp, resolve, hfe, Deferred.ofValue, Sem.run_bind, Sem.run_pure, Result.andThen_ok, invoke]
          have e : (#[] ++ args.map ρm ++ vs : Array Value) = (args.toList.map ρm ++ vs.toList).toArray := by
            apply Array.ext'
            simp
          rw [e]
          exact hd
        · cases h
      · cases h
    · rename_i b
      have hargs : VLs ρ (args.toList.map es) (args.toList.map ρm) := VLs_map fun x hx => hes x (by simpa [opnds] using hx)
      unfold evBuiltin at h
      split at h
      · rename_i t x htys hxs
        rw [hxs] at hargs
        obtain ⟨y, ys, e1, hy, e2⟩ := hargs
        obtain rfl : ys = [] := e2
        have ea : argTypes = #[t] := by apply Array.ext'; simpa using htys
        have eb : args.map ρm = #[y] := by apply Array.ext'; simpa using e1
        unfold val1 at h
        split at h
        · rename_i v hv
          cases h
          subst ea
          obtain ⟨v', h1, h2⟩ := evLen_sound (P := P) (ty := type) hv hy w
          simp only [OpOK, execOp, resolve, eb, Sem.run_bind, Sem.run_pure, Result.andThen_ok, invoke, builtin, h1, Lands]
          exact ⟨ρ, Post.pure h2 0⟩
        · cases h
      · rename_i t u s x htys hxs
        rw [hxs] at hargs
        obtain ⟨y, ys, e1, hy, z, zs, e2, hz, e3⟩ := hargs
        obtain rfl : zs = [] := e3
        subst e2
        have ea : argTypes = #[t, u] := by apply Array.ext'; simpa using htys
        have eb : args.map ρm = #[y, z] := by apply Array.ext'; simpa using e1
        subst ea
        obtain ⟨v', w', h1, h2⟩ := evAppend_sound (ty := type) h hvc hy hz hsim hf
        simp only [OpOK, execOp, resolve, eb, Sem.run_bind, Sem.run_pure, Result.andThen_ok, invoke, builtin, h1, Lands]
        exact h2
      · cases h
    · cases h
  · rename_i t n ps
    obtain ⟨v', w', h1, h2⟩ := evBuildSlice_sound (parts' := ps.map fun (i, x) => (i, ρm x)) (w := w) h hvc (fun j i x hj => by
      simp only [List.getElem?_map, Option.map_eq_some_iff] at hj
      obtain ⟨⟨a, b⟩, hj1, hj2⟩ := hj
      simp only [Prod.mk.injEq] at hj2
      obtain ⟨rfl, rfl⟩ := hj2
      refine ⟨ρm b, ?_, hes b ?_⟩
      · simp at hj1
        simp [hj1]
      · simp only [opnds, List.mem_map]
        exact ⟨_, List.mem_of_getElem? hj1, rfl⟩) (by simp) hf
    simp only [OpOK, execOp, Sem.run_bind, h1, Result.andThen_ok, Sem.run_pure, Lands]
    exact h2
  · rename_i t l c
    have hl := hes l (by simp [opnds])
    have hc := hes c (by simp [opnds])
    obtain ⟨v', w', h1, h2⟩ := evMake_sound (w := w) h hvc hl hc hf
    simp only [OpOK, execOp, Sem.run_bind, h1, Result.andThen_ok, Sem.run_pure, Lands]
    exact h2
  · cases h

theorem val_stat {G : Heap} {x : Option (Bool × T)} {r : Res} (h : val G x = some r) : Stat G r := by
  unfold val at h
  split at h
  · cases h; exact Stat.pure _ _ _ _
  · cases h
theorem val1_stat {G : Heap} {x : Option T} {r : Res} (h : val1 G x = some r) : Stat G r := by
  unfold val1 at h
  split at h
  · cases h; exact Stat.pure _ _ _ _
  · cases h

theorem evOp_stat {P : Program} {env : Env} (henv : EnvOK P env) {es : Operand → T} {G : Heap} {o : Op} {r : Res} (h : evOp P env es G o = some r) : Stat G r := by
  unfold evOp at h
  split at h
  · cases h; exact Stat.pure _ _ _ _
  · cases h; exact Stat.pure _ _ _ _
  · exact evAlloc_stat h
  · exact evBox_stat h
  · exact val_stat h
  · exact evLoad_stat h
  · exact evStore_stat h
  · split at h <;> first | (cases h; done) | (cases h; exact Stat.pure _ _ _ _)
  · split at h
    · exact val_stat h
    · split at h <;> first | (cases h; done) | exact val_stat h
  · exact val1_stat h
  · exact val1_stat h
  · exact val1_stat h
  · exact val1_stat h
  · exact val_stat h
  · exact val_stat h
  · exact val1_stat h
  · split at h <;> first | (cases h; done) | (cases h; exact Stat.pure _ _ _ _)
  · split at h
    · exact val_stat h
    · cases h
  · split at h
    · split at h
      · split at h
        · rename_i m hm
          exact (henv _ _ hm).stat _ _ _ h
        · cases h
      · cases h
    · unfold evBuiltin at h
      split at h
      · exact val1_stat h
      · exact evAppend_stat h
      · cases h
    · cases h
  · exact evBuildSlice_stat h
  · exact evMake_stat h
  · cases h

end
end Go.AE

/-! The abstract evaluator: one operation of a region, with its guard. No condition. -/
namespace Go.AE
open Go
noncomputable section

def tget : List T → Nat → T
  | [], _ => .any
  | x :: _, 0 => x
  | _ :: r, n + 1 => tget r n

def tset : List T → Nat → T → List T
  | [], _, _ => []
  | _ :: r, 0, y => y :: r
  | x :: r, n + 1, y => x :: tset r n y

theorem tset_len (l : List T) (i : Nat) (y : T) : (tset l i y).length = l.length := by
  induction l generalizing i with
  | nil => rfl
  | cons x r ih => cases i <;> simp [tset, ih]

theorem tget_tset_ne {l : List T} {i j : Nat} (y : T) (h : j ≠ i) : tget (tset l i y) j = tget l j := by
  induction l generalizing i j with
  | nil => rfl
  | cons x r ih => cases i with
    | zero => cases j with
      | zero => exact absurd rfl h
      | succ j => rfl
    | succ i => cases j with
      | zero => rfl
      | succ j => simp only [tset, tget]; exact ih (by omega)

theorem tget_tset_same {l : List T} {i : Nat} (y : T) (h : i < l.length) : tget (tset l i y) i = y := by
  induction l generalizing i with
  | nil => simp at h
  | cons x r ih => cases i with
    | zero => rfl
    | succ i => simp only [tset, tget]; exact ih (by simpa using h)

theorem tget_out {l : List T} {i : Nat} (h : l.length ≤ i) : tget l i = .any := by
  induction l generalizing i with
  | nil => rfl
  | cons x r ih => cases i with
    | zero => simp at h
    | succ i => simp only [tget]; exact ih (by simpa using h)

def setD (tm : List T) : Option Tmp → T → List T
  | some d, v => tset tm d v
  | none, _ => tm

theorem setD_len (tm : List T) (d : Option Tmp) (v : T) : (setD tm d v).length = tm.length := by cases d <;> simp [setD, tset_len]

def ev (tm : List T) : Operand → T
  | .tmp t => tget tm t
  | .const v => constT v
  | .global _ => .any
  | .func f => .fn (.func f) .nil

def stripG : T → Bool
  | .opt g _ => g
  | _ => true
def stripV : T → T
  | .opt _ v => v
  | t => t

theorem strip_R {ρ : Rho} {t : T} {x : Value} (h : (R ρ t).v x) (hg : stripG t = true) : (R ρ (stripV t)).v x := by
  cases t <;> first | exact h | exact h.1 hg

def allG (e : Operand → T) : List Operand → Bool
  | [] => true
  | x :: r => stripG (e x) && allG e r

theorem allG_spec {e : Operand → T} : ∀ {l : List Operand}, allG e l = true → ∀ x ∈ l, stripG (e x) = true
  | y :: r, h, x, hx => by
    simp only [allG, Bool.and_eq_true] at h
    rcases List.mem_cons.1 hx with rfl | hx
    · exact h.1
    · exact allG_spec h.2 x hx

def mergeT (t : Bool) : T → T → Option T
  | .int k x, .int k' y => if k = k' then some (.int k (bif t then x else y)) else none
  | .bool x, .bool y => some (.bool (bif t then x else y))
  | .str x, .str y => some (.str (bif t then x else y))
  | _, _ => none

def evPick (c a b : T) : Option (Bool × T) :=
  match stripV c with
  | .bool t => match mergeT t (stripV a) (stripV b) with
    | some v => some (stripG c && (!t || stripG a) && (t || stripG b), v)
    | none => none
  | _ => none

def opRes (P : Program) (env : Env) (e : Operand → T) (G : Heap) (o : Op) : Option Res :=
  match o with
  | .pick c a b => val G (evPick (e c) (e a) (e b))
  | op => match evOp P env (fun x => stripV (e x)) G op with
    | some r => some ⟨allG e (opnds op) && r.vc, r.v, r.G, r.t, r.w⟩
    | none => none

def allOps : Op → List Operand
  | .pick c a b => [c, a, b]
  | op => opnds op

theorem mergeT_sound {ρ : Rho} {t : Bool} {a b v : T} {a' b' : Value} (h : mergeT t a b = some v) (ha : t = true → (R ρ a).v a') (hb : t = false → (R ρ b).v b') :
    (R ρ v).v (if t = true then a' else b') := by
  unfold mergeT at h
  split at h
  · split at h
    · rename_i hk
      subst hk
      cases h
      cases t
      · obtain rfl : b' = _ := hb rfl
        rfl
      · obtain rfl : a' = _ := ha rfl
        rfl
    · cases h
  · cases h
    cases t
    · obtain rfl : b' = _ := hb rfl
      rfl
    · obtain rfl : a' = _ := ha rfl
      rfl
  · cases h
    cases t
    · obtain rfl : b' = _ := hb rfl
      rfl
    · obtain rfl : a' = _ := ha rfl
      rfl
  · cases h

theorem opRes_sound {P : Program} {env : Env} (henv : EnvOK P env) {e : Operand → T} {ρm : Operand → Value} {G : Heap} {o : Oper} {r : Res} {ρ : Rho} {w : World}
    (h : opRes P env e G o.op = some r) (hvc : r.vc = true) (he : ∀ x ∈ allOps o.op, (R ρ (e x)).v (ρm x)) (hsim : Sim (bitK r.t) ρ G w) (hf : fresh ρ G.length r.G.length) :
    OpOK P ρm o ρ G w r := by
  obtain ⟨dst, op, type, pos, after, guard⟩ := o
  simp only at h he
  unfold opRes at h
  split at h
  · rename_i c a b
    unfold val at h
    split at h
    · rename_i vc v hv
      cases h
      unfold evPick at hv
      split at hv
      · rename_i t ht
        split at hv
        · rename_i v' hm
          simp only [Option.some.injEq, Prod.mk.injEq] at hv
          obtain ⟨h1, rfl⟩ := hv
          simp only [pureR] at hvc
          subst hvc
          simp only [Bool.and_eq_true, Bool.or_eq_true, Bool.not_eq_true'] at h1
          have hc := strip_R (he c (by simp [allOps])) h1.1.1
          rw [ht] at hc
          have hcv : ρm c = .bool t := hc
          have := mergeT_sound (a' := ρm a) (b' := ρm b) hm (fun e => strip_R (he a (by simp [allOps])) (h1.1.2.resolve_left (by simp [e])))
            (fun e => strip_R (he b (by simp [allOps])) (h1.2.resolve_left (by simp [e])))
          simp only [OpOK, execOp, hcv, asBool, Sem.run_bind, Sem.run_pure, Result.andThen_ok, Lands]
          exact ⟨ρ, Post.pure this 0⟩
        · cases hv
      · cases hv
    · cases h
  · rename_i op' hnp
    split at h
    · rename_i r' hr
      cases h
      simp only [Bool.and_eq_true] at hvc
      have hops : allOps op = opnds op := by
        cases op <;> first | rfl | exact (hnp _ _ _ rfl).elim
      rw [hops] at he
      have := evOp_sound (o := ⟨dst, op, type, pos, after, guard⟩) (r := r') henv hr hvc.2 (fun x hx => strip_R (he x hx) (allG_spec hvc.1 x hx)) hsim hf
      unfold OpOK at this ⊢
      refine Lands.mono ?_ this
      rintro v' w' ⟨ρ', hp⟩
      exact ⟨ρ', ⟨hp.ext, hp.dom, hp.val, hp.sim, hp.new, hp.inj, hp.frame, hp.size, hp.os, hp.tape, hp.output⟩⟩
    · cases h

theorem opRes_stat {P : Program} {env : Env} (henv : EnvOK P env) {e : Operand → T} {G : Heap} {o : Op} {r : Res} (h : opRes P env e G o = some r) : Stat G r := by
  unfold opRes at h
  split at h
  · exact val_stat h
  · split at h
    · rename_i r' hr
      cases h
      have := evOp_stat henv hr
      exact ⟨this.len, this.wt, this.old⟩
    · cases h

def allN (f : Nat → Bool) : Nat → Bool
  | 0 => true
  | n + 1 => f n && allN f n

theorem allN_spec {f : Nat → Bool} : ∀ {n : Nat}, allN f n = true → ∀ i, i < n → f i = true
  | n + 1, h, i, hi => by
    simp only [allN, Bool.and_eq_true] at h
    by_cases e : i = n
    · rw [e]; exact h.1
    · exact allN_spec h.2 i (by omega)

def noPtr : T → Bool
  | .ptr .. | .slice .. => false
  | .fn _ c => noPtr c
  | .opt _ t => noPtr t
  | .tup t => noPtr t
  | .cons h t => noPtr h && noPtr t
  | .rows n _ f => allN (fun i => noPtr (f i)) n
  | _ => true

theorem noPtr_R {t : T} (h : noPtr t = true) (ρ ρ' : Rho) : (∀ cs, (R ρ t).c cs → (R ρ' t).c cs) ∧ (∀ x, (R ρ t).v x → (R ρ' t).v x) ∧ (∀ xs, (R ρ t).l xs → (R ρ' t).l xs) := by
  induction t with
  | ptr => cases h
  | slice => cases h
  | fn f cap ih =>
    have ih := ih h
    have hp : ∀ x, (∃ vs, x = Value.func f #[] vs ∧ (R ρ cap).l vs.toList) → (∃ vs, x = Value.func f #[] vs ∧ (R ρ' cap).l vs.toList) := by
      rintro x ⟨vs, hx, hl⟩; exact ⟨vs, hx, ih.2.2 _ hl⟩
    refine ⟨?_, hp, fun _ h => h⟩
    rintro cs ⟨x, hcs, hx⟩; exact ⟨x, hcs, hp x hx⟩
  | opt g t ih => exact ⟨fun _ h => h, fun x hx => ⟨fun hg => (ih h).2.1 _ (hx.1 hg), hx.2⟩, fun _ h => h⟩
  | tup t ih => exact ⟨fun _ h => h, fun x ⟨vs, hx, hl⟩ => ⟨vs, hx, (ih h).2.2 _ hl⟩, fun _ h => h⟩
  | cons a b iha ihb =>
    simp only [noPtr, Bool.and_eq_true] at h
    have iha := iha h.1
    have ihb := ihb h.2
    refine ⟨?_, ?_, ?_⟩
    · rintro cs ⟨x, y, e, hx, hy⟩; exact ⟨x, y, e, iha.1 _ hx, ihb.1 _ hy⟩
    · rintro v ⟨cs, hv, x, y, e, hx, hy⟩; exact ⟨cs, hv, x, y, e, iha.1 _ hx, ihb.1 _ hy⟩
    · rintro xs ⟨y, ys, e, hy, hys⟩; exact ⟨y, ys, e, iha.2.1 _ hy, ihb.2.2 _ hys⟩
  | rows n m f ih =>
    have h' := allN_spec h
    refine ⟨?_, ?_, fun _ h => h⟩
    · rintro cs ⟨e, hx⟩; exact ⟨e, fun i hi => (ih i (h' i hi)).1 _ (hx i hi)⟩
    · rintro v ⟨cs, hv, e, hx⟩; exact ⟨cs, hv, e, fun i hi => (ih i (h' i hi)).1 _ (hx i hi)⟩
  | _ => exact ⟨fun _ h => h, fun _ h => h, fun _ h => h⟩

/-- What was made and nobody points to is forgotten. -/
theorem Post.drop {ρ ρ' : Rho} {G : Heap} {w w' : World} {r : Res} {v' : Value} (hp : Post ρ ρ' G w r v' w') (hw : r.w = 0) (hv : r.G.length = G.length ∨ noPtr r.v = true) (vc : Bool) (t : Nat) :
    Post ρ ρ G w ⟨vc, r.v, G, t, 0⟩ v' w' where
  ext := Rho.Ext.refl ρ
  dom _ _ := rfl
  val := by
    rcases hv with hv | hv
    · have : ρ' = ρ := funext fun k => hp.dom k (by rw [hv]; omega)
      rw [← this]; exact hp.val
    · exact (noPtr_R hv ρ' ρ).2.1 _ hp.val
  sim k t hk hg := by
    rcases hk with hk | hk
    · have : k < G.length := hget_lt hg
      omega
    · simp at hk
  new k t p hk hg := by
    have : k < G.length := hget_lt hg
    omega
  inj k k' t t' p p' hk _ hg := by
    have : k < G.length := hget_lt hg
    omega
  frame b hb _ := hp.frame b hb (fun k p _ hk => by rw [hw] at hk; simp at hk)
  size := hp.size
  os := hp.os
  tape := hp.tape
  output := hp.output

/-- Does the guard let an operation run: none asked, or what it comes to. -/
def guardOf (ops : List Oper) (tm : List T) : Option (Nat × Bool) → Option (Option Bool)
  | none => some none
  | some (j, want) => match ops[j]? with
    | some oj => match oj.dst with
      | some d => match tget tm d with
        | .bool b => some (some (b == want))
        | .opt g (.bool b) => some (some (g && (b == want)))
        | _ => none
      | none => none
    | none => none

def guardTmp (ops : List Oper) : Option (Nat × Bool) → List Tmp
  | none => []
  | some (j, _) => match ops[j]? with
    | some oj => oj.dst.toList
    | none => []

def stepRes0 (P : Program) (env : Env) (ops : List Oper) (tm : List T) (G : Heap) (o : Oper) : Option Res :=
  match guardOf ops tm o.guard with
  | none => none
  | some none => opRes P env (ev tm) G o.op
  | some (some gd) => match opRes P env (ev tm) G o.op with
    | some r => bif Nat.beq r.w 0 && Nat.beq r.G.length G.length then some ⟨!gd || r.vc, .opt gd r.v, G, r.t, 0⟩ else none
    | none => none

def tmpsOf : List Operand → List Tmp
  | [] => []
  | .tmp t :: r => t :: tmpsOf r
  | _ :: r => tmpsOf r

theorem mem_tmpsOf {t : Tmp} : ∀ {l : List Operand}, .tmp t ∈ l → t ∈ tmpsOf l
  | x :: r, h => by
    rcases List.mem_cons.1 h with rfl | h
    · simp [tmpsOf]
    · have := mem_tmpsOf h
      cases x <;> simp [tmpsOf, this]

def reads (ops : List Oper) (o : Oper) : List Tmp := guardTmp ops o.guard ++ tmpsOf (allOps o.op)

theorem Act.eval_ev {ρ : Rho} {tm : List T} {a : Act} {x : Operand} (h : ∀ t, x = .tmp t → (R ρ (tget tm t)).v (a.tmps.getD t undef)) : (R ρ (ev tm x)).v (a.eval x) := by
  cases x with
  | tmp t => exact h t rfl
  | const v => exact constT_v ρ v
  | global g => trivial
  | func f => exact ⟨#[], rfl, rfl⟩

theorem wanted_of {ρ : Rho} {ops : Array Oper} {tm : List T} {a : Act} {o : Oper} {g : Option Bool} (h : guardOf ops.toList tm o.guard = some g)
    (hr : ∀ t ∈ guardTmp ops.toList o.guard, (R ρ (tget tm t)).v (a.tmps.getD t undef)) : Region.wanted o (yielded ops a.tmps) = g.getD true := by
  unfold Region.wanted
  cases hg : o.guard with
  | none => rw [hg] at h; cases h; rfl
  | some jw =>
    obtain ⟨j, want⟩ := jw
    rw [hg] at h hr
    simp only [guardOf] at h
    split at h
    · rename_i oj hoj
      split at h
      · rename_i d hd
        have hd' := hr d (by simp [guardTmp, hoj, hd])
        have hoj' : ops[j]? = some oj := by simpa using hoj
        have hy : yielded ops a.tmps j = match a.tmps.getD d undef with | .bool b => some b | _ => none := by
          unfold yielded
          simp only [hoj', Option.bind_some, hd]
          cases he : a.tmps[d]? with
          | none =>
            have : a.tmps.getD d undef = undef := by simp [he]
            rw [this]; rfl
          | some x =>
            have : a.tmps.getD d undef = x := by simp [he]
            rw [this]
            cases x <;> rfl
        split at h
        · rename_i b hb
          rw [hb] at hd'
          have hd'' : a.tmps.getD d undef = .bool b := hd'
          cases h
          simp only [hy, hd'', Option.getD_some]
          cases b <;> cases want <;> rfl
        · rename_i gg b hb
          rw [hb] at hd'
          cases h
          simp only [Option.getD_some, hy]
          cases gg with
          | true =>
            have hd'' : a.tmps.getD d undef = .bool b := hd'.1 rfl
            simp only [hd'', Bool.true_and]
            cases b <;> cases want <;> rfl
          | false =>
            have hd'' : a.tmps.getD d undef = undef := hd'.2 rfl
            simp only [hd'', Bool.false_and]
            rfl
        · cases h
      · cases h
    · cases h

theorem stepRes0_sound {P : Program} {env : Env} (henv : EnvOK P env) {ops : Array Oper} {tm : List T} {G : Heap} {o : Oper} {r : Res} {ρ : Rho} {a : Act} {w : World}
    (h : stepRes0 P env ops.toList tm G o = some r) (hvc : r.vc = true) (hr : ∀ t ∈ reads ops.toList o, (R ρ (tget tm t)).v (a.tmps.getD t undef))
    (hsim : Sim (bitK r.t) ρ G w) (hf : fresh ρ G.length r.G.length) :
    (Region.wanted o (yielded ops a.tmps) = true ∧ OpOK P a.eval o ρ G w r) ∨ (Region.wanted o (yielded ops a.tmps) = false ∧ ∃ ρ', Post ρ ρ' G w r undef w) := by
  have hops : ∀ x ∈ allOps o.op, (R ρ (ev tm x)).v (a.eval x) := fun x hx => Act.eval_ev fun t ht => hr t (by
    subst ht
    exact List.mem_append_right _ (mem_tmpsOf hx))
  have hg : ∀ t ∈ guardTmp ops.toList o.guard, (R ρ (tget tm t)).v (a.tmps.getD t undef) := fun t ht => hr t (List.mem_append_left _ ht)
  unfold stepRes0 at h
  split at h
  · cases h
  · rename_i hgo
    have hw := wanted_of hgo hg
    exact .inl ⟨hw, opRes_sound henv h hvc hops hsim hf⟩
  · rename_i gd hgo
    have hw := wanted_of hgo hg
    simp only [Option.getD_some] at hw
    split at h
    · rename_i r' hr'
      cases hb : (Nat.beq r'.w 0 && Nat.beq r'.G.length G.length) with
      | false => rw [hb] at h; cases h
      | true =>
        rw [hb] at h
        cases h
        simp only [Bool.and_eq_true] at hb
        have hlen := Nat.eq_of_beq_eq_true hb.2
        cases gd with
        | false =>
          refine .inr ⟨hw, ρ, ?_⟩
          have hv : (R ρ (.opt false r'.v)).v undef := ⟨fun e => (by cases e), fun _ => rfl⟩
          exact Post.pure hv _
        | true =>
          refine .inl ⟨hw, ?_⟩
          have h1 := opRes_sound henv hr' (by simpa using hvc) hops hsim (fun k h1 h2 => by omega)
          unfold OpOK at h1 ⊢
          refine Lands.mono ?_ h1
          rintro v' w' ⟨ρ', hp⟩
          refine ⟨ρ, ?_⟩
          have hd := hp.drop (Nat.eq_of_beq_eq_true hb.1) (.inl hlen) true r'.t
          have hv : (R ρ (.opt true r'.v)).v v' := ⟨fun _ => hd.val, fun e => by cases e⟩
          exact ⟨hd.ext, hd.dom, hv, hd.sim, hd.new, hd.inj, hd.frame, hd.size, hd.os, hd.tape, hd.output⟩
    · cases h

theorem stepRes0_stat {P : Program} {env : Env} (henv : EnvOK P env) {ops : List Oper} {tm : List T} {G : Heap} {o : Oper} {r : Res} (h : stepRes0 P env ops tm G o = some r) : Stat G r := by
  unfold stepRes0 at h
  split at h
  · cases h
  · exact opRes_stat henv h
  · split at h
    · rename_i r' hr'
      cases hb : (Nat.beq r'.w 0 && Nat.beq r'.G.length G.length) with
      | false => rw [hb] at h; cases h
      | true =>
        rw [hb] at h
        cases h
        exact Stat.pure _ _ _ _
    · cases h

/-! ### What is taken for granted of a test: told by the temporary that holds it, and owed as a condition. -/

def symOf : List (Nat × Bool) → Operand → Option Bool
  | (t, b) :: r, .tmp t' => bif Nat.beq t t' then some b else symOf r (.tmp t')
  | _, _ => none

def symD (sy : List (Nat × Bool)) : Option Tmp → Option Bool
  | some d => symOf sy (.tmp d)
  | none => none

def assumeT (sy : List (Nat × Bool)) (d : Option Tmp) (r : Res) : Option Res :=
  match symD sy d with
  | none => some r
  | some b => match r.v with
    | .bool t => some ⟨r.vc && (t == b), .bool b, r.G, r.t, r.w⟩
    | .opt g (.bool t) => some ⟨r.vc && ((t == b) || !g), .opt g (.bool b), r.G, r.t, r.w⟩
    | _ => none

theorem assumeT_spec {sy : List (Nat × Bool)} {d : Option Tmp} {r r' : Res} (h : assumeT sy d r = some r') : r'.G = r.G ∧ r'.t = r.t ∧ r'.w = r.w ∧ (r'.vc = true → r.vc = true ∧ ∀ ρ x, (R ρ r.v).v x → (R ρ r'.v).v x) := by
  unfold assumeT at h
  split at h
  · cases h; exact ⟨rfl, rfl, rfl, fun h => ⟨h, fun _ _ h => h⟩⟩
  · rename_i b hb
    split at h
    · rename_i t ht
      cases h
      refine ⟨rfl, rfl, rfl, fun hv => ?_⟩
      simp only [Bool.and_eq_true, beq_iff_eq] at hv
      obtain ⟨h1, rfl⟩ := hv
      exact ⟨h1, fun ρ x hx => by rw [ht] at hx; exact hx⟩
    · rename_i g t ht
      cases h
      refine ⟨rfl, rfl, rfl, fun hv => ?_⟩
      simp only [Bool.and_eq_true, Bool.or_eq_true, beq_iff_eq, Bool.not_eq_true'] at hv
      obtain ⟨h1, h2⟩ := hv
      refine ⟨h1, fun ρ x hx => ?_⟩
      rw [ht] at hx
      rcases h2 with rfl | rfl
      · exact hx
      · exact ⟨fun e => (by cases e), hx.2⟩
    · cases h

def stepRes (P : Program) (env : Env) (sy : List (Nat × Bool)) (ops : List Oper) (tm : List T) (G : Heap) (o : Oper) : Option Res :=
  match stepRes0 P env ops tm G o with
  | some r => assumeT sy o.dst r
  | none => none

theorem stepRes_sound {P : Program} {env : Env} (henv : EnvOK P env) {sy : List (Nat × Bool)} {ops : Array Oper} {tm : List T} {G : Heap} {o : Oper} {r : Res} {ρ : Rho} {a : Act} {w : World}
    (h : stepRes P env sy ops.toList tm G o = some r) (hvc : r.vc = true) (hr : ∀ t ∈ reads ops.toList o, (R ρ (tget tm t)).v (a.tmps.getD t undef))
    (hsim : Sim (bitK r.t) ρ G w) (hf : fresh ρ G.length r.G.length) :
    (Region.wanted o (yielded ops a.tmps) = true ∧ OpOK P a.eval o ρ G w r) ∨ (Region.wanted o (yielded ops a.tmps) = false ∧ ∃ ρ', Post ρ ρ' G w r undef w) := by
  unfold stepRes at h
  split at h
  · rename_i r0 h0
    obtain ⟨e1, e2, e3, h2⟩ := assumeT_spec h
    obtain ⟨hv0, hR⟩ := h2 hvc
    have conv : ∀ {ρ' : Rho} {v' : Value} {w' : World}, Post ρ ρ' G w r0 v' w' → Post ρ ρ' G w r v' w' := fun hp =>
      ⟨hp.ext, by rw [e1]; exact hp.dom, hR _ _ hp.val, by rw [e1, e3]; exact hp.sim, by rw [e1, e3]; exact hp.new, by rw [e1]; exact hp.inj, by rw [e3]; exact hp.frame, hp.size, hp.os, hp.tape, hp.output⟩
    rcases stepRes0_sound henv h0 hv0 hr (by rw [← e2]; exact hsim) (by rw [← e1]; exact hf) with ⟨hw, hok⟩ | ⟨hw, ρ', hp⟩
    · refine .inl ⟨hw, ?_⟩
      unfold OpOK at hok ⊢
      exact Lands.mono (fun v' w' ⟨ρ', hp⟩ => ⟨ρ', conv hp⟩) hok
    · exact .inr ⟨hw, ρ', conv hp⟩
  · cases h

theorem stepRes_stat {P : Program} {env : Env} (henv : EnvOK P env) {sy : List (Nat × Bool)} {ops : List Oper} {tm : List T} {G : Heap} {o : Oper} {r : Res} (h : stepRes P env sy ops tm G o = some r) : Stat G r := by
  unfold stepRes at h
  split at h
  · rename_i r0 h0
    obtain ⟨e1, e2, e3, _⟩ := assumeT_spec h
    have := stepRes0_stat henv h0
    exact ⟨by rw [e1]; exact this.len, by rw [e2, e3]; exact this.wt, by rw [e1, e3]; exact this.old⟩
  · cases h

end
end Go.AE

/-! The abstract evaluator: regions, in the order of the text and in any order. No condition. -/
namespace Go.AE
open Go
noncomputable section

def evOps (P : Program) (env : Env) (sy : List (Nat × Bool)) (ops : List Oper) : List Oper → List T → Heap → Option (List Res)
  | [], _, _ => some []
  | o :: os, tm, G => match stepRes P env sy ops tm G o with
    | none => none
    | some r => match evOps P env sy ops os (setD tm o.dst r.v) r.G with
      | none => none
      | some l => some (r :: l)

def stTm : List Oper → List Res → List T → Nat → List T
  | o :: os, r :: rs, tm, i + 1 => stTm os rs (setD tm o.dst r.v) i
  | _, _, tm, _ => tm
def stG : List Res → Heap → Nat → Heap
  | r :: rs, _, i + 1 => stG rs r.G i
  | _, G, _ => G

theorem evOps_len {P : Program} {env : Env} {sy : List (Nat × Bool)} {ops : List Oper} : ∀ {os : List Oper} {tm : List T} {G : Heap} {rs : List Res}, evOps P env sy ops os tm G = some rs → rs.length = os.length
  | [], _, _, _, h => by cases h; rfl
  | o :: os, tm, G, rs, h => by
    simp only [evOps] at h
    split at h
    · cases h
    · split at h
      · cases h
      · rename_i l hl
        cases h
        simp [evOps_len hl]

theorem evOps_at {P : Program} {env : Env} {sy : List (Nat × Bool)} {ops : List Oper} : ∀ {os : List Oper} {tm : List T} {G : Heap} {rs : List Res}, evOps P env sy ops os tm G = some rs → ∀ (i : Nat) (o : Oper), os[i]? = some o →
    ∃ r, rs[i]? = some r ∧ stepRes P env sy ops (stTm os rs tm i) (stG rs G i) o = some r ∧ stTm os rs tm (i + 1) = setD (stTm os rs tm i) o.dst r.v ∧ stG rs G (i + 1) = r.G
  | [], _, _, _, _, i, o, ho => by simp at ho
  | o' :: os, tm, G, rs, h, i, o, ho => by
    simp only [evOps] at h
    split at h
    · cases h
    · rename_i r hr
      split at h
      · cases h
      · rename_i l hl
        cases h
        cases i with
        | zero =>
          simp at ho
          subst ho
          refine ⟨r, rfl, hr, ?_, ?_⟩
          · cases os <;> cases l <;> rfl
          · cases l <;> rfl
        | succ i =>
          obtain ⟨r', h1, h2, h3, h4⟩ := evOps_at hl i o (by simpa using ho)
          exact ⟨r', by simpa using h1, h2, h3, h4⟩

/-! ### Which write was last -/
section last
variable {α : Type} (C : Nat → Nat → α) (Wr : Nat → Nat → Prop) [∀ i l, Decidable (Wr i l)]

def lastW (L : Nat → Bool) (l : Nat) : Nat → Nat
  | 0 => 0
  | i + 1 => if L i = true ∧ Wr i l then i + 1 else lastW L l i

def cont (L : Nat → Bool) (n l : Nat) : α := C (lastW Wr L l n) l

variable {C Wr}

theorem cont_le {L : Nat → Bool} {l n : Nat} : lastW Wr L l n ≤ n := by
  induction n with
  | zero => exact Nat.le_refl _
  | succ n ih => simp only [lastW]; split <;> omega

theorem cont_read (hC : ∀ j l, ¬Wr j l → C (j + 1) l = C j l) {L : Nat → Bool} {l i n : Nat} (h1 : ∀ j, j < i → Wr j l → L j = true) (h2 : ∀ j, i ≤ j → j < n → L j = true → ¬Wr j l) (hi : i ≤ n) :
    cont C Wr L n l = C i l := by
  have low : ∀ m, m ≤ i → cont C Wr L m l = C m l := by
    intro m
    induction m with
    | zero => intro _; rfl
    | succ m ih =>
      intro hm
      unfold cont
      simp only [lastW]
      by_cases hw : Wr m l
      · rw [if_pos ⟨h1 m (by omega) hw, hw⟩]
      · rw [if_neg (fun e => hw e.2), hC m l hw]
        exact ih (by omega)
  have high : ∀ d, i + d ≤ n → cont C Wr L (i + d) l = cont C Wr L i l := by
    intro d
    induction d with
    | zero => intro _; rfl
    | succ d ih =>
      intro hd
      rw [← ih (by omega)]
      unfold cont
      rw [show i + (d + 1) = i + d + 1 by omega]
      simp only [lastW]
      rw [if_neg (fun e => h2 (i + d) (by omega) (by omega) e.1 e.2)]
  have := high (n - i) (by omega)
  rw [show i + (n - i) = n by omega] at this
  rw [this, low i (Nat.le_refl _)]

theorem cont_other {L L' : Nat → Bool} {l n : Nat} (h : ∀ j, j < n → Wr j l → L' j = L j) : cont C Wr L' n l = cont C Wr L n l := by
  have : lastW Wr L' l n = lastW Wr L l n := by
    induction n with
    | zero => rfl
    | succ n ih =>
      simp only [lastW]
      rw [ih (fun j hj hw => h j (by omega) hw)]
      by_cases hw : Wr n l
      · rw [h n (by omega) hw]
      · rw [if_neg (fun e => hw e.2), if_neg (fun e => hw e.2)]
  unfold cont
  rw [this]

theorem cont_new {L : Nat → Bool} {l i n : Nat} (hi : i < n) (hL : L i = true) (hw : Wr i l) (h : ∀ j, i < j → j < n → L j = true → ¬Wr j l) : cont C Wr L n l = C (i + 1) l := by
  have high : ∀ d, i + 1 + d ≤ n → lastW Wr L l (i + 1 + d) = i + 1 := by
    intro d
    induction d with
    | zero => intro _; simp only [Nat.add_zero, lastW]; rw [if_pos ⟨hL, hw⟩]
    | succ d ih =>
      intro hd
      rw [show i + 1 + (d + 1) = i + 1 + d + 1 by omega]
      simp only [lastW]
      rw [if_neg (fun e => h (i + 1 + d) (by omega) (by omega) e.1 e.2)]
      exact ih (by omega)
  have := high (n - (i + 1)) (by omega)
  rw [show i + 1 + (n - (i + 1)) = n by omega] at this
  unfold cont
  rw [this]

end last

/-! ### Any order -/

structure Run (P : Program) (env : Env) where
  sy : List (Nat × Bool)
  ops : Array Oper
  tm0 : List T
  G0 : Heap
  rs : List Res
  ok : evOps P env sy ops.toList ops.toList tm0 G0 = some rs

variable {P : Program} {env : Env}

def Run.n (U : Run P env) : Nat := U.ops.toList.length
def Run.Tm (U : Run P env) (i t : Nat) : T := tget (stTm U.ops.toList U.rs U.tm0 i) t
def Run.G (U : Run P env) (i : Nat) : Heap := stG U.rs U.G0 i
def Run.H (U : Run P env) (i k : Nat) : Option T := hget (U.G i) k
def Run.r (U : Run P env) (i : Nat) : Res := U.rs.getD i ⟨true, .any, U.G i, 0, 0⟩
def Run.wT (U : Run P env) (i t : Nat) : Prop := (U.ops.toList[i]?).bind (·.dst) = some t
def Run.wH (U : Run P env) (i k : Nat) : Prop := i < U.n ∧ ((k < (U.G i).length ∧ (U.r i).w.testBit k = true) ∨ ((U.G i).length ≤ k ∧ k < (U.G (i + 1)).length))
def Run.rT (U : Run P env) (i t : Nat) : Prop := ∃ o, U.ops.toList[i]? = some o ∧ t ∈ reads U.ops.toList o
instance (U : Run P env) (i t : Nat) : Decidable (U.wT i t) := by unfold Run.wT; infer_instance
instance (U : Run P env) (i t : Nat) : Decidable (U.wH i t) := by unfold Run.wH; infer_instance

theorem Run.at (U : Run P env) {i : Nat} {o : Oper} (h : U.ops.toList[i]? = some o) :
    stepRes P env U.sy U.ops.toList (stTm U.ops.toList U.rs U.tm0 i) (U.G i) o = some (U.r i) ∧ stTm U.ops.toList U.rs U.tm0 (i + 1) = setD (stTm U.ops.toList U.rs U.tm0 i) o.dst (U.r i).v ∧ U.G (i + 1) = (U.r i).G := by
  obtain ⟨r, h1, h2, h3, h4⟩ := evOps_at U.ok i o h
  have : U.r i = r := by simp [Run.r, h1]
  rw [this]
  exact ⟨h2, h3, h4⟩

theorem Run.stat (henv : EnvOK P env) (U : Run P env) {i : Nat} (hi : i < U.n) : Stat (U.G i) (U.r i) := by
  obtain ⟨o, ho⟩ : ∃ o, U.ops.toList[i]? = some o := ⟨_, List.getElem?_eq_getElem hi⟩
  exact stepRes_stat henv (U.at ho).1

theorem Run.G_succ (U : Run P env) {i : Nat} (hi : i < U.n) : U.G (i + 1) = (U.r i).G := by
  obtain ⟨o, ho⟩ : ∃ o, U.ops.toList[i]? = some o := ⟨_, List.getElem?_eq_getElem hi⟩
  exact (U.at ho).2.2

theorem stG_end : ∀ (rs : List Res) (G : Heap) (i : Nat), rs.length ≤ i → stG rs G (i + 1) = stG rs G i
  | [], _, i, _ => by cases i <;> rfl
  | r :: rs, G, 0, h => by simp at h
  | r :: rs, G, i + 1, h => by simp only [stG]; exact stG_end rs r.G i (by simpa using h)

theorem stTm_end : ∀ (os : List Oper) (rs : List Res) (tm : List T) (i : Nat), os.length ≤ i → stTm os rs tm (i + 1) = stTm os rs tm i
  | [], _, _, i, _ => by cases i <;> rfl
  | o :: os, [], _, i, _ => by cases i <;> rfl
  | o :: os, r :: rs, tm, 0, h => by simp at h
  | o :: os, r :: rs, tm, i + 1, h => by simp only [stTm]; exact stTm_end os rs _ i (by simpa using h)

theorem Run.rs_len (U : Run P env) : U.rs.length = U.n := evOps_len U.ok

theorem Run.len_mono (henv : EnvOK P env) (U : Run P env) (i : Nat) : (U.G i).length ≤ (U.G (i + 1)).length := by
  by_cases hi : i < U.n
  · rw [U.G_succ hi]; exact (U.stat henv hi).len
  · unfold Run.G; rw [stG_end _ _ _ (by rw [U.rs_len]; omega)]; exact Nat.le_refl _

theorem Run.len_le (henv : EnvOK P env) (U : Run P env) {i j : Nat} (h : i ≤ j) : (U.G i).length ≤ (U.G j).length := by
  induction h with
  | refl => exact Nat.le_refl _
  | step _ ih => exact Nat.le_trans ih (U.len_mono henv _)

theorem Run.H_keep (henv : EnvOK P env) (U : Run P env) (j k : Nat) (h : ¬U.wH j k) : U.H (j + 1) k = U.H j k := by
  by_cases hi : j < U.n
  · have hs := U.stat henv hi
    unfold Run.H
    rw [U.G_succ hi]
    by_cases hk : k < (U.G j).length
    · refine hs.old k hk ?_
      cases hb : (U.r j).w.testBit k
      · rfl
      · exact absurd ⟨hi, .inl ⟨hk, hb⟩⟩ h
    · have hk' : (U.G (j + 1)).length ≤ k := by
        rcases Nat.lt_or_ge k (U.G (j + 1)).length with h1 | h1
        · exact absurd ⟨hi, .inr ⟨by omega, h1⟩⟩ h
        · exact h1
      rw [U.G_succ hi] at hk'
      have e1 : hget (U.r j).G k = none := by
        cases he : hget (U.r j).G k with
        | none => rfl
        | some t => have := hget_lt he; omega
      have e2 : hget (U.G j) k = none := by
        cases he : hget (U.G j) k with
        | none => rfl
        | some t => have := hget_lt he; omega
      rw [e1, e2]
  · unfold Run.H Run.G
    rw [stG_end _ _ _ (by rw [U.rs_len]; omega)]

theorem Run.Tm_keep (U : Run P env) (j t : Nat) (h : ¬U.wT j t) : U.Tm (j + 1) t = U.Tm j t := by
  unfold Run.Tm
  cases ho : U.ops.toList[j]? with
  | none =>
    rw [stTm_end _ _ _ _ (by simpa using ho)]
  | some o =>
    rw [(U.at ho).2.1]
    cases hd : o.dst with
    | none => rfl
    | some d =>
      have : t ≠ d := fun e => h (by unfold Run.wT; rw [ho]; simp [hd, e])
      exact tget_tset_ne _ this

theorem stTm_len : ∀ (os : List Oper) (rs : List Res) (tm : List T) (i : Nat), (stTm os rs tm i).length = tm.length
  | [], _, _, i => by cases i <;> rfl
  | _ :: _, [], _, i => by cases i <;> rfl
  | o :: os, r :: rs, tm, 0 => rfl
  | o :: os, r :: rs, tm, i + 1 => by simp only [stTm]; rw [stTm_len os rs _ i, setD_len]

/-- No two of these operations meet. -/
structure Apart (U : Run P env) (i j : Nat) : Prop where
  rt : ∀ t, U.rT i t → ¬U.wT j t
  wt : ∀ t, U.wT i t → ¬U.wT j t
  rh : ∀ k, (U.r i).t.testBit k = true → ¬U.wH j k
  wh : ∀ k, U.wH i k → ¬U.wH j k

structure Inv (U : Run P env) (K : Nat → Prop) (ρS : Rho) (wS : World) (dS : List Deferred) (m : Nat) (L : Nat → Bool) (ρ : Rho) (a : Act) (w : World) : Prop where
  sz : a.tmps.size = m
  dfr : a.defers = dS
  tm : ∀ t, (R ρ (cont U.Tm U.wT L U.n t)).v (a.tmps.getD t undef)
  ext : ρS.Ext ρ
  dom : ∀ k, ρ k = ρS k ∨ ∃ i, L i = true ∧ i < U.n ∧ (U.G i).length ≤ k ∧ k < (U.G (i + 1)).length
  blk : ∀ k t, K k ∨ U.G0.length ≤ k → cont U.H U.wH L U.n k = some t → ∃ p, ρ k = some p ∧ Blk ρ t p w
  inj : ∀ k k' t t' p p', K k ∨ U.G0.length ≤ k → K k' ∨ U.G0.length ≤ k' → cont U.H U.wH L U.n k = some t → cont U.H U.wH L U.n k' = some t' → ρ k = some p → ρ k' = some p' → p.1 = p'.1 → k = k'
  frame : ∀ b, b < wS.heap.size → (∀ k p i, k < U.G0.length → L i = true → U.wH i k → ρS k = some p → p.1 ≠ b) → w.heap[b]? = wS.heap[b]?
  new : ∀ k t p, U.G0.length ≤ k → cont U.H U.wH L U.n k = some t → ρ k = some p → wS.heap.size ≤ p.1 ∨ ∃ j q i, j < U.G0.length ∧ L i = true ∧ U.wH i j ∧ cont U.H U.wH L U.n j = none ∧ ρS j = some q ∧ q.1 = p.1
  size : wS.heap.size ≤ w.heap.size
  os : w.os = wS.os
  tape : w.tape = wS.tape
  output : w.output = wS.output

def add (L : Nat → Bool) (i : Nat) : Nat → Bool := fun j => if j = i then true else L j

theorem getD_put {a : Act} {d : Tmp} {v : Value} (t : Nat) : (a.put (some d) v).tmps.getD t undef = if t = d ∧ d < a.tmps.size then v else a.tmps.getD t undef := by
  simp only [Act.put, Array.getD_eq_getD_getElem?, Array.getElem?_setIfInBounds]
  by_cases h1 : d = t
  · subst h1
    by_cases h2 : d < a.tmps.size
    · simp [h2]
    · simp [h2]
  · have : ¬ t = d := fun e => h1 e.symm
    simp [h1, this]

theorem Inv.step (henv : EnvOK P env) {U : Run P env} {K : Nat → Prop} {ρS : Rho} {wS : World} {dS : List Deferred} {L : Nat → Bool} {ρ : Rho} {a : Act} {w : World} {i : Nat} {o : Oper}
    (ho : U.ops.toList[i]? = some o) (hL : L i = false) (hsafe1 : ∀ j, j < i → L j = false → Apart U i j) (hsafe2 : ∀ j, i < j → j < U.n → L j = true → Apart U i j)
    (hvc : (U.r i).vc = true) (hK : ∀ k, k < U.G0.length → (U.r i).t.testBit k = true → K k) (hfr : ∀ k, U.G0.length ≤ k → k < (U.G U.n).length → ρS k = none)
    (hI : Inv U K ρS wS dS U.tm0.length L ρ a w) {Kt : Act → World → Prop} {Q : Exit → Act → World → Prop}
    (next : ∀ ρ' a' w', Inv U K ρS wS dS U.tm0.length (add L i) ρ' a' w' → Kt a' w') :
    wpOp P U.ops Q i Kt a w := by
  have hi : i < U.n := (List.getElem?_eq_some_iff.1 ho).1
  obtain ⟨hst, htm, hG⟩ := U.at ho
  have hstat := U.stat henv hi
  have hmono := U.len_mono henv i
  have h0 : U.G0.length ≤ (U.G i).length := by
    have e : U.G 0 = U.G0 := by unfold Run.G; cases U.rs <;> rfl
    rw [← e]; exact U.len_le henv (Nat.zero_le _)
  have hn : (U.G (i + 1)).length ≤ (U.G U.n).length := U.len_le henv hi
  have notself : ∀ j, i ≤ j → j < U.n → L j = true → i < j := fun j h1 _ h2 => by
    rcases Nat.lt_or_ge i j with h | h
    · exact h
    · have : j = i := by omega
      rw [this, hL] at h2; cases h2
  -- what it reads is as the text has it
  have hreadT : ∀ t, U.rT i t → cont U.Tm U.wT L U.n t = U.Tm i t := fun t ht =>
    cont_read (fun j l h => U.Tm_keep j l h) (fun j hj hw => by
      cases e : L j
      · exact absurd hw ((hsafe1 j hj e).rt t ht)
      · rfl) (fun j h1 h2 h3 => (hsafe2 j (notself j h1 h2 h3) h2 h3).rt t ht) (Nat.le_of_lt hi)
  have hreadH : ∀ k, (U.r i).t.testBit k = true → cont U.H U.wH L U.n k = U.H i k := fun k hk =>
    cont_read (fun j l h => U.H_keep henv j l h) (fun j hj hw => by
      cases e : L j
      · exact absurd hw ((hsafe1 j hj e).rh k hk)
      · rfl) (fun j h1 h2 h3 => (hsafe2 j (notself j h1 h2 h3) h2 h3).rh k hk) (Nat.le_of_lt hi)
  have hin : ∀ k, (U.r i).t.testBit k = true → K k ∨ U.G0.length ≤ k := fun k hk => by
    rcases Nat.lt_or_ge k U.G0.length with h | h
    · exact .inl (hK k h hk)
    · exact .inr h
  have hsim : Sim (bitK (U.r i).t) ρ (U.G i) w := {
    blk := fun k t hk hg => hI.blk k t (hin k hk) ((hreadH k hk).trans hg)
    inj := fun k k' t t' p p' hk hk' hg hg' => hI.inj k k' t t' p p' (hin k hk) (hin k' hk') ((hreadH k hk).trans hg) ((hreadH k' hk').trans hg') }
  have hfresh : fresh ρ (U.G i).length (U.r i).G.length := fun k h1 h2 => by
    rw [← hG] at h2
    rcases hI.dom k with e | ⟨j, hj, hjn, h3, h4⟩
    · rw [e]; exact hfr k (by omega) (by omega)
    · exfalso
      have hne : j ≠ i := fun e => by rw [e, hL] at hj; cases hj
      rcases Nat.lt_or_gt_of_ne hne with h | h
      · have := U.len_le henv (show j + 1 ≤ i by omega); omega
      · have := U.len_le henv (show i + 1 ≤ j by omega); omega
  have hw_live : ∀ k, k < (U.G i).length → (U.r i).w.testBit k = true → (U.r i).t.testBit k = true ∧ ∃ t, cont U.H U.wH L U.n k = some t := fun k hk hb => by
    obtain ⟨h1, t, h2⟩ := hstat.wt k hk hb
    exact ⟨h1, t, (hreadH k h1).trans h2⟩
  -- the new state
  have key : ∀ v' w' ρ', Post ρ ρ' (U.G i) w (U.r i) v' w' → Inv U K ρS wS dS U.tm0.length (add L i) ρ' (a.put o.dst v') w' := by
    intro v' w' ρ' hp
    have hLi : add L i i = true := by simp [add]
    have hLj : ∀ j, j ≠ i → add L i j = L j := fun j hj => by simp [add, hj]
    have contT : ∀ t, ¬U.wT i t → cont U.Tm U.wT (add L i) U.n t = cont U.Tm U.wT L U.n t := fun t ht =>
      cont_other fun j _ hw => hLj j fun e => ht (e ▸ hw)
    have contH : ∀ k, ¬U.wH i k → cont U.H U.wH (add L i) U.n k = cont U.H U.wH L U.n k := fun t ht =>
      cont_other fun j _ hw => hLj j fun e => ht (e ▸ hw)
    have contT' : ∀ t, U.wT i t → cont U.Tm U.wT (add L i) U.n t = U.Tm (i + 1) t := fun t ht =>
      cont_new hi hLi ht fun j h1 h2 h3 hw => by
        rw [hLj j (by omega)] at h3
        exact (hsafe2 j h1 h2 h3).wt t ht hw
    have contH' : ∀ k, U.wH i k → cont U.H U.wH (add L i) U.n k = hget (U.r i).G k := fun k hk => by
      rw [cont_new hi hLi hk fun j h1 h2 h3 hw => by
        rw [hLj j (by omega)] at h3
        exact (hsafe2 j h1 h2 h3).wh k hk hw]
      unfold Run.H
      rw [hG]
    have hext : ρS.Ext ρ' := hI.ext.trans hp.ext
    -- a block that was there, and that this operation does not write, is as it was
    have hkeep : ∀ k t p, K k ∨ U.G0.length ≤ k → ¬U.wH i k → cont U.H U.wH L U.n k = some t → ρ k = some p → w'.heap[p.1]? = w.heap[p.1]? := by
      intro k t p hin' hnw hg hr
      obtain ⟨q, hq, hb⟩ := hI.blk k t hin' hg
      rw [hr] at hq
      cases hq
      refine hp.frame p.1 hb.lt fun k2 p2 h1 h2 h3 h4 => ?_
      obtain ⟨h5, t2, h6⟩ := hw_live k2 h1 h2
      have := hI.inj k2 k t2 t p2 p (hin k2 h5) hin' h6 hg h3 hr h4
      subst this
      exact hnw ⟨hi, .inl ⟨h1, h2⟩⟩
    have hwblk : ∀ k t, U.wH i k → hget (U.r i).G k = some t → ∃ p, ρ' k = some p ∧ Blk ρ' t p w' := fun k t hk hg => by
      rcases hk.2 with h | h
      · exact hp.sim k t (.inr h.2) hg
      · exact hp.sim k t (.inl h.1) hg
    refine {
      sz := ?_, dfr := ?_, tm := ?_, ext := hext, dom := ?_, blk := ?_, inj := ?_, frame := ?_, new := ?_, size := Nat.le_trans hI.size hp.size,
      os := hp.os.trans hI.os, tape := hp.tape.trans hI.tape, output := hp.output.trans hI.output }
    · cases o.dst <;> simp [Act.put, hI.sz]
    · cases o.dst <;> simp [Act.put, hI.dfr]
    · intro t
      by_cases hw : U.wT i t
      · rw [contT' t hw]
        have hd : o.dst = some t := by unfold Run.wT at hw; rw [ho] at hw; simpa using hw
        unfold Run.Tm
        rw [htm, hd]
        simp only [setD]
        rw [getD_put]
        by_cases hlt : t < U.tm0.length
        · rw [tget_tset_same _ (by rw [stTm_len]; exact hlt), if_pos ⟨rfl, by rw [hI.sz]; exact hlt⟩]
          exact hp.val
        · rw [tget_out (by rw [tset_len, stTm_len]; omega)]
          trivial
      · rw [contT t hw]
        have : (a.put o.dst v').tmps.getD t undef = a.tmps.getD t undef := by
          cases hd : o.dst with
          | none => rfl
          | some d =>
            rw [getD_put, if_neg]
            rintro ⟨e, _⟩
            exact hw (by unfold Run.wT; rw [ho]; simp [hd, e])
        rw [this]
        exact R_v_mono hp.ext (hI.tm t)
    · intro k
      rcases Nat.lt_or_ge k (U.G i).length with h | h
      · rw [hp.dom k (.inl h)]
        rcases hI.dom k with e | ⟨j, hj, h'⟩
        · exact .inl e
        · exact .inr ⟨j, by rw [hLj j (fun e => by rw [e, hL] at hj; cases hj)]; exact hj, h'⟩
      · rcases Nat.lt_or_ge k (U.G (i + 1)).length with h' | h'
        · exact .inr ⟨i, hLi, hi, h, h'⟩
        · rw [hp.dom k (.inr (by rw [← hG]; exact h'))]
          rcases hI.dom k with e | ⟨j, hj, h'⟩
          · exact .inl e
          · exact .inr ⟨j, by rw [hLj j (fun e => by rw [e, hL] at hj; cases hj)]; exact hj, h'⟩
    · intro k t hin' hg
      by_cases hw : U.wH i k
      · rw [contH' k hw] at hg
        exact hwblk k t hw hg
      · rw [contH k hw] at hg
        obtain ⟨p, hr, hb⟩ := hI.blk k t hin' hg
        exact ⟨p, hp.ext k p hr, (hb.mono hp.ext).same (hkeep k t p hin' hw hg hr)⟩
    · -- no two stand for one block
      have mixed : ∀ k k' t t' p p', K k ∨ U.G0.length ≤ k → K k' ∨ U.G0.length ≤ k' → U.wH i k → ¬U.wH i k' → hget (U.r i).G k = some t → cont U.H U.wH L U.n k' = some t' → ρ' k = some p → ρ' k' = some p' → p.1 = p'.1 → k = k' := by
        intro k k' t t' p p' hin1 hin2 hw hnw hg hg' hr hr' he
        obtain ⟨q', hq', hb'⟩ := hI.blk k' t' hin2 hg'
        have : p' = q' := by have := hp.ext k' q' hq'; rw [hr'] at this; exact Option.some.inj this
        subst this
        rcases hw.2 with h | h
        · obtain ⟨h5, t2, h6⟩ := hw_live k h.1 h.2
          obtain ⟨q, hq, hb⟩ := hI.blk k t2 (hin k h5) h6
          have : p = q := by have := hp.ext k q hq; rw [hr] at this; exact Option.some.inj this
          subst this
          exact hI.inj k k' t2 t' p p' (hin k h5) hin2 h6 hg' hq hq' he
        · rcases hp.new k t p h.1 hg hr with h7 | ⟨j, q, hj1, hj2, hj3, hj4, hj5⟩
          · have := hb'.lt; omega
          · exfalso
            obtain ⟨h5, t2, h6⟩ := hw_live j hj1 hj2
            have := hI.inj j k' t2 t' q p' (hin j h5) hin2 h6 hg' hj4 hq' (hj5.trans he)
            subst this
            exact hnw ⟨hi, .inl ⟨hj1, hj2⟩⟩
      intro k k' t t' p p' hin1 hin2 hg hg' hr hr' he
      by_cases hw : U.wH i k
      · rw [contH' k hw] at hg
        by_cases hw' : U.wH i k'
        · rw [contH' k' hw'] at hg'
          rcases hw.2 with h | h <;> rcases hw'.2 with h' | h'
          · obtain ⟨h5, t2, h6⟩ := hw_live k h.1 h.2
            obtain ⟨h5', t2', h6'⟩ := hw_live k' h'.1 h'.2
            obtain ⟨q, hq, _⟩ := hI.blk k t2 (hin k h5) h6
            obtain ⟨q', hq', _⟩ := hI.blk k' t2' (hin k' h5') h6'
            have e1 : p = q := by have := hp.ext k q hq; rw [hr] at this; exact Option.some.inj this
            have e2 : p' = q' := by have := hp.ext k' q' hq'; rw [hr'] at this; exact Option.some.inj this
            subst e1; subst e2
            exact hI.inj k k' t2 t2' p p' (hin k h5) (hin k' h5') h6 h6' hq hq' he
          · obtain ⟨h5, t2, h6⟩ := hw_live k h.1 h.2
            obtain ⟨q, hq, hb⟩ := hI.blk k t2 (hin k h5) h6
            have e1 : p = q := by have := hp.ext k q hq; rw [hr] at this; exact Option.some.inj this
            subst e1
            rcases hp.new k' t' p' h'.1 hg' hr' with h7 | ⟨j, q, hj1, hj2, hj3, hj4, hj5⟩
            · have := hb.lt; omega
            · exfalso
              obtain ⟨h8, t3, h9⟩ := hw_live j hj1 hj2
              have := hI.inj k j t2 t3 p q (hin k h5) (hin j h8) h6 h9 hq hj4 (he.trans hj5.symm)
              subst this
              rw [hj3] at hg; cases hg
          · obtain ⟨h5, t2, h6⟩ := hw_live k' h'.1 h'.2
            obtain ⟨q, hq, hb⟩ := hI.blk k' t2 (hin k' h5) h6
            have e1 : p' = q := by have := hp.ext k' q hq; rw [hr'] at this; exact Option.some.inj this
            subst e1
            rcases hp.new k t p h.1 hg hr with h7 | ⟨j, q, hj1, hj2, hj3, hj4, hj5⟩
            · have := hb.lt; omega
            · exfalso
              obtain ⟨h8, t3, h9⟩ := hw_live j hj1 hj2
              have := hI.inj k' j t2 t3 p' q (hin k' h5) (hin j h8) h6 h9 hq hj4 (he.symm.trans hj5.symm)
              subst this
              rw [hj3] at hg'; cases hg'
          · exact hp.inj k k' t t' p p' h.1 h'.1 hg hg' hr hr' he
        · rw [contH k' hw'] at hg'
          exact mixed k k' t t' p p' hin1 hin2 hw hw' hg hg' hr hr' he
      · rw [contH k hw] at hg
        by_cases hw' : U.wH i k'
        · rw [contH' k' hw'] at hg'
          exact (mixed k' k t' t p' p hin2 hin1 hw' hw hg' hg hr' hr he.symm).symm
        · rw [contH k' hw'] at hg'
          obtain ⟨q, hq, _⟩ := hI.blk k t hin1 hg
          obtain ⟨q', hq', _⟩ := hI.blk k' t' hin2 hg'
          have e1 : p = q := by have := hp.ext k q hq; rw [hr] at this; exact Option.some.inj this
          have e2 : p' = q' := by have := hp.ext k' q' hq'; rw [hr'] at this; exact Option.some.inj this
          subst e1; subst e2
          exact hI.inj k k' t t' p p' hin1 hin2 hg hg' hq hq' he
    · intro b hb hne
      rw [← hI.frame b hb fun k p j h1 h2 h3 h4 => hne k p j h1 (by
        by_cases e : j = i
        · rw [e]; exact hLi
        · rw [hLj j e]; exact h2) h3 h4]
      refine hp.frame b (Nat.lt_of_lt_of_le hb hI.size) fun k p h1 h2 h3 h4 => ?_
      obtain ⟨h5, t2, h6⟩ := hw_live k h1 h2
      rcases Nat.lt_or_ge k U.G0.length with hk | hk
      · have hρ : ρS k = some p := by
          rcases hI.dom k with e | ⟨j, _, _, h7, _⟩
          · rw [← e]; exact h3
          · have : U.G0.length ≤ (U.G j).length := by
              have e : U.G 0 = U.G0 := by unfold Run.G; cases U.rs <;> rfl
              rw [← e]; exact U.len_le henv (Nat.zero_le _)
            omega
        exact hne k p i hk hLi ⟨hi, .inl ⟨h1, h2⟩⟩ hρ h4
      · rcases hI.new k t2 p hk h6 h3 with h7 | ⟨j, q, i', hj1, hj2, hj3, hj4, hj5, hj6⟩
        · omega
        · exact hne j q i' hj1 (by
            by_cases e : i' = i
            · rw [e]; exact hLi
            · rw [hLj i' e]; exact hj2) hj3 hj5 (hj6.trans h4)
    · intro k t p hk hg hr
      -- dead ones stay dead
      have dead : ∀ j, j < U.G0.length → (∃ i', L i' = true ∧ U.wH i' j) → cont U.H U.wH L U.n j = none → cont U.H U.wH (add L i) U.n j = none := by
        intro j _ _ hd
        by_cases hw : U.wH i j
        · exfalso
          rcases hw.2 with h | h
          · obtain ⟨_, t2, h6⟩ := hw_live j h.1 h.2
            rw [h6] at hd; cases hd
          · omega
        · rw [contH j hw]; exact hd
      have up : ∀ i', L i' = true → add L i i' = true := fun i' h => by
        by_cases e : i' = i
        · rw [e]; exact hLi
        · rw [hLj i' e]; exact h
      by_cases hw : U.wH i k
      · rw [contH' k hw] at hg
        rcases hw.2 with h | h
        · obtain ⟨h5, t2, h6⟩ := hw_live k h.1 h.2
          obtain ⟨q, hq, _⟩ := hI.blk k t2 (hin k h5) h6
          have e1 : p = q := by have := hp.ext k q hq; rw [hr] at this; exact Option.some.inj this
          subst e1
          rcases hI.new k t2 p hk h6 hq with h7 | ⟨j, q, i', hj1, hj2, hj3, hj4, hj5, hj6⟩
          · exact .inl h7
          · exact .inr ⟨j, q, i', hj1, up i' hj2, hj3, dead j hj1 ⟨i', hj2, hj3⟩ hj4, hj5, hj6⟩
        · rcases hp.new k t p h.1 hg hr with h7 | ⟨j, q, hj1, hj2, hj3, hj4, hj5⟩
          · exact .inl (Nat.le_trans hI.size h7)
          · obtain ⟨h5, t2, h6⟩ := hw_live j hj1 hj2
            have hwj : U.wH i j := ⟨hi, .inl ⟨hj1, hj2⟩⟩
            rcases Nat.lt_or_ge j U.G0.length with hj0 | hj0
            · have hρ : ρS j = some q := by
                rcases hI.dom j with e | ⟨j', _, _, h7, _⟩
                · rw [← e]; exact hj4
                · have : U.G0.length ≤ (U.G j').length := by
                    have e : U.G 0 = U.G0 := by unfold Run.G; cases U.rs <;> rfl
                    rw [← e]; exact U.len_le henv (Nat.zero_le _)
                  omega
              exact .inr ⟨j, q, i, hj0, hLi, hwj, by rw [contH' j hwj]; exact hj3, hρ, hj5⟩
            · rcases hI.new j t2 q hj0 h6 hj4 with h7 | ⟨j2, q2, i2, hj21, hj22, hj23, hj24, hj25, hj26⟩
              · exact .inl (by omega)
              · exact .inr ⟨j2, q2, i2, hj21, up i2 hj22, hj23, dead j2 hj21 ⟨i2, hj22, hj23⟩ hj24, hj25, hj26.trans hj5⟩
      · rw [contH k hw] at hg
        obtain ⟨q, hq, _⟩ := hI.blk k t (.inr hk) hg
        have e1 : p = q := by have := hp.ext k q hq; rw [hr] at this; exact Option.some.inj this
        subst e1
        rcases hI.new k t p hk hg hq with h7 | ⟨j, q, i', hj1, hj2, hj3, hj4, hj5, hj6⟩
        · exact .inl h7
        · exact .inr ⟨j, q, i', hj1, up i' hj2, hj3, dead j hj1 ⟨i', hj2, hj3⟩ hj4, hj5, hj6⟩
  have hreads : ∀ t ∈ reads U.ops.toList o, (R ρ (tget (stTm U.ops.toList U.rs U.tm0 i) t)).v (a.tmps.getD t undef) := fun t ht => by
    have := hI.tm t
    rw [hreadT t ⟨o, ho, ht⟩] at this
    exact this
  have ho' : U.ops[i]? = some o := by simpa using ho
  unfold wpOp
  simp only [ho']
  rcases stepRes_sound henv (a := a) hst hvc hreads hsim hfresh with ⟨hw, hok⟩ | ⟨hw, ρ', hp⟩
  · rw [if_pos hw]
    refine .inl ?_
    unfold Oper.wp
    unfold OpOK at hok
    generalize (execOp a.eval o).run P w = res at hok
    unfold Lands at hok
    unfold Oper.upon
    split at hok
    · obtain ⟨ρ', hp⟩ := hok
      exact next ρ' _ _ (key _ _ _ hp)
    · obtain ⟨ρ', hp⟩ := hok
      exact next ρ' _ _ (key _ _ _ hp)
    · refine Calls.mono hok ?_
      rintro e w'' ⟨v, rfl, ρ', hp⟩
      exact next ρ' _ _ (key _ _ _ hp)
    · exact hok.elim
  · rw [if_neg (by simp [hw])]
    exact next ρ' _ _ (key _ _ _ hp)

end
end Go.AE

/-! The abstract evaluator: a whole region. No condition. -/
namespace Go.AE
open Go
noncomputable section

variable {P : Program} {env : Env}

theorem wpOps_range (U : Run P env) {Q : Exit → Act → World → Prop} (I : (Nat → Bool) → Act → World → Prop)
    (step : ∀ i L a w (Kt : Act → World → Prop), i < U.n → (∀ j, L j = decide (j < i)) → I L a w → (∀ a' w', I (add L i) a' w' → Kt a' w') → wpOp P U.ops Q i Kt a w)
    (fin : ∀ L a w, (∀ j, j < U.n → L j = true) → I L a w → Q .normal a w) :
    ∀ d i L a w, i + d = U.n → (∀ j, L j = decide (j < i)) → I L a w → wpOps P U.ops Q ((List.range U.n).drop i) a w := by
  intro d
  induction d with
  | zero =>
    intro i L a w hd hL hI
    rw [List.drop_eq_nil_of_le (by simp; omega)]
    exact fin L a w (fun j hj => by rw [hL]; simp; omega) hI
  | succ d ih =>
    intro i L a w hd hL hI
    have : (List.range U.n).drop i = i :: (List.range U.n).drop (i + 1) := by
      rw [List.drop_eq_getElem_cons (by simp; omega)]
      simp
    rw [this, wpOps_cons]
    exact step i L a w _ (by omega) hL hI fun a' w' hI' => ih (i + 1) (add L i) a' w' (by omega) (fun j => by
      simp only [add]
      split
      · simp; omega
      · rw [hL]; simp only [decide_eq_decide]; omega) hI'

def idle : Nat → Bool := fun _ => false

/-- The state at a region's head. -/
theorem Inv.init {U : Run P env} {K : Nat → Prop} {ρ : Rho} {a : Act} {w : World} (hsz : a.tmps.size = U.tm0.length) (htm : ∀ t, (R ρ (tget U.tm0 t)).v (a.tmps.getD t undef)) (hsim : Sim (fun k => K k ∨ U.G0.length ≤ k) ρ U.G0 w) :
    Inv U K ρ w a.defers U.tm0.length idle ρ a w := by
  have hlast : ∀ (Wr : Nat → Nat → Prop) [∀ i l, Decidable (Wr i l)] l n, lastW Wr idle l n = 0 := by
    intro Wr _ l n
    induction n with
    | zero => rfl
    | succ n ih => simp only [lastW]; rw [if_neg (by simp [idle])]; exact ih
  have hT : ∀ t, cont U.Tm U.wT idle U.n t = tget U.tm0 t := fun t => by
    unfold cont; rw [hlast]
    unfold Run.Tm
    cases U.ops.toList <;> cases U.rs <;> rfl
  have hH : ∀ k, cont U.H U.wH idle U.n k = hget U.G0 k := fun k => by
    unfold cont; rw [hlast]
    unfold Run.H Run.G
    cases U.rs <;> rfl
  exact {
    sz := hsz
    dfr := rfl
    tm := fun t => by rw [hT]; exact htm t
    ext := Rho.Ext.refl ρ
    dom := fun k => .inl rfl
    blk := fun k t hk hg => hsim.blk k t hk (by rw [← hH]; exact hg)
    inj := fun k k' t t' p p' hk hk' hg hg' => hsim.inj k k' t t' p p' hk hk' (by rw [← hH]; exact hg) (by rw [← hH]; exact hg')
    frame := fun _ _ _ => rfl
    new := fun k t p hk hg => by
      rw [hH] at hg
      have := hget_lt hg
      omega
    size := Nat.le_refl _
    os := rfl
    tape := rfl
    output := rfl }

/-- What all operations have done. -/
def vcAll : List Res → Bool
  | [] => true
  | r :: rs => r.vc && vcAll rs
/-- The same, the latest first: conditions that are true by sight fall away. -/
def vcAcc : List Res → Bool → Bool
  | [], b => b
  | r :: rs, b => vcAcc rs (r.vc && b)
theorem vcAcc_eq : ∀ (rs : List Res) (b : Bool), vcAcc rs b = (b && vcAll rs)
  | [], b => by simp [vcAcc, vcAll]
  | r :: rs, b => by simp only [vcAcc, vcAll, vcAcc_eq rs]; cases r.vc <;> cases b <;> simp
def tAll : List Res → Nat
  | [] => 0
  | r :: rs => r.t ||| tAll rs
def wAll : List Res → Nat
  | [] => 0
  | r :: rs => r.w ||| wAll rs

theorem vcAll_at : ∀ {rs : List Res}, vcAll rs = true → ∀ (i : Nat) (r : Res), rs[i]? = some r → r.vc = true
  | r :: rs, h, 0, r', hr => by simp at hr; subst hr; simp only [vcAll, Bool.and_eq_true] at h; exact h.1
  | r :: rs, h, i + 1, r', hr => by simp only [vcAll, Bool.and_eq_true] at h; exact vcAll_at h.2 i r' (by simpa using hr)

theorem tAll_at : ∀ {rs : List Res} (i : Nat) (r : Res), rs[i]? = some r → ∀ k, r.t.testBit k = true → (tAll rs).testBit k = true
  | r :: rs, 0, r', hr, k, h => by simp at hr; subst hr; simp [tAll, Nat.testBit_or, h]
  | r :: rs, i + 1, r', hr, k, h => by simp [tAll, Nat.testBit_or, tAll_at i r' (by simpa using hr) k h]

theorem wAll_at : ∀ {rs : List Res} (i : Nat) (r : Res), rs[i]? = some r → ∀ k, r.w.testBit k = true → (wAll rs).testBit k = true
  | r :: rs, 0, r', hr, k, h => by simp at hr; subst hr; simp [wAll, Nat.testBit_or, h]
  | r :: rs, i + 1, r', hr, k, h => by simp [wAll, Nat.testBit_or, wAll_at i r' (by simpa using hr) k h]

theorem wAll_back : ∀ {rs : List Res} {k : Nat}, (wAll rs).testBit k = true → ∃ (i : Nat) (r : Res), rs[i]? = some r ∧ r.w.testBit k = true
  | [], k, h => by simp [wAll] at h
  | r :: rs, k, h => by
    simp only [wAll, Nat.testBit_or, Bool.or_eq_true] at h
    rcases h with h | h
    · exact ⟨0, r, rfl, h⟩
    · obtain ⟨i, r', h1, h2⟩ := wAll_back h
      exact ⟨i + 1, r', by simpa using h1, h2⟩

theorem Run.r_at (U : Run P env) {i : Nat} (hi : i < U.n) : U.rs[i]? = some (U.r i) := by
  have : i < U.rs.length := by rw [U.rs_len]; exact hi
  simp [Run.r, this]

/-- A region's outcome. -/
structure Out where
  tm : List T
  G : Heap
  vc : Bool
  t : Nat
  w : Nat

def Run.out (U : Run P env) : Out := ⟨stTm U.ops.toList U.rs U.tm0 U.n, stG U.rs U.G0 U.n, vcAll U.rs, tAll U.rs, wAll U.rs⟩

/-- What an outcome says of the memory. -/
structure OutOK (K : Nat → Prop) (ρ : Rho) (G0 : Heap) (w : World) (dS : List Deferred) (m : Nat) (u : Out) (a' : Act) (w' : World) : Prop where
  ex : ∃ ρ', Post ρ ρ' G0 w ⟨true, .any, u.G, u.t, u.w⟩ undef w' ∧ (∀ t, (R ρ' (tget u.tm t)).v (a'.tmps.getD t undef)) ∧ Sim (fun k => K k ∨ G0.length ≤ k) ρ' u.G w'
  sz : a'.tmps.size = m
  dfr : a'.defers = dS

theorem Run.out_stat (henv : EnvOK P env) (U : Run P env) : Stat U.G0 ⟨U.out.vc, .any, U.out.G, U.out.t, U.out.w⟩ := by
  have e0 : U.G 0 = U.G0 := by unfold Run.G; cases U.rs <;> rfl
  have key : ∀ i, i ≤ U.n → (∀ k, k < U.G0.length → (∀ j, j < i → (U.r j).w.testBit k = false) → hget (U.G i) k = hget U.G0 k) := by
    intro i
    induction i with
    | zero => intro _ k _ _; rw [e0]
    | succ i ih =>
      intro hi k hk h
      have hs := U.stat henv (show i < U.n by omega)
      rw [U.G_succ (show i < U.n by omega), hs.old k (by have := U.len_le henv (Nat.zero_le i); rw [e0] at this; omega) (h i (by omega))]
      exact ih (by omega) k hk (fun j hj => h j (by omega))
  have back : ∀ i, i ≤ U.n → ∀ k, k < U.G0.length → (∃ t, hget (U.G i) k = some t) → ∃ t, hget U.G0 k = some t := by
    intro i
    induction i with
    | zero => intro _ k _ h; rw [e0] at h; exact h
    | succ i ih =>
      rintro hi k hk ⟨t, ht⟩
      have hs := U.stat henv (show i < U.n by omega)
      rw [U.G_succ (show i < U.n by omega)] at ht
      have hlen : k < (U.G i).length := by have := U.len_le henv (Nat.zero_le i); rw [e0] at this; omega
      cases hb : (U.r i).w.testBit k with
      | true => exact ih (by omega) k hk (hs.wt k hlen hb).2
      | false => exact ih (by omega) k hk ⟨t, by rw [← hs.old k hlen hb]; exact ht⟩
  refine ⟨?_, ?_, ?_⟩
  · show U.G0.length ≤ (U.G U.n).length
    rw [← e0]; exact U.len_le henv (Nat.zero_le _)
  · intro k hk hw
    obtain ⟨i, r, hr, hb⟩ := wAll_back hw
    have hi : i < U.n := by rw [← U.rs_len]; exact (List.getElem?_eq_some_iff.1 hr).1
    have : r = U.r i := by have := U.r_at hi; rw [hr] at this; exact Option.some.inj this
    subst this
    have hs := U.stat henv hi
    have hlen : k < (U.G i).length := by have := U.len_le henv (Nat.zero_le i); rw [e0] at this; omega
    obtain ⟨h1, h2⟩ := hs.wt k hlen hb
    exact ⟨tAll_at i _ hr k h1, back i (by omega) k hk h2⟩
  · intro k hk hw
    exact key U.n (Nat.le_refl _) k hk fun j hj => by
      cases hb : (U.r j).w.testBit k with
      | false => rfl
      | true => have := wAll_at j _ (U.r_at hj) k hb; rw [show (wAll U.rs).testBit k = false from hw] at this; cases this

theorem Inv.fin (henv : EnvOK P env) {U : Run P env} {K : Nat → Prop} {ρS ρ : Rho} {wS w : World} {dS : List Deferred} {L : Nat → Bool} {a : Act} (hL : ∀ j, j < U.n → L j = true) (hI : Inv U K ρS wS dS U.tm0.length L ρ a w)
    (hK : ∀ k, k < U.G0.length → (tAll U.rs).testBit k = true → K k) : OutOK K ρS U.G0 wS dS U.tm0.length U.out a w := by
  have e0 : U.G 0 = U.G0 := by unfold Run.G; cases U.rs <;> rfl
  have hT : ∀ t, cont U.Tm U.wT L U.n t = U.Tm U.n t := fun t => cont_read (fun j l h => U.Tm_keep j l h) (fun j hj _ => hL j hj) (fun j h1 h2 => by omega) (Nat.le_refl _)
  have hH : ∀ k, cont U.H U.wH L U.n k = hget (U.G U.n) k := fun k => cont_read (fun j l h => U.H_keep henv j l h) (fun j hj _ => hL j hj) (fun j h1 h2 => by omega) (Nat.le_refl _)
  have hst := U.out_stat henv
  have hwK : ∀ k, k < U.G0.length → (wAll U.rs).testBit k = true → K k := fun k hk h => hK k hk (hst.wt k hk h).1
  have wb : ∀ i k, k < U.G0.length → U.wH i k → (wAll U.rs).testBit k = true := fun i k hk h => by
    rcases h.2 with h' | h'
    · exact wAll_at i _ (U.r_at h.1) k h'.2
    · have := U.len_le henv (Nat.zero_le i); rw [e0] at this; omega
  have wf : ∀ k, k < U.G0.length → (wAll U.rs).testBit k = true → ∃ i, i < U.n ∧ U.wH i k := fun k hk h => by
    obtain ⟨i, r, hr, hb⟩ := wAll_back h
    have hi : i < U.n := by rw [← U.rs_len]; exact (List.getElem?_eq_some_iff.1 hr).1
    have : r = U.r i := by have := U.r_at hi; rw [hr] at this; exact Option.some.inj this
    subst this
    exact ⟨i, hi, hi, .inl ⟨by have := U.len_le henv (Nat.zero_le i); rw [e0] at this; omega, hb⟩⟩
  refine ⟨⟨ρ, ?_, fun t => (by have := hI.tm t; rw [hT] at this; exact this), ⟨fun k t hk hg => hI.blk k t hk (by rw [hH]; exact hg), fun k k' t t' p p' hk hk' hg hg' => hI.inj k k' t t' p p' hk hk' (by rw [hH]; exact hg) (by rw [hH]; exact hg')⟩⟩, hI.sz, hI.dfr⟩
  exact {
    ext := hI.ext
    dom := fun k hk => by
      rcases hI.dom k with e | ⟨i, _, hin, h1, h2⟩
      · exact e
      · exfalso
        have h3 := U.len_le henv (Nat.zero_le i)
        rw [e0] at h3
        have h4 : (U.G (i + 1)).length ≤ (U.G U.n).length := U.len_le henv hin
        rcases hk with hk | hk
        · omega
        · have : (U.G U.n).length ≤ k := hk
          omega
    val := trivial
    sim := fun k t hk hg => hI.blk k t (by
        rcases hk with hk | hk
        · exact .inr hk
        · rcases Nat.lt_or_ge k U.G0.length with h | h
          · exact .inl (hwK k h hk)
          · exact .inr h) (by rw [hH]; exact hg)
    new := fun k t p hk hg hr => by
      rcases hI.new k t p hk (by rw [hH]; exact hg) hr with h | ⟨j, q, i, hj1, hj2, hj3, hj4, hj5, hj6⟩
      · exact .inl h
      · exact .inr ⟨j, q, hj1, wb i j hj1 hj3, by rw [hH] at hj4; exact hj4, hj5, hj6⟩
    inj := fun k k' t t' p p' hk hk' hg hg' => hI.inj k k' t t' p p' (.inr hk) (.inr hk') (by rw [hH]; exact hg) (by rw [hH]; exact hg')
    frame := fun b hb hne => hI.frame b hb fun k p i h1 _ h3 h4 => hne k p h1 (wb i k h1 h3) h4
    size := hI.size
    os := hI.os
    tape := hI.tape
    output := hI.output }

theorem region_seq (henv : EnvOK P env) (U : Run P env) {K : Nat → Prop} {ρ : Rho} {a : Act} {w : World} {id : Nat} (hvc : U.out.vc = true) (hK : ∀ k, k < U.G0.length → U.out.t.testBit k = true → K k)
    (hfr : ∀ k, U.G0.length ≤ k → k < U.out.G.length → ρ k = none) (hsz : a.tmps.size = U.tm0.length) (htm : ∀ t, (R ρ (tget U.tm0 t)).v (a.tmps.getD t undef)) (hsim : Sim (fun k => K k ∨ U.G0.length ≤ k) ρ U.G0 w)
    {Q : Exit → Act → World → Prop} (hQ : ∀ a' w', OutOK K ρ U.G0 w a.defers U.tm0.length U.out a' w' → Q .normal a' w') : (Code.region id U.ops false).wp P Q a w := by
  refine wp_region ?_
  have h := wpOps_range U (Q := Q) (I := fun L a' w' => ∃ ρ', Inv U K ρ w a.defers U.tm0.length L ρ' a' w') (fun i L a' w' Kt hi hL ⟨ρ', hI⟩ next => by
      obtain ⟨o, ho⟩ : ∃ o, U.ops.toList[i]? = some o := ⟨_, List.getElem?_eq_getElem hi⟩
      exact hI.step henv ho (by rw [hL]; simp) (fun j hj h => by rw [hL] at h; simp [hj] at h) (fun j hj _ h => by rw [hL] at h; simp at h; omega)
        (vcAll_at hvc i _ (U.r_at hi)) (fun k hk h => hK k hk (tAll_at i _ (U.r_at hi) k h)) hfr (fun ρ'' a'' w'' h => next a'' w'' ⟨ρ'', h⟩))
    (fun L a' w' hL ⟨ρ', hI⟩ => hQ _ _ (hI.fin henv hL hK)) U.n 0 idle a w (by simp) (fun j => by simp [idle]) ⟨ρ, Inv.init hsz htm hsim⟩
  have hn : U.n = U.ops.size := by simp [Run.n]
  simp only [List.drop_zero, hn] at h
  exact h

/-! ### Any order: the look at what meets -/

def maskOf : List Nat → Nat
  | [] => 0
  | t :: r => 2 ^ t ||| maskOf r

theorem maskOf_mem {t : Nat} : ∀ {l : List Nat}, t ∈ l → (maskOf l).testBit t = true
  | x :: r, h => by
    simp only [maskOf, Nat.testBit_or, Bool.or_eq_true]
    rcases List.mem_cons.1 h with rfl | h
    · left; simp
    · right; exact maskOf_mem h

/-- The bits from a on, below b. -/
def newMask (a b : Nat) : Nat := (2 ^ (b - a) - 1) <<< a

theorem newMask_bit {a b k : Nat} (h1 : a ≤ k) (h2 : k < b) : (newMask a b).testBit k = true := by
  simp only [newMask, Nat.testBit_shiftLeft, Nat.testBit_two_pow_sub_one, Bool.and_eq_true, decide_eq_true_eq]
  omega

structure Lg where
  rt : Nat
  wt : Nat
  t : Nat
  w : Nat
  pre : Nat

def edgeMask (pres : List Nat) (i : Nat) : List Edge → Option Nat
  | [] => some 0
  | e :: r => match edgeMask pres i r with
    | none => none
    | some m => bif Region.binds .any e then (bif Nat.blt e.on i then some (2 ^ e.on ||| pres.getD e.on 0 ||| m) else none) else some m

def lgs (ops : List Oper) : List Oper → List Res → Nat → Nat → List Nat → Option (List Lg)
  | o :: os, r :: rs, i, len, pres => match edgeMask pres i o.after.toList with
    | none => none
    | some pre => match lgs ops os rs (i + 1) r.G.length (pres ++ [pre]) with
      | none => none
      | some l => some (⟨maskOf (reads ops o), maskOf o.dst.toList, r.t, r.w ||| newMask len r.G.length, pre⟩ :: l)
  | [], _, _, _, _ => some []
  | _, [], _, _, _ => none

def Lg.apart (a b : Lg) : Bool :=
  Nat.beq (a.rt &&& b.wt) 0 && Nat.beq (a.wt &&& b.rt) 0 && Nat.beq (a.wt &&& b.wt) 0 && Nat.beq (a.t &&& b.w) 0 && Nat.beq (a.w &&& b.t) 0 && Nat.beq (a.w &&& b.w) 0

def apartAll (i : Nat) (a : Lg) : List Lg → Bool
  | [] => true
  | b :: r => (b.pre.testBit i || a.apart b) && apartAll i a r

def pairsOK : Nat → List Lg → Bool
  | _, [] => true
  | i, a :: r => apartAll i a r && pairsOK (i + 1) r

theorem apartAll_at {i : Nat} {a : Lg} : ∀ {l : List Lg}, apartAll i a l = true → ∀ (j : Nat) (b : Lg), l[j]? = some b → b.pre.testBit i = true ∨ a.apart b = true
  | b :: r, h, 0, b', hb => by simp at hb; subst hb; simp only [apartAll, Bool.and_eq_true, Bool.or_eq_true] at h; exact h.1
  | b :: r, h, j + 1, b', hb => by simp only [apartAll, Bool.and_eq_true] at h; exact apartAll_at h.2 j b' (by simpa using hb)

theorem pairsOK_at : ∀ {l : List Lg} {i0 : Nat}, pairsOK i0 l = true → ∀ (i j : Nat) (a b : Lg), i < j → l[i]? = some a → l[j]? = some b → b.pre.testBit (i0 + i) = true ∨ a.apart b = true
  | x :: r, i0, h, 0, j + 1, a, b, _, ha, hb => by
    simp at ha; subst ha
    simp only [pairsOK, Bool.and_eq_true] at h
    exact apartAll_at h.1 j b (by simpa using hb)
  | x :: r, i0, h, i + 1, j + 1, a, b, hij, ha, hb => by
    simp only [pairsOK, Bool.and_eq_true] at h
    have := pairsOK_at h.2 i j a b (by omega) (by simpa using ha) (by simpa using hb)
    rwa [show i0 + 1 + i = i0 + (i + 1) by omega] at this

theorem and_zero {a b k : Nat} (h : Nat.beq (a &&& b) 0 = true) (ha : a.testBit k = true) : b.testBit k = false := by
  have := Nat.eq_of_beq_eq_true h
  have h2 : (a &&& b).testBit k = false := by rw [this]; simp
  rw [Nat.testBit_and, ha, Bool.true_and] at h2
  exact h2

theorem edgeMask_spec {pres : List Nat} {i : Nat} : ∀ {es : List Edge} {m : Nat}, edgeMask pres i es = some m →
    (∀ e ∈ es, Region.binds .any e = true → e.on < i) ∧ ∀ j, m.testBit j = true → ∃ e ∈ es, Region.binds .any e = true ∧ (j = e.on ∨ (pres.getD e.on 0).testBit j = true)
  | [], m, h => by cases h; exact ⟨fun e he => (by cases he), fun j hj => (by simp at hj)⟩
  | e :: r, m, h => by
    simp only [edgeMask] at h
    split at h
    · cases h
    · rename_i m' hm'
      obtain ⟨h1, h2⟩ := edgeMask_spec hm'
      cases hb : Region.binds .any e with
      | false =>
        rw [hb] at h
        cases h
        refine ⟨fun e' he' hb' => ?_, fun j hj => ?_⟩
        · rcases List.mem_cons.1 he' with rfl | he'
          · rw [hb] at hb'; cases hb'
          · exact h1 e' he' hb'
        · obtain ⟨e', he', h3⟩ := h2 j hj
          exact ⟨e', List.mem_cons_of_mem _ he', h3⟩
      | true =>
        rw [hb] at h
        cases hl : Nat.blt e.on i with
        | false => rw [hl] at h; cases h
        | true =>
          rw [hl] at h
          cases h
          refine ⟨fun e' he' hb' => ?_, fun j hj => ?_⟩
          · rcases List.mem_cons.1 he' with rfl | he'
            · have : e'.on + 1 ≤ i := Nat.le_of_ble_eq_true hl
              omega
            · exact h1 e' he' hb'
          · simp only [Nat.testBit_or, Bool.or_eq_true, Nat.testBit_two_pow, decide_eq_true_eq] at hj
            rcases hj with (hj | hj) | hj
            · exact ⟨e, by simp, hb, .inl hj.symm⟩
            · exact ⟨e, by simp, hb, .inr hj⟩
            · obtain ⟨e', he', h3⟩ := h2 j hj
              exact ⟨e', List.mem_cons_of_mem _ he', h3⟩

theorem lgs_at {ops : List Oper} : ∀ {os : List Oper} {rs : List Res} {i0 : Nat} {G : Heap} {pres : List Nat} {l : List Lg}, lgs ops os rs i0 G.length pres = some l → pres.length = i0 →
    l.length = os.length ∧ ∀ (i : Nat) (o : Oper), os[i]? = some o → ∃ r b, rs[i]? = some r ∧ l[i]? = some b ∧ b.rt = maskOf (reads ops o) ∧ b.wt = maskOf o.dst.toList ∧ b.t = r.t ∧
      b.w = r.w ||| newMask (stG rs G i).length r.G.length ∧ edgeMask (pres ++ (l.take i).map (·.pre)) (i0 + i) o.after.toList = some b.pre
  | [], rs, i0, G, pres, l, h, _ => by
    have : l = [] := by
      cases rs
      · simp only [lgs] at h; cases h; rfl
      · simp only [lgs] at h; cases h; rfl
    subst this
    refine ⟨rfl, ?_⟩
    intro i o ho
    simp at ho
  | o :: os, [], i0, G, pres, l, h, _ => by simp [lgs] at h
  | o :: os, r :: rs, i0, G, pres, l, h, hp => by
    simp only [lgs] at h
    split at h
    · cases h
    · rename_i pre hpre
      split at h
      · cases h
      · rename_i l' hl'
        cases h
        obtain ⟨h1, h2⟩ := lgs_at (G := r.G) hl' (by simp [hp])
        refine ⟨by simp [h1], fun i o' ho' => ?_⟩
        cases i with
        | zero =>
          simp at ho'; subst ho'
          exact ⟨r, _, rfl, rfl, rfl, rfl, rfl, rfl, by simpa using hpre⟩
        | succ i =>
          obtain ⟨r', b, h3, h4, h5, h6, h7, h8, h9⟩ := h2 i o' (by simpa using ho')
          refine ⟨r', b, by simpa using h3, by simpa using h4, h5, h6, h7, h8, ?_⟩
          rw [show i0 + (i + 1) = i0 + 1 + i by omega]
          simpa [List.append_assoc] using h9

def logsOK (ops : List Oper) (rs : List Res) (len : Nat) : Bool :=
  match lgs ops ops rs 0 len [] with
  | some l => pairsOK 0 l
  | none => false

theorem region_any (henv : EnvOK P env) (hmix : P.follows .mixedOrders = true) (U : Run P env) {K : Nat → Prop} {ρ : Rho} {a : Act} {w : World} {id : Nat} (hvc : U.out.vc = true) (hlog : logsOK U.ops.toList U.rs U.G0.length = true)
    (hK : ∀ k, k < U.G0.length → U.out.t.testBit k = true → K k)
    (hfr : ∀ k, U.G0.length ≤ k → k < U.out.G.length → ρ k = none) (hsz : a.tmps.size = U.tm0.length) (htm : ∀ t, (R ρ (tget U.tm0 t)).v (a.tmps.getD t undef)) (hsim : Sim (fun k => K k ∨ U.G0.length ≤ k) ρ U.G0 w)
    {Q : Exit → Act → World → Prop} (hQ : ∀ a' w' dw, dw.heap = w.heap → dw.os = w.os → dw.tape = w.tape → dw.output = w.output → OutOK K ρ U.G0 dw a.defers U.tm0.length U.out a' w' → Q .normal a' w') : (Code.region id U.ops true).wp P Q a w := by
  refine wp_region_any hmix ?_
  unfold logsOK at hlog
  split at hlog
  case h_2 => cases hlog
  rename_i l hl
  obtain ⟨hlen, hat⟩ := lgs_at (G := U.G0) hl rfl
  have hn : U.n = U.ops.size := by simp [Run.n]
  -- what the looks say of two operations
  have lg : ∀ i, i < U.n → ∃ o b, U.ops.toList[i]? = some o ∧ l[i]? = some b ∧ b.rt = maskOf (reads U.ops.toList o) ∧ b.wt = maskOf o.dst.toList ∧ b.t = (U.r i).t ∧
      b.w = (U.r i).w ||| newMask (U.G i).length (U.r i).G.length ∧ edgeMask ((l.take i).map (·.pre)) i o.after.toList = some b.pre := by
    intro i hi
    obtain ⟨o, ho⟩ : ∃ o, U.ops.toList[i]? = some o := ⟨_, List.getElem?_eq_getElem hi⟩
    obtain ⟨r, b, h1, h2, h3, h4, h5, h6, h7⟩ := hat i o ho
    have : r = U.r i := by have := U.r_at hi; rw [h1] at this; exact Option.some.inj this
    subst this
    exact ⟨o, b, ho, h2, h3, h4, h5, h6, by simpa using h7⟩
  have rT : ∀ i b, i < U.n → l[i]? = some b → ∀ t, U.rT i t → b.rt.testBit t = true := by
    rintro i b hi hb t ⟨o, ho, ht⟩
    obtain ⟨o', b', h1, h2, h3, _⟩ := lg i hi
    rw [hb] at h2; cases h2
    rw [ho] at h1; cases h1
    rw [h3]; exact maskOf_mem ht
  have wT : ∀ i b, i < U.n → l[i]? = some b → ∀ t, U.wT i t → b.wt.testBit t = true := by
    intro i b hi hb t ht
    obtain ⟨o', b', h1, h2, _, h4, _⟩ := lg i hi
    rw [hb] at h2; cases h2
    unfold Run.wT at ht
    rw [h1] at ht
    have : o'.dst = some t := by simpa using ht
    rw [h4, this]
    exact maskOf_mem (by simp)
  have rH : ∀ i b, i < U.n → l[i]? = some b → ∀ k, (U.r i).t.testBit k = true → b.t.testBit k = true := by
    intro i b hi hb k hk
    obtain ⟨o', b', h1, h2, _, _, h5, _⟩ := lg i hi
    rw [hb] at h2; cases h2
    rw [h5]; exact hk
  have wH : ∀ i b, i < U.n → l[i]? = some b → ∀ k, U.wH i k → b.w.testBit k = true := by
    intro i b hi hb k hk
    obtain ⟨o', b', h1, h2, _, _, _, h6, _⟩ := lg i hi
    rw [hb] at h2; cases h2
    rw [h6, Nat.testBit_or, Bool.or_eq_true]
    rcases hk.2 with h | h
    · exact .inl h.2
    · right; rw [U.G_succ hi] at h; exact newMask_bit h.1 h.2
  have bool : ∀ {x y : Bool}, x = true → y = false → x ≠ y := fun h1 h2 => by rw [h1, h2]; decide
  have apart1 : ∀ i j a b, i < U.n → j < U.n → l[i]? = some a → l[j]? = some b → a.apart b = true → Apart U i j := by
    intro i j a b hi hj ha hb h
    simp only [Lg.apart, Bool.and_eq_true] at h
    obtain ⟨⟨⟨⟨⟨h1, h2⟩, h3⟩, h4⟩, h5⟩, h6⟩ := h
    exact ⟨fun t ht hw => bool (wT j b hj hb t hw) (and_zero h1 (rT i a hi ha t ht)) rfl, fun t ht hw => bool (wT j b hj hb t hw) (and_zero h3 (wT i a hi ha t ht)) rfl,
      fun k hk hw => bool (wH j b hj hb k hw) (and_zero h4 (rH i a hi ha k hk)) rfl, fun k hk hw => bool (wH j b hj hb k hw) (and_zero h6 (wH i a hi ha k hk)) rfl⟩
  have comm : ∀ a b : Lg, a.apart b = true → b.apart a = true := by
    intro a b h
    simp only [Lg.apart, Bool.and_eq_true] at h ⊢
    obtain ⟨⟨⟨⟨⟨h1, h2⟩, h3⟩, h4⟩, h5⟩, h6⟩ := h
    exact ⟨⟨⟨⟨⟨by rw [Nat.and_comm]; exact h2, by rw [Nat.and_comm]; exact h1⟩, by rw [Nat.and_comm]; exact h3⟩, by rw [Nat.and_comm]; exact h5⟩, by rw [Nat.and_comm]; exact h4⟩, by rw [Nat.and_comm]; exact h6⟩
  have main : ∀ (fuel : Nat) (listed : Array Bool) (ρ' : Rho) (a' : Act) (w' : World), listed.size = U.n → (∀ i b, l[i]? = some b → listed.getD i true = true → ∀ j, b.pre.testBit j = true → listed.getD j false = true) →
      (List.range U.n).countP (fun i => !listed.getD i true) ≤ fuel → Inv U K ρ { w with drawn := w.drawn + 1 } a.defers U.tm0.length (fun i => listed.getD i true) ρ' a' w' → wpAny P .any U.ops Q fuel listed a' w' := by
    intro fuel
    have hempty : ∀ (listed : Array Bool), listed.size = U.n → Region.ready .any U.ops listed = [] → ∀ i, i < U.n → listed.getD i true = true := by
      intro listed hls hr i
      induction i using Nat.strongRecOn with
      | _ i ih =>
        intro hi
        cases hb : listed.getD i true with
        | true => rfl
        | false =>
          exfalso
          obtain ⟨o, b, h1, h2, _, _, _, _, h7⟩ := lg i hi
          have : i ∈ Region.ready .any U.ops listed := by
            rw [mem_ready]
            refine ⟨hb, o, by simpa using h1, fun e he hbe => ?_⟩
            have hlt := (edgeMask_spec h7).1 e (by simpa using he) hbe
            have := ih e.on hlt (by omega)
            have hx : e.on < listed.size := by omega
            simpa [Array.getD, hx] using this
          rw [hr] at this; cases this
    induction fuel with
    | zero =>
      intro listed ρ' a' w' hls hcl hcnt hI
      have hall : ∀ i, i < U.n → listed.getD i true = true := by
        intro i hi
        have := List.countP_eq_zero.1 (Nat.le_zero.1 hcnt) i (by simpa using hi)
        simpa using this
      refine ⟨?_, hQ _ _ { w with drawn := w.drawn + 1 } rfl rfl rfl rfl (hI.fin henv hall hK)⟩
      apply List.eq_nil_iff_forall_not_mem.2
      intro i hi
      rw [mem_ready] at hi
      obtain ⟨h1, o, h2, _⟩ := hi
      have : i < U.n := by rw [hn]; exact (Array.getElem?_eq_some_iff.1 h2).1
      rw [hall i this] at h1; cases h1
    | succ fuel ih =>
      intro listed ρ' a' w' hls hcl hcnt hI
      refine ⟨fun hr => hQ _ _ { w with drawn := w.drawn + 1 } rfl rfl rfl rfl (hI.fin henv (hempty listed hls hr) hK), fun i hi => ?_⟩
      rw [mem_ready] at hi
      obtain ⟨h1, o, h2, h3⟩ := hi
      have hin : i < U.n := by rw [hn]; exact (Array.getElem?_eq_some_iff.1 h2).1
      obtain ⟨o', b, g1, g2, _, _, _, _, g7⟩ := lg i hin
      have : o' = o := by
        have : U.ops.toList[i]? = some o := by simpa using h2
        rw [g1] at this; exact Option.some.inj this
      subst this
      have setD_eq : ∀ j d, (listed.setIfInBounds i true).getD j d = if j = i then true else listed.getD j d := by
        intro j d
        by_cases e : j = i
        · subst e
          have : j < listed.size := by omega
          simp [Array.getD, this]
        · simp only [Array.getD_eq_getD_getElem?, Array.getElem?_setIfInBounds]
          have : ¬ i = j := fun e' => e e'.symm
          simp [e, this]
      -- its ancestors are listed
      have anc : ∀ j, b.pre.testBit j = true → listed.getD j false = true := by
        intro j hj
        obtain ⟨e, he, hbe, h⟩ := (edgeMask_spec g7).2 j hj
        have hlt := (edgeMask_spec g7).1 e he hbe
        have hl1 := h3 e (by simpa using he) hbe
        rcases h with rfl | h
        · exact hl1
        · obtain ⟨o2, b2, _, k2, _⟩ := lg e.on (by omega)
          have : ((l.take i).map (·.pre)).getD e.on 0 = b2.pre := by
            simp [List.getD_eq_getElem?_getD, List.getElem?_take_of_lt hlt, k2]
          rw [this] at h
          have hx : e.on < listed.size := by omega
          exact hcl e.on b2 k2 (by simpa [Array.getD, hx] using hl1) j h
      have ft : ∀ j, listed.getD j false = true → listed.getD j true = true := by
        intro j hj
        by_cases hx : j < listed.size
        · simpa [Array.getD, hx] using hj
        · simp [Array.getD, hx] at hj
      refine hI.step henv g1 h1 ?_ ?_ (vcAll_at hvc i _ (U.r_at hin)) (fun k hk h => hK k hk (tAll_at i _ (U.r_at hin) k h)) hfr ?_
      · intro j hj hLj
        obtain ⟨o2, b2, _, k2, _⟩ := lg j (by omega)
        rcases pairsOK_at hlog j i b2 b hj k2 g2 with h | h
        · rw [Nat.zero_add] at h
          have := ft j (anc j h)
          rw [this] at hLj; cases hLj
        · exact apart1 i j b b2 hin (by omega) g2 k2 (comm _ _ h)
      · intro j hj hjn hLj
        obtain ⟨o2, b2, _, k2, _⟩ := lg j hjn
        rcases pairsOK_at hlog i j b b2 hj g2 k2 with h | h
        · rw [Nat.zero_add] at h
          have := ft i (hcl j b2 k2 hLj i h)
          rw [this] at h1; cases h1
        · exact apart1 i j b b2 hin hjn g2 k2 h
      · intro ρ'' a'' w'' hI'
        have hLadd : (fun j => (listed.setIfInBounds i true).getD j true) = add (fun j => listed.getD j true) i := by
          funext j
          rw [setD_eq]; rfl
        refine ih (listed.setIfInBounds i true) ρ'' a'' w'' (by simpa using hls) ?_ ?_ (by rw [hLadd]; exact hI')
        · intro i2 b2 k2 hl2 j hj
          rw [setD_eq] at hl2 ⊢
          by_cases e : j = i
          · simp [e]
          · rw [if_neg e]
            by_cases e2 : i2 = i
            · subst e2
              rw [g2] at k2; cases k2
              exact anc j hj
            · rw [if_neg e2] at hl2
              exact hcl i2 b2 k2 hl2 j hj
        · have hlt : (List.range U.n).countP (fun j => !(listed.setIfInBounds i true).getD j true) < (List.range U.n).countP (fun j => !listed.getD j true) := by
            have h5 : ∀ (r : List Nat), i ∈ r → r.Nodup → r.countP (fun j => !(listed.setIfInBounds i true).getD j true) < r.countP (fun j => !listed.getD j true) := by
              intro r
              induction r with
              | nil => intro h; cases h
              | cons x r ihr =>
                intro hm hnd
                rw [List.nodup_cons] at hnd
                have le : ∀ (r : List Nat), r.countP (fun j => !(listed.setIfInBounds i true).getD j true) ≤ r.countP (fun j => !listed.getD j true) := fun r =>
                  List.countP_mono_left fun j _ hj => by
                    rw [setD_eq] at hj
                    by_cases e : j = i
                    · simp [e] at hj
                    · rwa [if_neg e] at hj
                by_cases e : x = i
                · subst e
                  rw [List.countP_cons, List.countP_cons, setD_eq, if_pos rfl, h1]
                  have := le r
                  revert this
                  generalize List.countP (fun j => !(listed.setIfInBounds x true).getD j true) r = A
                  generalize List.countP (fun j => !listed.getD j true) r = B
                  intro this
                  simp; omega
                · rw [List.countP_cons, List.countP_cons, setD_eq, if_neg e]
                  have := ihr (by
                    rcases List.mem_cons.1 hm with h | h
                    · exact absurd h.symm e
                    · exact h) hnd.2
                  omega
            exact h5 _ (by simpa using hin) List.nodup_range
          omega
  have hidle : (fun i => (Array.replicate U.ops.size false).getD i true) = fun i => if i < U.n then false else true := by
    funext i
    rw [hn]
    by_cases h : i < U.ops.size <;> simp [Array.getD, h]
  refine main U.ops.size (Array.replicate U.ops.size false) ρ a _ (by simp [hn]) ?_ ?_ ?_
  · intro i b hb hl2
    have : i < U.n := by
      have := (List.getElem?_eq_some_iff.1 hb).1
      rw [hlen] at this
      exact this
    have h6 : (Array.replicate U.ops.size false).getD i true = if i < U.n then false else true := congrFun hidle i
    rw [h6, if_pos this] at hl2
    cases hl2
  · refine Nat.le_trans (List.countP_le_length) ?_
    simp [hn]
  · rw [hidle]
    have h0 : Inv U K ρ { w with drawn := w.drawn + 1 } a.defers U.tm0.length idle ρ a { w with drawn := w.drawn + 1 } := Inv.init hsz htm ⟨fun k t hk hg => by
        obtain ⟨p, h1, h2⟩ := hsim.blk k t hk hg
        exact ⟨p, h1, h2.same rfl⟩, hsim.inj⟩
    have e1 : ∀ t, cont U.Tm U.wT (fun i => if i < U.n then false else true) U.n t = cont U.Tm U.wT idle U.n t := fun t => cont_other fun j hj _ => by simp [hj, idle]
    have e2 : ∀ t, cont U.H U.wH (fun i => if i < U.n then false else true) U.n t = cont U.H U.wH idle U.n t := fun t => cont_other fun j hj _ => by simp [hj, idle]
    exact {
      sz := h0.sz, dfr := h0.dfr
      tm := fun t => by rw [e1]; exact h0.tm t
      ext := h0.ext
      dom := fun k => .inl rfl
      blk := fun k t hk hg => h0.blk k t hk (by rw [← e2]; exact hg)
      inj := fun k k' t t' p p' hk hk' hg hg' => h0.inj k k' t t' p p' hk hk' (by rw [← e2]; exact hg) (by rw [← e2]; exact hg')
      frame := fun _ _ _ => rfl
      new := fun k t p hk hg hr => by
        rw [e2] at hg
        rcases h0.new k t p hk hg hr with h | ⟨j, q, i, h⟩
        · exact .inl h
        · exact absurd h.2.1 (by simp [idle])
      size := Nat.le_refl _, os := rfl, tape := rfl, output := rfl }

end
end Go.AE
