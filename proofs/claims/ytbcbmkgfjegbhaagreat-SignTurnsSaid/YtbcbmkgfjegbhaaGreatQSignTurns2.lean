/- Part 2 of the proof. No condition. -/
import Derived.Laws.AppendOwn
import Derived.Laws.MakeOwn
import Derived.Test.YtbcbmkgfjegbhaaGreatQSignTurns1
set_option linter.unusedVariables false
set_option linter.unusedSimpArgs false
set_option linter.unusedSectionVars false
namespace Go.AE
open Go
noncomputable section
theorem isCell_one {x : Value} (h : ze8 x) : x.oneCell' = true := by cases x <;> first | rfl | exact h.elim
theorem Post.pure {ρ : Rho} {G : Heap} {w : World} {vc : Bool} {v : T} {v' : Value} (h : (R ρ v).v v') (t : Nat) : Post ρ ρ G w ⟨vc, v, G, t, 0⟩ v' w where
  ext := Rho.Ext.refl ρ
  dom _ _ := rfl
  val := h
  sim k t p hk hg := by
    rcases hk with hk | hk
    · have : k < G.length := za7 hg
      omega
    · simp at hk
  vac k t hk hg := by
    rcases hk with hk | hk
    · have : k < G.length := za7 hg
      omega
    · simp at hk
  new k t p hk hg := by
    have : k < G.length := za7 hg
    omega
  inj k k' t t' p p' hk _ hg := by
    have : k < G.length := za7 hg
    omega
  ro _ _ h := .inl h
  dis k t p hk hg := by
    rcases hk with hk | hk
    · have : k < G.length := za7 hg
      omega
    · simp at hk
  frame _ _ _ := rfl
  size := Nat.le_refl _
  os := rfl
  tape := rfl
  output := rfl
theorem zn3 {w : World} {b : Nat} {cs : Array Value} {ty : TypeId} {fr : Nat × Nat} (h : w.heap[b]? = some (.cells cs ty fr)) (o : Nat) : w.cell? ⟨b, o, none⟩ = cs[o]? := by
  simp [World.cell?, h]
theorem frozen_blk {w : World} {b : Nat} {cs : Array Value} {ty : TypeId} {fr : Nat × Nat} (h : w.heap[b]? = some (.cells cs ty fr)) (o : Nat) (hn : ¬(fr.1 ≤ o ∧ o < fr.2)) :
    w.frozen? ⟨b, o, none⟩ = false := by
  simp only [World.frozen?, h]
  rw [Bool.and_eq_false_iff]
  by_cases h1 : fr.1 ≤ o
  · right; simp; omega
  · left; simpa using h1
theorem zf0 {cs : List Value} {o n j : Nat} (h : j < n) : (cut cs o n)[j]? = cs[o + j]? := by
  simp only [cut]
  rw [List.getElem?_take_of_lt h, List.getElem?_drop]
theorem run_loadCells_blk {P : Program} {w : World} {b : Nat} {cs : Array Value} {ty : TypeId} {fr : Nat × Nat} (h : w.heap[b]? = some (.cells cs ty fr)) (off n : Nat) (hb : off + n ≤ cs.size) :
    (loadCells ⟨b, off, none⟩ n).run P w = .ok (cut cs.toList off n).toArray w := by
  have hl : (cut cs.toList off n).length = n := zg7 (by simpa using hb)
  have := run_loadCells_list (P := P) w ⟨b, off, none⟩ (cut cs.toList off n) (fun j v hv => by
    rw [zb8, zn3 h]
    have hj : j < n := by
      have := (List.getElem?_eq_some_iff.1 hv).1
      omega
    rw [zf0 hj] at hv
    simpa using hv)
  rwa [hl] at this
theorem zk4 {P : Program} {w : World} {b : Nat} {cs : Array Value} {ty : TypeId} {fr : Nat × Nat} (h : w.heap[b]? = some (.cells cs ty fr)) {t : TypeId} {off : Nat} {u : T} {ρ : Rho} {n : Nat}
    (hn : szO P t = some n) (hs : u.size = n) (ha : aggIs P t u.isAgg = true) (hc : (R ρ u).c (cut cs.toList off u.size)) (hb : off + u.size ≤ cs.size) :
    ∃ v', (loadVar t ⟨b, off, none⟩).run P w = .ok v' w ∧ (R ρ u).v v' := by
  unfold loadVar
  rw [Sem.run_bind, aggIs_run ha]
  simp only [Result.andThen_ok]
  cases hg : u.isAgg with
  | true =>
    simp only [if_true, Sem.run_bind, zd1 hn, Result.andThen_ok, Sem.run_pure]
    rw [← hs, run_loadCells_blk h off u.size hb]
    exact ⟨_, rfl, (R_agg hg).2 ⟨_, rfl, by simpa using hc⟩⟩
  | false =>
    obtain ⟨x, hx, hv⟩ := R_leaf_back hg hc
    have h1 : u.size = 1 := by have := zh7 hc; rw [hx] at this; simpa using this.symm
    refine ⟨x, ?_, hv⟩
    have h2 : (cut cs.toList off u.size)[0]? = some x := by rw [hx]; rfl
    rw [zf0 (by omega)] at h2
    have h3 : w.cell? ⟨b, off, none⟩ = some x := by rw [zn3 h]; simpa using h2
    simp [h3]
def evLoad (P : Program) (G : Heap) (t : TypeId) : T → Option Res
  | .ptr id path => match hget G id with
    | some tr => match get tr path, szO P t with
      | some u, some n => bif Nat.beq u.size n && aggIs P t u.isAgg then some ⟨getOK tr path, u, G, 2 ^ id, 0⟩ else none
      | _, _ => none
    | none => none
  | _ => none
theorem zf6 (i : Nat) : bitK (2 ^ i) i := by simp [bitK, Nat.testBit_two_pow]
theorem cut_take {cs : List Value} {m o n : Nat} (h : o + n ≤ m) : cut (cs.take m) o n = cut cs o n := by
  simp only [cut]
  rw [List.drop_take, List.take_take]
  congr 1
  omega
theorem evLoad_sound {P : Program} {G : Heap} {t : TypeId} {x : T} {r : Res} {ρ : Rho} {x' : Value} {w : World} (h : evLoad P G t x = some r) (hvc : r.vc = true)
    (hx : (R ρ x).v x') (hsim : Sim (bitK r.t) ρ G w) : ∃ v', (Instr.loadAt t x').run P w = .ok v' w ∧ ∃ ρ', Post ρ ρ' G w r v' w := by
  unfold evLoad at h
  split at h
  · rename_i id path
    obtain ⟨b, sz, hr, rfl⟩ := hx
    split at h
    · rename_i tr htr
      split at h
      · rename_i u n hu hn
        cases hb : (Nat.beq u.size n && aggIs P t u.isAgg) with
        | false => rw [hb] at h; cases h
        | true =>
          rw [hb] at h
          cases h
          simp only [Bool.and_eq_true] at hb
          obtain ⟨cs, ty, fr, h1, h2, h3, h4, h5, h5'⟩ := hsim.blk id tr _ (zf6 id) htr hr
          obtain ⟨h6, h7⟩ := zi3 h4 hu hvc
          simp only [List.length_take, Array.length_toList] at h7
          rw [cut_take (by omega)] at h6
          obtain ⟨v', hv, hrv⟩ := zk4 (P := P) h1 hn (Nat.eq_of_beq_eq_true hb.1) hb.2 h6 (by omega)
          exact ⟨v', by simp [Instr.loadAt, Instr.sureAddr, hv], ρ, Post.pure hrv _⟩
      · cases h
    · cases h
  · cases h
theorem evLoad_val {P : Program} {G : Heap} {t : TypeId} {x : T} {r : Res} {ρ : Rho} {x' : Value} {w : World} (h : evLoad P G t x = some r) (hvc : r.vc = true)
    (hx : (R ρ x).v x') (hsim : Sim (bitK r.t) ρ G w) : ∃ v', (Instr.loadAt t x').run P w = .ok v' w ∧ (R ρ r.v).v v' := by
  unfold evLoad at h
  split at h
  · rename_i id path
    obtain ⟨b, sz, hr, rfl⟩ := hx
    split at h
    · rename_i tr htr
      split at h
      · rename_i u n hu hn
        cases hb : (Nat.beq u.size n && aggIs P t u.isAgg) with
        | false => rw [hb] at h; cases h
        | true =>
          rw [hb] at h
          cases h
          simp only [Bool.and_eq_true] at hb
          obtain ⟨cs, ty, fr, h1, h2, h3, h4, h5, h5'⟩ := hsim.blk id tr _ (zf6 id) htr hr
          obtain ⟨h6, h7⟩ := zi3 h4 hu hvc
          simp only [List.length_take, Array.length_toList] at h7
          rw [cut_take (by omega)] at h6
          obtain ⟨v', hv, hrv⟩ := zk4 (P := P) h1 hn (Nat.eq_of_beq_eq_true hb.1) hb.2 h6 (by omega)
          exact ⟨v', by simp [Instr.loadAt, Instr.sureAddr, hv], hrv⟩
      · cases h
    · cases h
  · cases h
theorem zi2 (b : Nat) : ∀ (vs : List Value) (o : Nat) (w : World) (cs : Array Value) (ty : TypeId) (fr : Nat × Nat), w.heap[b]? = some (.cells cs ty fr) → o + vs.length ≤ cs.size →
    (w.setCells b o vs).heap[b]? = some (.cells (zc1 cs.toList o vs).toArray ty fr) ∧ (∀ k, k ≠ b → (w.setCells b o vs).heap[k]? = w.heap[k]?) ∧
    (w.setCells b o vs).heap.size = w.heap.size ∧ (w.setCells b o vs).os = w.os ∧ (w.setCells b o vs).tape = w.tape ∧ (w.setCells b o vs).output = w.output
  | [], o, w, cs, ty, fr, h, hb => by
    refine ⟨?_, fun _ _ => rfl, rfl, rfl, rfl, rfl⟩
    simp only [World.setCells, zc1, List.append_nil, List.length_nil, Nat.add_zero, List.take_append_drop]
    exact h
  | v :: r, o, w, cs, ty, fr, h, hb => by
    have h1 : (w.setCell ⟨b, o, none⟩ v).heap[b]? = some (.cells (cs.setIfInBounds o v) ty fr) := by
      simp [World.setCell, Array.getElem?_modify, h]
    simp only [List.length_cons] at hb
    obtain ⟨a1, a2, a3, a4, a5, a6⟩ := zi2 b r (o + 1) (w.setCell ⟨b, o, none⟩ v) _ ty fr h1 (by simp; omega)
    refine ⟨?_, ?_, ?_, a4, a5, a6⟩
    · simp only [World.setCells]
      rw [a1]
      congr 3
      have ho : o < cs.size := by omega
      have e1 : (cs.setIfInBounds o v).toList = cs.toList.set o v := by simp
      rw [e1]
      simp only [zc1]
      apply List.ext_getElem?
      intro k
      have hl : (cs.toList.set o v).length = cs.size := by simp
      by_cases hk : k < o
      · rw [List.append_assoc, List.getElem?_append_left (by simp; omega), List.getElem?_take_of_lt (by omega), List.getElem?_set_ne (by omega), List.append_assoc, List.getElem?_append_left (by simp; omega), List.getElem?_take_of_lt hk]
      · by_cases hk2 : k = o
        · subst hk2
          rw [List.append_assoc, List.getElem?_append_left (by simp; omega), List.getElem?_take_of_lt (by omega), List.getElem?_set_self (by simpa using ho), List.append_assoc, List.getElem?_append_right (by simp; omega)]
          simp [Nat.min_eq_left (Nat.le_of_lt ho)]
        · by_cases hk3 : k < o + 1 + r.length
          · rw [List.getElem?_append_left (by simp; omega), List.getElem?_append_right (by simp; omega), List.getElem?_append_left (by simp; omega), List.getElem?_append_right (by simp; omega)]
            simp only [List.length_take, Array.length_toList, List.length_set, Nat.min_eq_left (Nat.le_of_lt ho), Nat.min_eq_left (show o + 1 ≤ cs.size by omega)]
            rw [show k - o = (k - (o + 1)) + 1 by omega, List.getElem?_cons_succ]
          · rw [List.getElem?_append_right (by simp; omega), List.getElem?_append_right (by simp; omega), List.getElem?_drop, List.getElem?_drop, List.getElem?_set_ne (by simp; omega)]
            congr 1
            simp; omega
    · intro k hk
      simp only [World.setCells]
      rw [a2 k hk]
      simp only [World.setCell, Array.getElem?_modify]
      rw [if_neg (fun e => hk e.symm)]
    · simp only [World.setCells]
      rw [a3]; simp [World.setCell]
theorem ze3 {P : Program} {w : World} {b : Nat} {cs : Array Value} {ty : TypeId} {fr : Nat × Nat} (h : w.heap[b]? = some (.cells cs ty fr)) (hf : ∀ i, i < cs.size → ¬(fr.1 ≤ i ∧ i < fr.2))
    {off : Nat} {us : List Value} (hb : off + us.length ≤ cs.size) (hu : ∀ x ∈ us, ze8 x) : (storeCells ⟨b, off, none⟩ us).run P w = .ok () (w.setCells b off us) := by
  have := run_storeCells_cells (P := P) b off us 0 w (fun j hj => by
      rw [zn3 h]
      simp; omega) (fun j hj => frozen_blk h _ (hf _ (by omega))) (fun v hv => isCell_one (hu v hv))
  simpa using this
def szAt : T → List Step → T → Nat
  | _, [], u => u.size
  | .rows n m f, .idx i m' :: p, u => match p with
    | [] => m
    | _ :: _ => match stepT (.rows n m f) (.idx i m') with
      | some t' => szAt t' p u
      | none => u.size
  | t, s :: p, u => match stepT t s with
    | some t' => szAt t' p u
    | none => u.size
theorem szAt_eq {ρ : Rho} : ∀ {p : List Step} {t u : T} {cs : List Value}, (R ρ t).c cs → get t p = some u → getOK t p = true → szAt t p u = u.size := by
  intro p
  induction p with
  | nil =>
    intro t u cs _ hg _
    cases hg
    cases t <;> rfl
  | cons s p ih =>
    intro t u cs hc hg hok
    have hg' := hg
    have hok' := hok
    simp only [get] at hg
    simp only [getOK, Bool.and_eq_true] at hok
    cases hs : stepT t s with
    | none => rw [hs] at hg; cases hg
    | some t' =>
      rw [hs] at hg hok
      have hsub := (zf7 hc hs hok.1).1
      have rest : szAt t' p u = u.size := ih hsub hg hok.2
      cases t with
      | rows n m f =>
        cases s with
        | idx i m' =>
          cases p with
          | nil =>
            simp only [get] at hg
            cases hg
            have h1 : decide (i < n) = true := hok.1
            simp only [decide_eq_true_eq] at h1
            simp only [stepT] at hs
            cases hb : Nat.beq m m' with
            | false => rw [hb] at hs; cases hs
            | true =>
              rw [hb] at hs
              cases hs
              have h2 := zh7 (hc.2 i h1)
              have h3 : (i + 1) * m ≤ n * m := Nat.mul_le_mul_right _ h1
              have h4 : (i + 1) * m = i * m + m := by rw [Nat.add_mul, Nat.one_mul]
              have h5 := hc.1
              simp only [List.length_take, List.length_drop] at h2
              show m = (f i).size
              omega
          | cons s2 p2 =>
            simp only [szAt, hs]
            exact rest
        | fld j o => simp only [szAt, hs]; exact rest
        | sub o c => simp only [szAt, hs]; exact rest
      | _ => cases s <;> (simp only [szAt, hs]; exact rest)
def evStore (P : Program) (G : Heap) (t : TypeId) : T → T → Option Res
  | .ptr id path, x => match hget G id with
    | some tr => match get tr path, szO P t with
      | some u, some n => bif Nat.beq (szAt tr path u) n && Nat.beq x.size n && (x.isAgg || x.isLeaf) then some ⟨getOK tr path, .any, hset G id (some (put tr path x)), 2 ^ id, 2 ^ id⟩ else none
      | _, _ => none
    | none => none
  | _, _ => none
theorem T.cellsOf {ρ : Rho} {x : T} {x' : Value} (h : (x.isAgg || x.isLeaf) = true) (hx : (R ρ x).v x') : (R ρ x).c x'.cells.toList := by
  cases ha : x.isAgg with
  | true =>
    obtain ⟨cs, rfl, hc⟩ := (R_agg ha).1 hx
    exact hc
  | false =>
    rw [ha, Bool.false_or] at h
    obtain ⟨h1, h2⟩ := R_leaf h hx
    have : x'.cells = #[x'] := by cases x' <;> first | rfl | exact h2.elim
    rw [this]; exact h1
theorem tb_eq {i k : Nat} (h : (2 ^ i).testBit k = true) : i = k := by simpa [Nat.testBit_two_pow] using h
theorem evStore_sound {P : Program} {G : Heap} {t : TypeId} {x y : T} {r : Res} {ρ : Rho} {x' y' : Value} {w : World} (h : evStore P G t x y = some r) (hvc : r.vc = true)
    (hx : (R ρ x).v x') (hy : (R ρ y).v y') (hsim : Sim (bitK r.t) ρ G w) : ∃ w', (Instr.storeAt t x' y').run P w = .ok () w' ∧ ∃ ρ', Post ρ ρ' G w r undef w' := by
  unfold evStore at h
  split at h
  · rename_i id path
    obtain ⟨b, sz, hr, rfl⟩ := hx
    split at h
    · rename_i tr htr
      split at h
      · rename_i u n hu hn
        cases hb : (Nat.beq (szAt tr path u) n && Nat.beq y.size n && (y.isAgg || y.isLeaf)) with
        | false => rw [hb] at h; cases h
        | true =>
          rw [hb] at h
          cases h
          simp only [Bool.and_eq_true] at hb
          obtain ⟨⟨hb1, hb2⟩, hb3⟩ := hb
          have e1 := Nat.eq_of_beq_eq_true hb1
          have e2 := Nat.eq_of_beq_eq_true hb2
          obtain ⟨cs, ty, fr, h1, h2, h3, h4, h5, h5'⟩ := hsim.blk id tr _ (zf6 id) htr hr
          rw [szAt_eq h4 hu hvc] at e1
          obtain ⟨h6, h7⟩ := zi3 h4 hu hvc
          simp only [List.length_take, Array.length_toList] at h7
          have hyc := T.cellsOf hb3 hy
          have hyl := zh7 hyc
          have e5 : y'.cells.toList.length = y'.cells.size := Array.length_toList
          have hst := ze3 (P := P) h1 h5 (off := poff path) (us := y'.cells.toList) (by omega) (zt2 hyc)
          obtain ⟨g1, g2, g3, g4, g5, g6⟩ := zi2 b y'.cells.toList (poff path) w cs ty fr h1 (by omega)
          have hput := put_sound h4 hu hvc hyc (by omega)
          have hpsz : (put tr path y).size = tr.size := put_size hu (by omega)
          have hblk : Blk ρ (put tr path y) (b, sz) (w.setCells b (poff path) y'.cells.toList) := by
            refine ⟨_, ty, fr, g1, ?_, ?_, ?_, ?_, h5'⟩
            · rw [List.size_toArray, zd4 (by simp only [Array.length_toList]; omega)]; simpa using h2
            · rw [List.size_toArray, zd4 (by simp only [Array.length_toList]; omega), hpsz]; simpa using h3
            · rw [hpsz]
              change (R ρ (put tr path y)).c (List.take tr.size (zc1 cs.toList (poff path) y'.cells.toList))
              have : List.take tr.size (zc1 cs.toList (poff path) y'.cells.toList) = zc1 (List.take tr.size cs.toList) (poff path) y'.cells.toList := by
                simp only [zc1]
                rw [List.take_append, List.take_append, List.take_take, List.take_take, List.take_of_length_le (l := y'.cells.toList) (by simp; omega)]
                congr 2
                · congr 1; omega
                · rw [List.drop_take]; congr 1; simp; omega
              rw [this]; exact hput
            · intro i hi
              rw [List.size_toArray, zd4 (by simp only [Array.length_toList]; omega)] at hi
              exact h5 i (by simpa using hi)
          refine ⟨w.setCells b (poff path) y'.cells.toList, ?_, ρ, ?_⟩
          · have e3 : y'.cells.size = n := by rw [← Array.length_toList, hyl, e2]
            simp [Instr.storeAt, Instr.sureAddr, storeVar, zd1 hn, e3, hst]
          · exact {
              ext := Rho.Ext.refl ρ
              dom := fun _ _ => rfl
              val := trivial
              sim := fun k t' p hk hg hp => by
                rcases hk with hk | hk
                · have := za7 hg
                  simp only [zb7] at this
                  omega
                · have := tb_eq hk
                  subst this
                  rw [zc8 _ (za7 htr)] at hg
                  cases hg
                  rw [hr] at hp
                  cases hp
                  exact hblk
              vac := fun k t' hk hg hp => by
                rcases hk with hk | hk
                · have := za7 hg
                  simp only [zb7] at this
                  omega
                · have := tb_eq hk
                  subst this
                  rw [hr] at hp
                  cases hp
              new := fun k t' p hk hg => by
                have := za7 hg
                simp only [zb7] at this
                omega
              inj := fun k k' t' t'' p p' hk _ hg => by
                have := za7 hg
                simp only [zb7] at this
                omega
              ro := fun _ _ h => .inl h
              dis := fun k t' p hk hg hp => by
                rcases hk with hk | hk
                · have := za7 hg
                  simp only [zb7] at this
                  omega
                · have := tb_eq hk
                  subst this
                  exact hsim.dis _ tr p (zf6 _) htr hp
              frame := fun b' _ hne => g2 b' (fun e => hne id _ (za7 htr) (zf6 id) hr e.symm)
              size := by rw [g3]; exact Nat.le_refl _
              os := g4
              tape := g5
              output := g6 }
      · cases h
    · cases h
  · cases h
def newR (G : Heap) (z : T) (v : T) : Res := ⟨true, v, G ++ [some z], 0, 0⟩
theorem zj1 (w : World) (o : Obj) : (({ w with heap := w.heap.push o } : World).heap)[w.heap.size]? = some o := by simp
theorem Post.allocF {ρ : Rho} {G : Heap} {w : World} {z v : T} {v' : Value} {cs : Array Value} {ty : TypeId} {fr : Nat × Nat} (hfz : (∀ i, i < cs.size → ¬(fr.1 ≤ i ∧ i < fr.2)) ∧ fr.1 ≤ fr.2) (w1 : World) (hw : w1.heap = w.heap.push (.cells cs ty fr)) (ho : w1.os = w.os) (ht : w1.tape = w.tape) (hu : w1.output = w.output)
    (hf : ρ G.length = none) (hro : RoOK ρ w) (hz : z.size ≤ cs.size) (hc : (R ρ z).c (cs.toList.take z.size))
    (hv : ∀ ρ' : Rho, ρ.Ext ρ' → ρ' G.length = some (w.heap.size, cs.size) → (R ρ' v).v v') : ∃ ρ', Post ρ ρ' G w (newR G z v) v' w1 := by
  let ρ' : Rho := ⟨fun k => if k = G.length then some (w.heap.size, cs.size) else ρ k, ρ.ro⟩
  have hext : ρ.Ext ρ' := ⟨fun k p hk => by
    by_cases e : k = G.length
    · rw [e, hf] at hk; cases hk
    · simp [ρ', e, hk], fun _ _ h => h⟩
  have hnew : ρ' G.length = some (w.heap.size, cs.size) := by simp [ρ']
  have hlt : ∀ k t, G.length ≤ k → hget (G ++ [some z]) k = some t → k = G.length ∧ t = z := fun k t hk hg => by
    have h1 := za7 hg
    simp only [List.length_append, List.length_singleton] at h1
    have : k = G.length := by omega
    subst this
    rw [zi1] at hg
    cases hg
    exact ⟨rfl, rfl⟩
  refine ⟨ρ', ?_⟩
  exact {
    ext := hext
    dom := fun k hk => by
      simp only [newR, List.length_append, List.length_singleton] at hk
      have : k ≠ G.length := by omega
      simp [ρ', this]
    val := hv ρ' hext hnew
    sim := fun k t p hk hg hp => by
      rcases hk with hk | hk
      · obtain ⟨rfl, rfl⟩ := hlt k t hk hg
        rw [hnew] at hp
        cases hp
        refine ⟨cs, ty, fr, ?_, rfl, hz, zr7 hext hc, hfz⟩
        simp [hw]
      · simp [newR] at hk
    vac := fun k t hk hg hp => by
      rcases hk with hk | hk
      · obtain ⟨rfl, rfl⟩ := hlt k t hk hg
        rw [hnew] at hp
        cases hp
      · simp [newR] at hk
    new := fun k t p hk hg hp => by
      obtain ⟨rfl, rfl⟩ := hlt k t hk hg
      rw [hnew] at hp
      cases hp
      exact .inl (Nat.le_refl _)
    inj := fun k k' t t' p p' hk hk' hg hg' _ _ _ => by
      rw [(hlt k t hk hg).1, (hlt k' t' hk' hg').1]
    ro := fun _ _ h => .inl h
    dis := fun k t p hk hg hp => by
      rcases hk with hk | hk
      · obtain ⟨rfl, rfl⟩ := hlt k t hk hg
        rw [hnew] at hp
        cases hp
        exact hro.new (Nat.le_refl _)
      · simp [newR] at hk
    frame := fun b hb _ => by rw [hw, Array.getElem?_push, if_neg (by omega)]
    size := by rw [hw]; simp
    os := ho
    tape := ht
    output := hu }
theorem Post.alloc {ρ : Rho} {G : Heap} {w : World} {z v : T} {v' : Value} {cs : Array Value} {ty : TypeId} (w1 : World) (hw : w1.heap = w.heap.push (.cells cs ty (0, 0))) (ho : w1.os = w.os) (ht : w1.tape = w.tape) (hu : w1.output = w.output)
    (hf : ρ G.length = none) (hro : RoOK ρ w) (hz : z.size ≤ cs.size) (hc : (R ρ z).c (cs.toList.take z.size))
    (hv : ∀ ρ' : Rho, ρ.Ext ρ' → ρ' G.length = some (w.heap.size, cs.size) → (R ρ' v).v v') : ∃ ρ', Post ρ ρ' G w (newR G z v) v' w1 :=
  Post.allocF ⟨fun i _ => by simp, Nat.le_refl _⟩ w1 hw ho ht hu hf hro hz hc hv
def evBox (G : Heap) (x : T) : Option Res := bif x.isAgg || x.isLeaf then some (newR G x (.ptr G.length [])) else none
theorem evBox_sound {P : Program} {G : Heap} {t : TypeId} {x : T} {r : Res} {ρ : Rho} {x' : Value} {w : World} (h : evBox G x = some r)
    (hx : (R ρ x).v x') (hf : fresh ρ G.length r.G.length) (hro : RoOK ρ w) : ∃ v' w', (Instr.box t x').run P w = .ok v' w' ∧ ∃ ρ', Post ρ ρ' G w r v' w' := by
  unfold evBox at h
  cases hb : (x.isAgg || x.isLeaf) with
  | false => rw [hb] at h; cases h
  | true =>
    rw [hb] at h
    cases h
    have hc := T.cellsOf hb hx
    have hl := zh7 hc
    refine ⟨_, _, rfl, ?_⟩
    refine Post.alloc (cs := x'.cells) (ty := t) _ rfl rfl rfl rfl (hf _ (Nat.le_refl _) (by simp [newR])) hro ?_ ?_ ?_
    · rw [← hl]; simp
    · rw [← hl, List.take_length]; exact hc
    · intro ρ' _ hn
      exact ⟨_, _, hn, rfl⟩
theorem flatten_at {as : List (List Value)} {m : Nat} (hm : ∀ a ∈ as, a.length = m) : as.flatten.length = as.length * m ∧ ∀ j a, as[j]? = some a → (as.flatten.drop (j * m)).take m = a := by
  induction as with
  | nil => exact ⟨by simp, fun j a h => by simp at h⟩
  | cons b as ih =>
    obtain ⟨h1, h2⟩ := ih (fun a ha => hm a (by simp [ha]))
    have hb := hm b (by simp)
    refine ⟨by simp [h1, hb, Nat.succ_mul, Nat.add_comm], ?_⟩
    intro j a hj
    cases j with
    | zero =>
      simp at hj; subst hj
      simp only [Nat.zero_mul, List.drop_zero, List.flatten_cons]
      rw [← hb, List.take_left]
    | succ j =>
      have := h2 j a (by simpa using hj)
      rw [List.flatten_cons, List.drop_append, List.drop_eq_nil_of_le (by rw [hb, Nat.succ_mul]; omega), List.nil_append, hb]
      rw [show (j + 1) * m - m = j * m by rw [Nat.succ_mul]; omega]
      exact this
def wfT : T → Prop
  | .cons h t => wfT h ∧ wfT t
  | .rows n m f => ∀ i, i < n → (f i).size = m ∧ wfT (f i)
  | _ => True
theorem zmatch_sound {ρ : Rho} : ∀ {z : T}, wfT z → ∀ {r r' : List Value}, zf5 z r = some r' → ∃ a, r = a ++ r' ∧ (R ρ z).c a := by
  intro z
  induction z with
  | bool b =>
    intro _ r r' h
    cases r with
    | nil => simp [zf5] at h
    | cons v r => cases v <;> first
      | (simp [zf5] at h; done)
      | (rename_i b'
         simp only [zf5] at h
         cases hb : (b == b') <;> rw [hb] at h <;> cases h
         exact ⟨[.bool b'], rfl, _, rfl, by simp at hb; rw [hb]⟩)
  | int k n =>
    intro _ r r' h
    cases r with
    | nil => simp [zf5] at h
    | cons v r => cases v <;> first
      | (simp [zf5] at h; done)
      | (rename_i k' n'
         simp only [zf5] at h
         split at h
         · rename_i e
           obtain ⟨rfl, rfl⟩ := e
           cases h
           exact ⟨[.int k n], rfl, _, rfl, rfl⟩
         · cases h)
  | str s =>
    intro _ r r' h
    cases r with
    | nil => simp [zf5] at h
    | cons v r => cases v <;> first
      | (simp [zf5] at h; done)
      | (rename_i s'
         simp only [zf5] at h
         cases hb : (Nat.beq s.size 0 && Nat.beq s'.size 0) <;> rw [hb] at h <;> cases h
         simp only [Bool.and_eq_true] at hb
         refine ⟨[.string s'], rfl, _, rfl, ?_⟩
         have e1 := Nat.eq_of_beq_eq_true hb.1
         have e2 := Nat.eq_of_beq_eq_true hb.2
         have : s' = s := by
           cases s; cases s'
           simp [ByteArray.size] at e1 e2
           simp [e1, e2]
         rw [this])
  | nilptr =>
    intro _ r r' h
    unfold zf5 at h
    split at h <;> first | (cases h; done) | skip
    all_goals simp_all
    all_goals (subst h; exact ⟨[_], rfl, _, rfl, rfl⟩)
  | nilslice =>
    intro _ r r' h
    unfold zf5 at h
    split at h <;> first | (cases h; done) | skip
    all_goals simp_all
    all_goals (subst h; exact ⟨[_], rfl, _, rfl, rfl⟩)
  | nilfn =>
    intro _ r r' h
    unfold zf5 at h
    split at h <;> first | (cases h; done) | skip
    all_goals simp_all
    all_goals (subst h; exact ⟨[_], rfl, _, rfl, rfl⟩)
  | nil => intro _ r r' h; simp only [zf5] at h; cases h; exact ⟨[], rfl, rfl⟩
  | cons a b iha ihb =>
    intro hw r r' h
    simp only [zf5] at h
    split at h
    · rename_i r1 h1
      obtain ⟨x, rfl, hx⟩ := iha hw.1 h1
      obtain ⟨y, rfl, hy⟩ := ihb hw.2 h
      exact ⟨x ++ y, by simp, x, y, rfl, hx, hy⟩
    · cases h
  | rows n m f ih =>
    intro hw r r' h
    simp only [zf5] at h
    have key : ∀ (n' i : Nat) (r r' : List Value), i + n' = n → zIter (fun i => zf5 (f i)) n' i r = some r' → ∃ as : List (List Value), as.length = n' ∧ r = as.flatten ++ r' ∧ ∀ j a, as[j]? = some a → (R ρ (f (i + j))).c a := by
      intro n'
      induction n' with
      | zero => intro i r r' _ h; cases h; exact ⟨[], rfl, rfl, fun j a hj => by simp at hj⟩
      | succ n' ihn =>
        intro i r r' hi h
        simp only [zIter] at h
        split at h
        · rename_i r1 h1
          obtain ⟨a, rfl, ha⟩ := ih i (hw i (by omega)).2 h1
          obtain ⟨as, hl, rfl, hs⟩ := ihn (i + 1) r1 r' (by omega) h
          refine ⟨a :: as, by simp [hl], by simp, ?_⟩
          intro j b hj
          cases j with
          | zero => simp at hj; subst hj; exact ha
          | succ j => have := hs j b (by simpa using hj); rwa [show i + 1 + j = i + (j + 1) by omega] at this
        · cases h
    obtain ⟨as, hl, rfl, hs⟩ := key n 0 r r' (by omega) h
    have hm : ∀ a ∈ as, a.length = m := fun a ha => by
      obtain ⟨j, hj, rfl⟩ := List.mem_iff_getElem.1 ha
      have h1 := zh7 (hs j as[j] (List.getElem?_eq_getElem hj))
      rw [h1]
      exact (hw (0 + j) (by omega)).1
    obtain ⟨g1, g2⟩ := flatten_at hm
    refine ⟨as.flatten, rfl, by rw [g1, hl], ?_⟩
    intro i hi
    have hj : i < as.length := by omega
    rw [g2 i as[i] (List.getElem?_eq_getElem hj)]
    have := hs i as[i] (List.getElem?_eq_getElem hj)
    rwa [Nat.zero_add] at this
  | ints k n f =>
    intro _ r r' h
    simp only [zf5] at h
    have key : ∀ (n' i : Nat) (r r' : List Value), zInts k f n' i r = some r' → ∃ a, r = a ++ r' ∧ a.length = n' ∧ ∀ j, j < n' → a[j]? = some (.int k (f (i + j))) := by
      intro n'
      induction n' with
      | zero => intro i r r' h; cases h; exact ⟨[], rfl, rfl, fun j hj => by omega⟩
      | succ n' ihn =>
        intro i r r' h
        cases r with
        | nil => simp [zInts] at h
        | cons v r => cases v <;> first
          | (simp [zInts] at h; done)
          | (rename_i k' v
             simp only [zInts] at h
             split at h
             · rename_i e
               obtain ⟨rfl, rfl⟩ := e
               obtain ⟨a, rfl, hl, ha⟩ := ihn (i + 1) r r' h
               refine ⟨.int k (f i) :: a, rfl, by simp [hl], fun j hj => ?_⟩
               cases j with
               | zero => simp
               | succ j => have := ha j (by omega); rw [show i + 1 + j = i + (j + 1) by omega] at this; simpa using this
             · cases h)
    obtain ⟨a, rfl, hl, ha⟩ := key n 0 r r' h
    exact ⟨a, rfl, hl, fun i hi => by have := ha i hi; rwa [Nat.zero_add] at this⟩
  | _ => intro _ r r' h; simp [zf5] at h
theorem copies_wf {z : T} (h : wfT z) : ∀ n, wfT (copies z n)
  | 0 => trivial
  | n + 1 => ⟨h, copies_wf h n⟩
theorem zeroT_wf (P : Program) : ∀ (d : Nat) (t : TypeId) (z : T), zeroT P d t = some z → wfT z
  | 0, _, _, h => by cases h
  | d + 1, t, z, h => by
    simp only [zeroT] at h
    split at h <;> first
      | (cases h; done)
      | (cases h; trivial)
      | skip
    · have key : ∀ (l : List Field) (z : T), zFields (zeroT P d) l = some z → wfT z := by
        intro l
        induction l with
        | nil => intro z h; cases h; trivial
        | cons f r ih =>
          intro z h
          simp only [zFields] at h
          split at h
          · rename_i a b ha hb
            cases h
            exact ⟨zeroT_wf P d _ _ ha, ih _ hb⟩
          · cases h
      exact key _ _ h
    · split at h
      · rename_i k' i' hz'
        simp only [Option.some.injEq] at h
        subst h
        cases Nat.ble _ 8
        · trivial
        · exact copies_wf (z := .int k' i') trivial _
      · rename_i z' hz'
        have hw := zeroT_wf P d _ _ hz'
        simp only [Option.some.injEq] at h
        subst h
        cases Nat.ble _ 8
        · exact fun i _ => ⟨rfl, hw⟩
        · exact copies_wf hw _
      · cases h
theorem zOf_sound {P : Program} {t : TypeId} {z : T} {ρ : Rho} (h : zOf P t = some z) (w : World) : ∃ v, (zeroValue t).run P w = .ok v w ∧ (R ρ z).c v.cells.toList ∧ (z.isAgg = true → (R ρ z).v v) := by
  unfold zOf at h
  split at h
  · rename_i v z' hv hz
    split at h
    · rename_i hm
      cases hb : (z'.isAgg == isAggV v) with
      | false => rw [hb] at h; cases h
      | true =>
        rw [hb] at h
        cases h
        obtain ⟨a, ha, hc⟩ := zmatch_sound (ρ := ρ) (zeroT_wf P 20 t z hz) hm
        rw [List.append_nil] at ha
        refine ⟨v, ?_, by rw [ha]; exact hc, ?_⟩
        · cases hi : P.info? t with
          | none => simp [hi] at hv
          | some i =>
            simp [hi] at hv
            simp [zeroValue, typeInfo, hi, hv]
        · intro hg
          rw [hg] at hb
          cases v <;> simp [isAggV] at hb
          exact (R_agg hg).2 ⟨_, rfl, by rw [← ha] at hc; exact hc⟩
    · cases h
  · cases h
def evAlloc (P : Program) (G : Heap) (t : TypeId) : Option Res :=
  match zOf P t with
  | some z => some (newR G z (.ptr G.length []))
  | none => none
theorem evAlloc_sound {P : Program} {G : Heap} {t : TypeId} {r : Res} {ρ : Rho} {w : World} (h : evAlloc P G t = some r) (hf : fresh ρ G.length r.G.length) (hro : RoOK ρ w) :
    ∃ v' w', (Instr.alloc t true (.tuple #[])).run P w = .ok v' w' ∧ ∃ ρ', Post ρ ρ' G w r v' w' := by
  unfold evAlloc at h
  split at h
  · rename_i z hz
    cases h
    obtain ⟨v, hv, hc, _⟩ := zOf_sound (ρ := ρ) hz w
    have hl := zh7 hc
    refine ⟨.pointer (some ⟨w.heap.size, 0, none⟩), { w with heap := w.heap.push (.cells v.cells t) }, ?_, Post.alloc (cs := v.cells) (ty := t) { w with heap := w.heap.push (.cells v.cells t) } rfl rfl rfl rfl (hf _ (Nat.le_refl _) (by simp [newR])) hro ?_ ?_ ?_⟩
    · simp [Instr.alloc, hv, newVar, newRow]
    · rw [← hl]; simp
    · rw [← hl, List.take_length]; exact hc
    · intro ρ' _ hn
      exact ⟨_, _, hn, rfl⟩
  · cases h
theorem Stat.pure (G : Heap) (vc : Bool) (v : T) (t : Nat) : Stat G ⟨vc, v, G, t, 0⟩ := ⟨Nat.le_refl _, fun k _ h => by simp at h, fun _ _ _ => rfl⟩
theorem Stat.new (G : Heap) (z v : T) : Stat G (newR G z v) := ⟨by simp [newR], fun k _ h => by simp [newR] at h, fun k hk _ => za6 hk⟩
theorem evLoad_stat {P : Program} {G : Heap} {t : TypeId} {x : T} {r : Res} (h : evLoad P G t x = some r) : Stat G r := by
  unfold evLoad at h
  split at h
  · split at h
    · split at h
      · rename_i u n _ _
        cases hb : (Nat.beq u.size n && aggIs P t u.isAgg) with
        | false => rw [hb] at h; cases h
        | true => rw [hb] at h; cases h; exact Stat.pure _ _ _ _
      · cases h
    · cases h
  · cases h
theorem evStore_stat {P : Program} {G : Heap} {t : TypeId} {x y : T} {r : Res} (h : evStore P G t x y = some r) : Stat G r := by
  unfold evStore at h
  split at h
  · rename_i id path
    split at h
    · rename_i tr htr
      split at h
      · rename_i u n _ _
        cases hb : (Nat.beq (szAt tr path u) n && Nat.beq y.size n && (y.isAgg || y.isLeaf)) with
        | false => rw [hb] at h; cases h
        | true =>
          rw [hb] at h
          cases h
          exact ⟨by simp [zb7], fun k _ hk => ⟨hk, by rw [← tb_eq hk]; exact ⟨tr, htr⟩⟩, fun k _ hk => zj4 _ (fun e => by subst e; simp at hk)⟩
      · cases h
    · cases h
  · cases h
theorem evBox_stat {G : Heap} {x : T} {r : Res} (h : evBox G x = some r) : Stat G r := by
  unfold evBox at h
  cases hb : (x.isAgg || x.isLeaf) with
  | false => rw [hb] at h; cases h
  | true => rw [hb] at h; cases h; exact Stat.new _ _ _
theorem evAlloc_stat {P : Program} {G : Heap} {t : TypeId} {r : Res} (h : evAlloc P G t = some r) : Stat G r := by
  unfold evAlloc at h
  split at h
  · cases h; exact Stat.new _ _ _
  · cases h
end
end Go.AE
namespace Go.AE
open Go
noncomputable section
theorem foldl_splice : ∀ (us : List Value) (k off : Nat) (cells : Array Value), off + k + us.length ≤ cells.size →
    ((us.zipIdx k).foldl (fun (cs : Array Value) (p : Value × Nat) => cs.setIfInBounds (off + p.2) p.1) cells).toList = zc1 cells.toList (off + k) us
  | [], k, off, cells, _ => by simp [zc1]
  | u :: us, k, off, cells, h => by
    simp only [List.length_cons] at h
    simp only [List.zipIdx_cons, List.foldl_cons]
    rw [foldl_splice us (k + 1) off _ (by simp; omega)]
    have ho : off + k < cells.toList.length := by simp; omega
    simp only [zc1, Array.toList_setIfInBounds, List.length_cons]
    apply List.ext_getElem?
    intro j
    have hl : (cells.toList.set (off + k) u).length = cells.size := by simp
    by_cases hk : j < off + k
    · rw [List.append_assoc, List.getElem?_append_left (by simp; omega), List.getElem?_take_of_lt (by omega), List.getElem?_set_ne (by omega), List.append_assoc, List.getElem?_append_left (by simp; omega), List.getElem?_take_of_lt hk]
    · by_cases hk2 : j = off + k
      · subst hk2
        rw [List.append_assoc, List.getElem?_append_left (by simp; omega), List.getElem?_take_of_lt (by omega), List.getElem?_set_self ho, List.append_assoc, List.getElem?_append_right (by simp; omega)]
        simp only [List.length_take, Array.length_toList, Nat.min_eq_left (show off + k ≤ cells.size by omega), Nat.sub_self, List.cons_append, List.getElem?_cons_zero]
      · by_cases hk3 : j < off + k + 1 + us.length
        · rw [List.getElem?_append_left (by simp; omega), List.getElem?_append_right (by simp; omega), List.getElem?_append_left (by simp; omega), List.getElem?_append_right (by simp; omega)]
          simp only [List.length_take, Array.length_toList, List.length_set, Nat.min_eq_left (show off + k ≤ cells.size by omega), Nat.min_eq_left (show off + (k + 1) ≤ cells.size by omega)]
          rw [show j - (off + k) = (j - (off + (k + 1))) + 1 by omega, List.getElem?_cons_succ]
        · rw [List.getElem?_append_right (by simp; omega), List.getElem?_append_right (by simp; omega), List.getElem?_drop, List.getElem?_drop, List.getElem?_set_ne (by simp; omega)]
          congr 1
          simp; omega
theorem setNth_isAgg (t : T) (j : Nat) (u : T) : (setNth t j u).isAgg = t.isAgg := by cases t <;> cases j <;> rfl
theorem stepSet_isAgg (t : T) (s : Step) (u : T) : (zg5 t s u).isAgg = t.isAgg := by
  cases t
  case abs a =>
    cases a <;> cases s
    case nn.idx => cases u <;> simp only [zg5] <;> first | rfl | (split <;> rfl)
    case view.sub => cases u <;> rfl
    all_goals rfl
  all_goals cases s <;> first | exact setNth_isAgg _ _ _ | rfl | (cases u <;> simp only [zg5] <;> first | rfl | (split <;> rfl))
def fillT (place : Nat → Option (Step × Nat)) : T → List (Nat × T) → Option (Bool × T)
  | z, [] => some (true, z)
  | z, (i, x) :: rest => match place i with
    | some (s, n) => match stepT z s with
      | some u => bif Nat.beq u.size n && Nat.beq x.size n && (x.isAgg || x.isLeaf) then
          match fillT place (zg5 z s x) rest with
          | some (vc, r) => some (zh6 z s && vc, r)
          | none => none
        else none
      | none => none
    | none => none
theorem zm1 {ρ : Rho} {place : Nat → Option (Step × Nat)} {place' : Nat → Option (Nat × Nat)} (hp : ∀ i s n, place i = some (s, n) → place' i = some (s.off, n)) :
    ∀ (parts : List (Nat × T)) (parts' : List (Nat × Value)) (z z' : T) (cells : Array Value), (∀ (j i : Nat) (x : T), parts[j]? = some (i, x) → ∃ x', parts'[j]? = some (i, x') ∧ (R ρ x).v x') → parts'.length = parts.length →
    (R ρ z).c cells.toList → ∀ vc, fillT place z parts = some (vc, z') → vc = true → ∃ cells', Instr.fill place' cells parts' = some cells' ∧ (R ρ z').c cells'.toList ∧ z'.isAgg = z.isAgg
  | [], [], z, z', cells, _, _, hc, vc, h, _ => by
    simp only [fillT, Option.some.injEq, Prod.mk.injEq] at h
    obtain ⟨_, rfl⟩ := h
    exact ⟨cells, rfl, hc, rfl⟩
  | [], _ :: _, _, _, _, _, hl, _, _, _, _ => by simp at hl
  | (i, x) :: parts, parts', z, z', cells, hr, hl, hc, vc, h, hvc => by
    obtain ⟨x', hx', hxv⟩ := hr 0 i x rfl
    cases parts' with
    | nil => simp at hx'
    | cons p' parts' =>
      simp only [List.getElem?_cons_zero, Option.some.injEq] at hx'
      subst hx'
      simp only [fillT] at h
      split at h
      · rename_i s n hpl
        split at h
        · rename_i u hu
          cases hb : (Nat.beq u.size n && Nat.beq x.size n && (x.isAgg || x.isLeaf)) with
          | false => rw [hb] at h; cases h
          | true =>
            rw [hb] at h
            simp only [cond_true] at h
            split at h
            · rename_i vc' r hf
              simp only [Option.some.injEq, Prod.mk.injEq] at h
              obtain ⟨h1, rfl⟩ := h
              subst hvc
              simp only [Bool.and_eq_true] at h1 hb
              obtain ⟨⟨hb1, hb2⟩, hb3⟩ := hb
              have e1 := Nat.eq_of_beq_eq_true hb1
              have e2 := Nat.eq_of_beq_eq_true hb2
              have hxc := T.cellsOf hb3 hxv
              have hxl := zh7 hxc
              have hb5 := (zf7 hc hu h1.1).2
              have e5 : x'.cells.toList.length = x'.cells.size := Array.length_toList
              have hset := stepSet_sound hc hu h1.1 hxc (by omega)
              have e3 : (x'.cells.zipIdx.foldl (fun (cs : Array Value) (p : Value × Nat) => cs.setIfInBounds (s.off + p.2) p.1) cells).toList = zc1 cells.toList s.off x'.cells.toList := by
                have := foldl_splice x'.cells.toList 0 s.off cells (by simp only [Array.length_toList] at hb5; omega)
                rw [Nat.add_zero] at this
                rw [← this, ← Array.foldl_toList, Array.toList_zipIdx]
              obtain ⟨cells', g1, g2, g3⟩ := zm1 hp parts parts' _ r _ (fun j i x hj => by simpa using hr (j + 1) i x (by simpa using hj)) (by simpa using hl) (by rw [e3]; exact hset) vc' hf h1.2
              refine ⟨cells', ?_, g2, ?_⟩
              · simp only [Instr.fill, hp i s n hpl]
                rw [if_neg]
                · exact g1
                · simp only [Bool.or_eq_true, decide_eq_true_eq, not_or]
                  simp only [Array.length_toList] at hb5
                  omega
              · rw [g3]; exact stepSet_isAgg z s x
            · cases h
        · cases h
      · cases h
def evBuild (P : Program) (t : TypeId) (parts : List (Nat × T)) : Option (Bool × T) :=
  match zOf P t, P.underlying t with
  | some z, some (.struct fs) =>
    bif z.isAgg && fs.toList.all (fun f => (szO P f.type).isSome) then
      fillT (fun i => match fs.toList[i]? with
        | some f => match szO P f.type with
          | some n => some (.fld i f.offset, n)
          | none => none
        | none => none) z parts
    else none
  | some z, some (.array _ e) => match szO P e with
    | some m => bif z.isAgg then fillT (fun i => some (.idx i m, m)) z parts else none
    | none => none
  | _, _ => none
theorem evBuild_sound {P : Program} {t : TypeId} {parts : List (Nat × T)} {parts' : Array (Nat × Value)} {vc : Bool} {v : T} {ρ : Rho} (h : evBuild P t parts = some (vc, v)) (hvc : vc = true)
    (hr : ∀ (j i : Nat) (x : T), parts[j]? = some (i, x) → ∃ x', parts'.toList[j]? = some (i, x') ∧ (R ρ x).v x') (hl : parts'.toList.length = parts.length) (w : World) :
    ∃ v', (Instr.build t parts').run P w = .ok v' w ∧ (R ρ v).v v' := by
  unfold evBuild at h
  split at h
  · rename_i z fs hz hu
    cases hb : (z.isAgg && fs.toList.all (fun f => (szO P f.type).isSome)) with
    | false => rw [hb] at h; cases h
    | true =>
      rw [hb] at h
      simp only [Bool.and_eq_true, List.all_eq_true] at hb
      obtain ⟨zv, hzv, hzc, _⟩ := zOf_sound (ρ := ρ) hz w
      have hpl : ∀ l : List Field, (∀ f ∈ l, (szO P f.type).isSome = true) → l.mapM (fun f => (P.info? f.type).map fun i => (f.offset, i.size)) = some (l.map fun f => (f.offset, (szO P f.type).getD 0)) := by
        intro l
        induction l with
        | nil => intro _; rfl
        | cons f l ih =>
          intro h'
          have h1 := h' f (by simp)
          simp only [szO] at h1
          cases hi : P.info? f.type with
          | none => simp [hi] at h1
          | some i => simp [List.mapM_cons, ih (fun f hf => h' f (by simp [hf])), hi, szO]
      have hrun := run_places w _ _ (hpl fs.toList hb.2)
      obtain ⟨cells', g1, g2, g3⟩ := zm1 (ρ := ρ) (place' := fun i => (fs.toList.map fun f => (f.offset, (szO P f.type).getD 0)).toArray[i]?) (fun i s n hp => by
          split at hp
          · rename_i f hf
            split at hp
            · rename_i n' hn'
              cases hp
              have hf' : fs[i]? = some f := by simpa using hf
              simp [hf', hn', Step.off]
            · cases hp
          · cases hp) parts parts'.toList z v zv.cells hr hl hzc vc h hvc
      refine ⟨.agg cells', ?_, (R_agg (g3.trans hb.1)).2 ⟨_, rfl, g2⟩⟩
      have hmap : (fs.mapM fun (f : Field) => do pure (f.offset, ← sizeOf f.type)).run P w = .ok (fs.toList.map fun f => (f.offset, (szO P f.type).getD 0)).toArray w := by
        rw [Array.mapM_eq_mapM_toList]
        have : (fun (f : Field) => (do pure (f.offset, ← sizeOf f.type) : Sem (Nat × Nat))) = fun f => Prod.mk f.offset <$> sizeOf f.type := by
          funext f; rfl
        rw [this]
        simp [hrun]
      simp only [Instr.build, Sem.run_bind, hzv, Result.andThen_ok, run_underlying hu, hmap]
      rw [g1]; rfl
  · rename_i z n e hz hu
    split at h
    · rename_i m hm
      cases hb : z.isAgg with
      | false => rw [hb] at h; cases h
      | true =>
        rw [hb] at h
        obtain ⟨zv, hzv, hzc, _⟩ := zOf_sound (ρ := ρ) hz w
        obtain ⟨cells', g1, g2, g3⟩ := zm1 (ρ := ρ) (place' := fun i => some (i * m, m)) (fun i s n hp => by
            simp only [Option.some.injEq, Prod.mk.injEq] at hp
            obtain ⟨rfl, rfl⟩ := hp
            rfl) parts parts'.toList z v zv.cells hr hl hzc vc h hvc
        refine ⟨.agg cells', ?_, (R_agg (g3.trans hb)).2 ⟨_, rfl, g2⟩⟩
        simp only [Instr.build, Sem.run_bind, hzv, Result.andThen_ok, run_underlying hu, zd1 hm]
        rw [g1]; rfl
    · cases h
  · cases h
end
end Go.AE
namespace Go.AE
open Go
noncomputable section
variable {P : Program}
def elemO (P : Program) (t : TypeId) : Option (TypeId × TypeInfo × Value) :=
  match P.underlying t with
  | some (.slice e) => match P.info? e with
    | some i => match i.zero with
      | some z => some (e, i, z)
      | none => none
    | none => none
  | _ => none
theorem zd7 {t e : TypeId} {i : TypeInfo} {z : Value} (h : elemO P t = some (e, i, z)) : P.underlying t = some (.slice e) ∧ P.info? e = some i ∧ i.zero = some z := by
  unfold elemO at h
  split at h
  · rename_i e' hu
    split at h
    · rename_i i' hi
      split at h
      · rename_i z' hz
        cases h
        exact ⟨hu, hi, hz⟩
      · cases h
    · cases h
  · cases h
theorem Post.anyVc {ρ ρ' : Rho} {G G' : Heap} {w w' : World} {vc vc2 : Bool} {v : T} {t t2 m : Nat} {v' : Value} (h : Post ρ ρ' G w ⟨vc, v, G', t, m⟩ v' w') : Post ρ ρ' G w ⟨vc2, v, G', t2, m⟩ v' w' :=
  ⟨h.ext, h.dom, h.val, h.sim, h.vac, h.new, h.inj, h.frame, h.size, h.os, h.tape, h.output, h.ro, h.dis⟩
def evMake (P : Program) (G : Heap) (t : TypeId) (l c : T) : Option Res :=
  match elemO P t, l, c with
  | some (e, i, .int k 0), .int _ l, .int _ c => bif Nat.beq i.size 1 then
      some ⟨decide (0 ≤ l ∧ l ≤ c) && decide ((i.bytes : Int) * c ≤ 281474976710656 ∧ c ≤ 9223372036854775807), .slice G.length [] 0 1 l.toNat (some c.toNat), G ++ [some (.ints k c.toNat fun _ => 0)], 0, 0⟩ else none
  | _, _, _ => none
theorem madeCells_int (k : IntKind) (n j : Nat) (h : j < n) : (madeCells (Value.cells (.int k 0)) n).toList[j]? = some (.int k 0) := by
  simp [madeCells, Value.cells, h, Nat.mod_one]
theorem evMake_sound {G : Heap} {t : TypeId} {l c : T} {r : Res} {ρ : Rho} {l' c' : Value} {w : World} (h : evMake P G t l c = some r) (hvc : r.vc = true) (hl : (R ρ l).v l') (hc : (R ρ c).v c') (hf : fresh ρ G.length r.G.length) (hro : RoOK ρ w) :
    ∃ v' w', (Instr.makeSlice t l' c').run P w = .ok v' w' ∧ ∃ ρ', Post ρ ρ' G w r v' w' := by
  unfold evMake at h
  split at h
  · rename_i e i k kl l kc c he
    obtain ⟨hu, hi, hz⟩ := zd7 he
    obtain rfl : l' = _ := hl
    obtain rfl : c' = _ := hc
    cases hs : Nat.beq i.size 1 with
    | false => rw [hs] at h; cases h
    | true =>
      rw [hs] at h
      have hs1 := Nat.eq_of_beq_eq_true hs
      cases h
      simp only [Bool.and_eq_true, decide_eq_true_eq] at hvc
      obtain ⟨⟨h1, h2⟩, h3, h4⟩ := hvc
      have hr := run_make (P := P) w t e i (.int k 0) hu hi hz kl kc l c h1 h2 h3 h4
      refine ⟨_, _, hr, ?_⟩
      have hsz : (madeCells (Value.cells (.int k 0)) (c.toNat * i.size)).size = c.toNat := by rw [size_madeCells, hs1, Nat.mul_one]
      refine Exists.imp (fun _ h => h.anyVc) (Post.alloc (z := .ints k c.toNat fun _ => 0) (v := .slice G.length [] 0 1 l.toNat (some c.toNat)) (cs := madeCells (Value.cells (.int k 0)) (c.toNat * i.size)) (ty := e) (w.alloc (.cells (madeCells (Value.cells (.int k 0)) (c.toNat * i.size)) e)) rfl rfl rfl rfl (hf G.length (Nat.le_refl _) (by simp)) hro ?_ ?_ ?_)
      · rw [hsz]; exact Nat.le_refl _
      · refine ⟨by simp [T.size, hsz], fun j hj => ?_⟩
        have e1 : (madeCells (Value.cells (.int k 0)) (c.toNat * i.size)).toList.take (T.size (.ints k c.toNat fun _ => 0)) = (madeCells (Value.cells (.int k 0)) (c.toNat * i.size)).toList := by
          rw [List.take_of_length_le]
          show _ ≤ c.toNat
          rw [Array.length_toList, hsz]
          exact Nat.le_refl _
        rw [e1]
        exact madeCells_int k _ j (by rw [hs1]; omega)
      · intro ρ' _ hn
        exact .inl ⟨_, _, hn, by simp [zc7, poff]⟩
  · cases h
def contI (G : Heap) : T → Option (Bool × IntKind × Nat × (Nat → Int) × Nat)
  | .slice id path lo m len _ => bif Nat.beq m 1 then match hget G id with
    | some tr => match get tr path with
      | some (.ints k n f) => some (getOK tr path && decide (lo + len ≤ n), k, len, fun j => f (lo + j), 2 ^ id)
      | _ => none
    | none => none
    else none
  | .str s => some (true, .u8, s.size, fun j => ((s.data.toList.getD j 0).toNat : Nat), 0)
  | .fsi k n f _ => some (true, k, n, f, 0)
  | _ => none
def zb2 (k : IntKind) (n : Nat) (f : Nat → Int) : List Value := (List.range n).map fun j => .int k (f j)
theorem za5 (k : IntKind) (n : Nat) (f : Nat → Int) : (zb2 k n f).length = n := by simp [zb2]
theorem ze2 (k : IntKind) (n : Nat) (f : Nat → Int) {j : Nat} (h : j < n) : (zb2 k n f)[j]? = some (.int k (f j)) := by simp [zb2, h]
theorem zn2 {ρ : Rho} (k : IntKind) (n : Nat) (f : Nat → Int) : (R ρ (.ints k n f)).c (zb2 k n f) := ⟨za5 k n f, fun _ hj => ze2 k n f hj⟩
def Holds (P : Program) (x' : Value) (n : Nat) (cs : List Value) (w : World) : Prop :=
  (Builtin.lenOf x').run P w = .ok n w ∧ (Builtin.firstCells 1 n x').run P w = .ok cs.toArray w ∧ (Builtin.firstCells 1 n x').run P w.drew = .ok cs.toArray w.drew
theorem Frz.first {ρ : Rho} {m n : Nat} {q : Nat → List Value → Prop} {cap : Option Nat} {x : Value} {w : World} (h : Frz ρ.ro m n q cap x) (hro : RoOK ρ w) :
    ∃ (a : Option Addr) (c : Nat) (cs : List Value), x = .slice a n c ∧ n ≤ c ∧ (∀ c', cap = some c' → c = c') ∧ cs.length = n * m ∧ (∀ i, i < n → q i (cut cs (i * m) m)) ∧ ∀ w1 : World, w1.heap = w.heap → (Builtin.firstCells m n x).run P w1 = .ok cs.toArray w1 := by
  obtain ⟨a, c, rfl, h2, h3, h4⟩ := h
  rcases Nat.eq_zero_or_pos n with h0 | h0
  · subst h0
    refine ⟨a, c, [], rfl, h2, h3, by simp, fun i hi => by omega, fun w1 _ => ?_⟩
    cases a <;> simp [Builtin.firstCells, loadCells, loadCellsFrom]
  · obtain ⟨b, off, cs, rfl, g1, g2, g3⟩ := h4 h0
    obtain ⟨ty, fr, g4⟩ := hro b cs g1
    have hlen : (cut cs.toList off (n * m)).length = n * m := zg7 (by simpa using g2)
    refine ⟨_, c, cut cs.toList off (n * m), rfl, h2, h3, hlen, fun i hi => ?_, fun w1 hw => ?_⟩
    · have e : cut (cut cs.toList off (n * m)) (i * m) m = cut cs.toList (off + i * m) m := by
        have : i * m + m ≤ n * m := by rw [← Nat.succ_mul]; exact Nat.mul_le_mul_right _ hi
        simp only [cut]
        rw [List.drop_take, List.take_take, Nat.min_eq_left (by omega), List.drop_drop]
      rw [e]
      exact g3 i hi
    · refine run_firstCells_some (P := P) w1 m n _ n c _ hlen fun j v hj => ?_
      have hlt := (List.getElem?_eq_some_iff.1 hj).1
      rw [hlen] at hlt
      rw [zf0 hlt] at hj
      rw [zb8, zn3 (w := w1) (by rw [hw]; exact g4)]
      simpa using hj
theorem Frz.ints {k : IntKind} {n : Nat} {f : Nat → Int} {cs : List Value} (hl : cs.length = n * 1) (h : ∀ i, i < n → cut cs (i * 1) 1 = [.int k (f i)]) : cs = zb2 k n f := by
  apply List.ext_getElem?
  intro j
  by_cases hj : j < n
  · rw [ze2 k n f hj]
    have h1 := h j hj
    have h2 : (cut cs (j * 1) 1)[0]? = cs[j]? := by rw [zf0 (by omega)]; simp
    rw [← h2, h1]; rfl
  · rw [List.getElem?_eq_none (by omega), List.getElem?_eq_none (by rw [za5]; omega)]
theorem zh4 {G : Heap} {x : T} {vc : Bool} {k : IntKind} {n : Nat} {f : Nat → Int} {tm : Nat} {ρ : Rho} {x' : Value} {w : World} (h : contI G x = some (vc, k, n, f, tm)) (hvc : vc = true) (hx : (R ρ x).v x') {t : Nat}
    (ht : ∀ i, tm.testBit i = true → t.testBit i = true) (hsim : Sim (bitK t) ρ G w) : Holds P x' n (zb2 k n f) w := by
  subst hvc
  unfold contI at h
  split at h
  · rename_i id path lo m len cap
    cases hm : Nat.beq m 1 with
    | false => rw [hm] at h; cases h
    | true =>
      rw [hm] at h
      have hm1 := Nat.eq_of_beq_eq_true hm
      subst hm1
      simp only [cond_true] at h
      split at h
      · rename_i tr htr
        split at h
        · rename_i k0 n0 f0 hg
          simp only [Option.some.injEq, Prod.mk.injEq, Bool.and_eq_true, decide_eq_true_eq] at h
          obtain ⟨⟨h1, h2⟩, rfl, rfl, rfl, rfl⟩ := h
          rcases hx with ⟨b, sz, hr, hs⟩ | ⟨rfl, rfl, rfl, rfl⟩
          rotate_left
          · exact ⟨rfl, by simp [Builtin.firstCells, zb2], by simp [Builtin.firstCells, zb2]⟩
          obtain ⟨cs, ty, fr, g1, g2, g3, g4, g5, g5'⟩ := hsim.blk id tr _ (ht _ (zf6 id)) htr hr
          obtain ⟨h6, h7⟩ := zi3 g4 hg h1
          simp only [List.length_take, Array.length_toList] at h7
          rw [cut_take (by omega)] at h6
          obtain ⟨e6, h6⟩ := h6
          have hT : T.size (.ints k0 n0 f0) = n0 := rfl
          rw [hT] at h6 h7
          have cell : ∀ j, j < len → cs[poff path + lo + j]? = some (.int k0 (f0 (lo + j))) := fun j hj => by
            have := h6 (lo + j) (by omega)
            rw [zf0 (by omega)] at this
            rw [← Nat.add_assoc] at this
            simpa using this
          have key : ∀ (w1 : World), w1.heap = w.heap → ∀ (c : Nat), (Builtin.firstCells 1 len (.slice (some ⟨b, poff path + lo, none⟩) len c)).run P w1 = .ok (zb2 k0 len fun j => f0 (lo + j)).toArray w1 := fun w1 hw c => by
            refine run_firstCells_some (P := P) w1 1 len _ len c _ (by rw [za5, Nat.mul_one]) fun j v hj => ?_
            have hlt : j < len := by
              have := (List.getElem?_eq_some_iff.1 hj).1
              rwa [za5] at this
            rw [ze2 k0 len _ hlt] at hj
            cases hj
            rw [zb8, zn3 (w := w1) (by rw [hw]; exact g1)]
            exact cell j hlt
          cases cap with
          | some c =>
            simp only [zc7, Nat.mul_one] at hs
            subst hs
            exact ⟨rfl, key w rfl c, key w.drew rfl c⟩
          | none =>
            obtain ⟨rfl, _, (⟨c, rfl, _, _⟩ | ⟨h0, a, rfl, ha⟩)⟩ := hs
            · have := key
              simp only [poff, Nat.zero_add] at this
              simp only [Nat.mul_one]
              exact ⟨rfl, this w rfl c, this w.drew rfl c⟩
            · subst h0
              refine ⟨rfl, ?_, ?_⟩ <;> cases a <;> simp [Builtin.firstCells, zb2, loadCells, loadCellsFrom]
        · cases h
      · cases h
  · rename_i s
    cases h
    obtain rfl : x' = _ := hx
    have e : ((s.extract 0 s.size).data.map fun b => (Value.int .u8 b.toNat : Value)) = (zb2 .u8 s.size fun j => ((s.data.toList.getD j 0).toNat : Nat)).toArray := by
      apply Array.ext'
      apply List.ext_getElem?
      intro j
      by_cases hj : j < s.size
      · have hl : j < s.data.toList.length := by simpa using hj
        have hl' : j < s.data.size := by simpa using hj
        rw [show ((zb2 .u8 s.size fun j => ((s.data.toList.getD j 0).toNat : Nat)).toArray).toList = zb2 .u8 s.size fun j => ((s.data.toList.getD j 0).toNat : Nat) from rfl, ze2 _ _ _ hj]
        have e2 : s.extract 0 s.size = s := by simp
        rw [e2]
        simp [List.getD_eq_getElem?_getD, Array.getElem?_eq_getElem hl']
      · have hl : ¬ j < s.data.size := by simpa using hj
        rw [List.getElem?_eq_none, List.getElem?_eq_none]
        · simp [zb2]; omega
        · have e2 : s.extract 0 s.size = s := by simp
          rw [e2]
          simp; omega
    exact ⟨rfl, by simp only [Builtin.firstCells, Sem.run_pure]; rw [e], by simp only [Builtin.firstCells, Sem.run_pure]; rw [e]⟩
  · rename_i k0 n0 f0 cap0
    have hx' : Frz ρ.ro 1 n0 (fun i cs => cs = [.int k0 (f0 i)]) cap0 x' := hx
    cases h
    obtain ⟨a, c, cs, rfl, h1, h2, h3, h4, h5⟩ := Frz.first (P := P) hx' hsim.ro
    have e := Frz.ints h3 h4
    subst e
    exact ⟨rfl, h5 w rfl, h5 w.drew rfl⟩
  · cases h
def intOf : T → Option Int
  | .num z => some z
  | .int .i64 z => some z
  | _ => none
theorem intOf_R {ρ : Rho} {x : T} {z : Int} {x' : Value} (h : intOf x = some z) (hx : (R ρ x).v x') : x' = .int .i64 z := by
  unfold intOf at h
  split at h
  · cases h; exact hx
  · cases h; exact hx
  · cases h
def catF (n : Nat) (f g : Nat → Int) : Nat → Int := fun j => bif Nat.blt j n then f j else g (j - n)
theorem zq3 (k : IntKind) (n m : Nat) (f g : Nat → Int) : zb2 k (n + m) (catF n f g) = zb2 k n f ++ zb2 k m g := by
  apply List.ext_getElem?
  intro j
  by_cases h1 : j < n
  · rw [ze2 _ _ _ (by omega), List.getElem?_append_left (by rw [za5]; exact h1), ze2 _ _ _ h1]
    have : Nat.blt j n = true := Nat.ble_eq_true_of_le h1
    unfold catF
    rw [this]; rfl
  · have hb : Nat.blt j n = false := by
      cases hb : Nat.blt j n
      · rfl
      · exact absurd (Nat.le_of_ble_eq_true hb) h1
    by_cases h2 : j < n + m
    · rw [ze2 _ _ _ h2, List.getElem?_append_right (by rw [za5]; omega), za5, ze2 _ _ _ (by omega)]
      unfold catF
      rw [hb]; rfl
    · rw [List.getElem?_eq_none (by rw [za5]; omega), List.getElem?_eq_none (by rw [List.length_append, za5, za5]; omega)]
def isRow (P : Program) (u : TypeId) : Bool :=
  match P.underlying u with
  | some (.slice _) => true
  | some .string => true
  | _ => false
theorem app_grow {t u e : TypeId} {i : TypeInfo} {z : Value} {ty : TypeId} {base : Option Addr} {n c m : Nat} {x' : Value} {olds news : List Value} {w : World} (he : elemO P t = some (e, i, z)) (hu : isRow P u = true) (hs : i.size = 1)
    (hold : (Builtin.firstCells 1 n (.slice base n c)).run P w.drew = .ok olds.toArray w.drew) (hx : Holds P x' m news w) (hg : c < n + m) (hb : (n + m) * i.bytes ≤ 140737488355328) (h63 : n + m ≤ 9223372036854775807) :
    (Builtin.append_ #[t, u] ty #[.slice base n c, x']).run P w =
      .ok (.slice (some ⟨w.heap.size, 0, none⟩) (n + m) (grownCap w (n + m) c e)) (w.drew.alloc (.cells (olds.toArray ++ news.toArray ++ Builtin.zeroCells z.cells (grownCap w (n + m) c e - (n + m))) e)) := by
  obtain ⟨h1, h2, h3⟩ := zd7 he
  obtain ⟨x1, x2, x3⟩ := hx
  have hn : ¬ (n + m ≤ c) := by omega
  have h63' : ¬ (9223372036854775807 < ((n : Int) + (m : Int))) := by omega
  have h48' : ¬ (281474976710656 < Builtin.nextslicecap (n + m) c * i.bytes) := by
    have := growslice_fits hg hb
    omega
  unfold isRow at hu
  split at hu
  · rename_i e2 hu2
    simp [Builtin.append_, run_underlying h1, run_underlying hu2, sizeOf, typeInfo, zeroValue, h2, h3, hs, x1, hn, h63', h48', Question.forced, hold, x3, newRow, grownCap]
    congr 2
    apply Array.ext'
    simp [List.append_assoc]
  · rename_i hu2
    simp [Builtin.append_, run_underlying h1, run_underlying hu2, sizeOf, typeInfo, zeroValue, h2, h3, hs, x1, hn, h63', h48', Question.forced, hold, x3, newRow, grownCap]
    congr 2
    apply Array.ext'
    simp [List.append_assoc]
  · cases hu
theorem app_room {t u e : TypeId} {i : TypeInfo} {z : Value} {ty : TypeId} {b off : Nat} {n c m : Nat} {x' : Value} {news : List Value} {w : World} (he : elemO P t = some (e, i, z)) (hu : isRow P u = true) (hs : i.size = 1)
    (hx : Holds P x' m news w) (hg : n + m ≤ c) {cs : Array Value} {ty0 : TypeId} {fr : Nat × Nat} (h : w.heap[b]? = some (.cells cs ty0 fr)) (hf : ∀ i, i < cs.size → ¬(fr.1 ≤ i ∧ i < fr.2)) (hb : off + n + news.length ≤ cs.size) (hc : ∀ x ∈ news, ze8 x) :
    (Builtin.append_ #[t, u] ty #[.slice (some ⟨b, off, none⟩) n c, x']).run P w = .ok (.slice (some ⟨b, off, none⟩) (n + m) c) (w.setCells b (off + n) news) := by
  obtain ⟨h1, h2, h3⟩ := zd7 he
  obtain ⟨x1, x2, x3⟩ := hx
  have hst := ze3 (P := P) h hf (off := off + n) (us := news) hb hc
  unfold isRow at hu
  split at hu
  · rename_i e2 hu2
    simp [Builtin.append_, run_underlying h1, run_underlying hu2, sizeOf, typeInfo, h2, hs, x1, hg, x2, zb8, hst]
  · rename_i hu2
    simp [Builtin.append_, run_underlying h1, run_underlying hu2, sizeOf, typeInfo, h2, hs, x1, hg, x2, zb8, hst]
  · cases hu
theorem Post.consume {ρ : Rho} {G : Heap} {w w1 : World} {vc : Bool} {v z tr : T} {v' : Value} {id t : Nat} {b sz : Nat} {p : Nat × Nat} (hid : hget G id = some tr) (hr : ρ id = some (b, sz)) (hf : ρ G.length = none) (hro : RoOK ρ w) (hdis : ρ.ro b = none) (hp : p.1 = b ∨ w.heap.size ≤ p.1)
    (hblk : Blk ρ z p w1) (hfr : ∀ b', b' < w.heap.size → b' ≠ b → w1.heap[b']? = w.heap[b']?) (hs : w.heap.size ≤ w1.heap.size) (ho : w1.os = w.os) (ht : w1.tape = w.tape) (hu : w1.output = w.output)
    (hv : ∀ ρ' : Rho, ρ.Ext ρ' → ρ' G.length = some p → (R ρ' v).v v') : ∃ ρ', Post ρ ρ' G w ⟨vc, v, hset G id none ++ [some z], t, 2 ^ id⟩ v' w1 := by
  let ρ' : Rho := ⟨fun k => if k = G.length then some p else ρ k, ρ.ro⟩
  have hext : ρ.Ext ρ' := ⟨fun k q hk => by
    by_cases e : k = G.length
    · rw [e, hf] at hk; cases hk
    · simp [ρ', e, hk], fun _ _ h => h⟩
  have hnew : ρ' G.length = some p := by simp [ρ']
  have hlen : (hset G id none).length = G.length := zb7 _ _ _
  have hidl := za7 hid
  have hlt : ∀ k t, G.length ≤ k → hget (hset G id none ++ [some z]) k = some t → k = G.length ∧ t = z := fun k t hk hg => by
    have h1 := za7 hg
    simp only [List.length_append, List.length_singleton, hlen] at h1
    have : k = G.length := by omega
    subst this
    have e := zi1 (hset G id none) z
    rw [hlen] at e
    rw [e] at hg
    cases hg
    exact ⟨rfl, rfl⟩
  have hnone : hget (hset G id none ++ [some z]) id = none := by
    rw [za6 (by rw [hlen]; exact hidl), zc8 _ hidl]
  refine ⟨ρ', ?_⟩
  exact {
    ext := hext
    dom := fun k hk => by
      simp only [List.length_append, List.length_singleton, hlen] at hk
      have : k ≠ G.length := by omega
      simp [ρ', this]
    val := hv ρ' hext hnew
    sim := fun k t q hk hg hq => by
      rcases hk with hk | hk
      · obtain ⟨rfl, rfl⟩ := hlt k t hk hg
        rw [hnew] at hq
        cases hq
        exact hblk.mono hext
      · have := tb_eq hk
        subst this
        rw [hnone] at hg
        cases hg
    vac := fun k t hk hg hq => by
      rcases hk with hk | hk
      · obtain ⟨rfl, rfl⟩ := hlt k t hk hg
        rw [hnew] at hq
        cases hq
      · have := tb_eq hk
        subst this
        rw [hnone] at hg
        cases hg
    new := fun k t q hk hg hq => by
      obtain ⟨rfl, rfl⟩ := hlt k t hk hg
      rw [hnew] at hq
      cases hq
      rcases hp with hp | hp
      · exact .inr ⟨id, (b, sz), hidl, zf6 id, hnone, hr, hp.symm⟩
      · exact .inl hp
    inj := fun k k' t t' q q' hk hk' hg hg' _ _ _ => by
      rw [(hlt k t hk hg).1, (hlt k' t' hk' hg').1]
    ro := fun _ _ h => .inl h
    dis := fun k t q hk hg hq => by
      rcases hk with hk | hk
      · obtain ⟨rfl, rfl⟩ := hlt k t hk hg
        rw [hnew] at hq
        cases hq
        rcases hp with hp | hp
        · rw [hp]; exact hdis
        · exact hro.new hp
      · have := tb_eq hk
        subst this
        rw [hnone] at hg
        cases hg
    frame := fun b' hb hne => hfr b' hb (fun e => hne id (b, sz) hidl (zf6 id) hr e.symm)
    size := hs
    os := ho
    tape := ht
    output := hu }
theorem Post.consumeN {ρ : Rho} {G : Heap} {w w1 : World} {vc : Bool} {v z tr : T} {v' : Value} {id t : Nat} {p : Nat × Nat} (hid : hget G id = some tr) (hf : ρ G.length = none) (hro : RoOK ρ w) (hp : w.heap.size ≤ p.1)
    (hblk : Blk ρ z p w1) (hfr : ∀ b', b' < w.heap.size → w1.heap[b']? = w.heap[b']?) (hs : w.heap.size ≤ w1.heap.size) (ho : w1.os = w.os) (ht : w1.tape = w.tape) (hu : w1.output = w.output)
    (hv : ∀ ρ' : Rho, ρ.Ext ρ' → ρ' G.length = some p → (R ρ' v).v v') : ∃ ρ', Post ρ ρ' G w ⟨vc, v, hset G id none ++ [some z], t, 2 ^ id⟩ v' w1 := by
  let ρ' : Rho := ⟨fun k => if k = G.length then some p else ρ k, ρ.ro⟩
  have hext : ρ.Ext ρ' := ⟨fun k q hk => by
    by_cases e : k = G.length
    · rw [e, hf] at hk; cases hk
    · simp [ρ', e, hk], fun _ _ h => h⟩
  have hnew : ρ' G.length = some p := by simp [ρ']
  have hlen : (hset G id none).length = G.length := zb7 _ _ _
  have hidl := za7 hid
  have hlt : ∀ k t, G.length ≤ k → hget (hset G id none ++ [some z]) k = some t → k = G.length ∧ t = z := fun k t hk hg => by
    have h1 := za7 hg
    simp only [List.length_append, List.length_singleton, hlen] at h1
    have : k = G.length := by omega
    subst this
    have e := zi1 (hset G id none) z
    rw [hlen] at e
    rw [e] at hg
    cases hg
    exact ⟨rfl, rfl⟩
  have hnone : hget (hset G id none ++ [some z]) id = none := by
    rw [za6 (by rw [hlen]; exact hidl), zc8 _ hidl]
  refine ⟨ρ', ?_⟩
  exact {
    ext := hext
    dom := fun k hk => by
      simp only [List.length_append, List.length_singleton, hlen] at hk
      have : k ≠ G.length := by omega
      simp [ρ', this]
    val := hv ρ' hext hnew
    sim := fun k t q hk hg hq => by
      rcases hk with hk | hk
      · obtain ⟨rfl, rfl⟩ := hlt k t hk hg
        rw [hnew] at hq
        cases hq
        exact hblk.mono hext
      · have := tb_eq hk
        subst this
        rw [hnone] at hg
        cases hg
    vac := fun k t hk hg hq => by
      rcases hk with hk | hk
      · obtain ⟨rfl, rfl⟩ := hlt k t hk hg
        rw [hnew] at hq
        cases hq
      · have := tb_eq hk
        subst this
        rw [hnone] at hg
        cases hg
    new := fun k t q hk hg hq => by
      obtain ⟨rfl, rfl⟩ := hlt k t hk hg
      rw [hnew] at hq
      cases hq
      exact .inl hp
    inj := fun k k' t t' q q' hk hk' hg hg' _ _ _ => by
      rw [(hlt k t hk hg).1, (hlt k' t' hk' hg').1]
    ro := fun _ _ h => .inl h
    dis := fun k t q hk hg hq => by
      rcases hk with hk | hk
      · obtain ⟨rfl, rfl⟩ := hlt k t hk hg
        rw [hnew] at hq
        cases hq
        exact hro.new hp
      · have := tb_eq hk
        subst this
        rw [hnone] at hg
        cases hg
    frame := fun b' hb _ => hfr b' hb
    size := hs
    os := ho
    tape := ht
    output := hu }
theorem Post.vacate {ρ : Rho} {G : Heap} {w : World} {vc : Bool} {v z : T} {v' : Value} (G1 : Heap) (m t : Nat) (hlen : G1.length = G.length) (hm : ∀ k, m.testBit k = true → k < G.length → hget G1 k = none) (hf : ρ G.length = none) (hz : z.size = 0)
    (hv : (R ρ v).v v') : Post ρ ρ G w ⟨vc, v, G1 ++ [some z], t, m⟩ v' w := by
  have hlt : ∀ k t, G.length ≤ k → hget (G1 ++ [some z]) k = some t → k = G.length ∧ t = z := fun k t hk hg => by
    have h1 := za7 hg
    simp only [List.length_append, List.length_singleton, hlen] at h1
    have : k = G.length := by omega
    subst this
    have e := zi1 G1 z
    rw [hlen] at e
    rw [e] at hg
    cases hg
    exact ⟨rfl, rfl⟩
  have hold : ∀ k t, m.testBit k = true → hget (G1 ++ [some z]) k = some t → k = G.length ∧ t = z := fun k t hk hg => by
    rcases Nat.lt_or_ge k G.length with h | h
    · rw [za6 (by omega), hm k hk h] at hg; cases hg
    · exact hlt k t h hg
  have hboth : ∀ k t, G.length ≤ k ∨ m.testBit k = true → hget (G1 ++ [some z]) k = some t → k = G.length ∧ t = z := fun k t hk hg => by
    rcases hk with hk | hk
    · exact hlt k t hk hg
    · exact hold k t hk hg
  exact {
    ext := Rho.Ext.refl ρ
    dom := fun _ _ => rfl
    val := hv
    sim := fun k t q hk hg hq => by
      obtain ⟨rfl, rfl⟩ := hboth k t hk hg
      rw [hf] at hq; cases hq
    vac := fun k t hk hg hq => by
      obtain ⟨rfl, rfl⟩ := hboth k t hk hg
      exact hz
    new := fun k t q hk hg hq => by
      obtain ⟨rfl, rfl⟩ := hlt k t hk hg
      rw [hf] at hq; cases hq
    inj := fun k k' t t' q q' hk hk' hg hg' _ _ _ => by
      rw [(hlt k t hk hg).1, (hlt k' t' hk' hg').1]
    ro := fun _ _ h => .inl h
    dis := fun k t q hk hg hq => by
      obtain ⟨rfl, rfl⟩ := hboth k t hk hg
      rw [hf] at hq; cases hq
    frame := fun _ _ _ => rfl
    size := Nat.le_refl _
    os := rfl
    tape := rfl
    output := rfl }
def sizeB (i : TypeInfo) (n : Nat) : Bool := Nat.ble (n * i.bytes) 140737488355328 && Nat.ble n 9223372036854775807
theorem zi7 {i : TypeInfo} {n : Nat} (h : sizeB i n = true) : n * i.bytes ≤ 140737488355328 ∧ n ≤ 9223372036854775807 := by
  unfold sizeB at h
  simp only [Bool.and_eq_true] at h
  exact ⟨Nat.le_of_ble_eq_true h.1, Nat.le_of_ble_eq_true h.2⟩
def zm8 : T → Bool
  | .nilslice => true
  | .slice _ _ _ _ n (some c) => Nat.ble n c
  | .slice _ _ _ _ _ none => true
  | _ => false
def zr8 : T → Bool
  | .nilslice => true
  | _ => false
def appTo (G : Heap) (i : TypeInfo) (vc : Bool) (k : IntKind) (m : Nat) (g : Nat → Int) (tm : Nat) (s : T) : Option Res :=
  match s with
  | .nilslice => some ⟨vc && sizeB i m, .slice G.length [] 0 1 m none, G ++ [some (.ints k m g)], tm, 0⟩
  | .slice id path lo q n (some c) => bif Nat.ble (n + m) c then (bif Nat.beq m 0 then some ⟨vc, .slice id path lo q n (some c), G, tm, 0⟩ else none) else
    match contI G (.slice id path lo q n (some c)) with
    | some (vc', k', n', f, tm') => bif decide (k = k') && Nat.beq n n' then some ⟨(vc && vc') && sizeB i (n + m), .slice G.length [] 0 1 (n + m) none, G ++ [some (.ints k (n + m) (catF n f g))], tm ||| tm', 0⟩ else none
    | none => none
  | .slice id [] 0 q n none => match hget G id with
    | some (.ints k' n0 f) => bif decide (k = k') && Nat.beq q 1 then some ⟨vc && (decide (n ≤ n0) && sizeB i (n + m)), .slice G.length [] 0 1 (n + m) none, hset G id none ++ [some (.ints k (n + m) (catF n f g))], tm ||| 2 ^ id, 2 ^ id⟩ else none
    | _ => none
  | _ => none
def evAppend (P : Program) (G : Heap) (t u : TypeId) (s x : T) : Option Res :=
  match elemO P t with
  | none => none
  | some (_, i, z) => bif !(isRow P u && Nat.beq i.size 1 && Nat.beq z.cells.size 1) then none else
    bif zr8 x && zm8 s then some ⟨true, s, G, 0, 0⟩ else
    match contI G x with
    | none => none
    | some (vc, k, m, g, tm) => appTo G i vc k m g tm s
def zs4 (P : Program) (G : Heap) (t u : TypeId) (s x : T) : Option Res :=
  match elemO P t, P.underlying u, intOf x with
  | some (_, i, .int k 0), some (.int _), some l => bif Nat.beq i.size 1 then appTo G i (decide (0 ≤ l)) k l.toNat (fun _ => 0) 0 s else none
  | _, _, _ => none
theorem R_slice_shape {ρ : Rho} {s : T} {s' : Value} (h : zm8 s = true) (hs : (R ρ s).v s') : ∃ a n c, s' = .slice a n c ∧ n ≤ c := by
  unfold zm8 at h
  split at h
  · obtain rfl : s' = _ := hs
    exact ⟨none, 0, 0, rfl, Nat.le_refl _⟩
  · obtain ⟨b, sz, _, hq⟩ := zd8 hs
    simp only [zc7] at hq
    exact ⟨_, _, _, hq, Nat.le_of_ble_eq_true h⟩
  · rcases hs with ⟨b, sz, _, hq⟩ | ⟨_, _, rfl, rfl⟩
    rotate_left
    · exact ⟨_, _, _, rfl, Nat.le_refl _⟩
    obtain ⟨_, _, (⟨c, hq, _, hl⟩ | ⟨h0, a, hq, _⟩)⟩ := hq
    · exact ⟨_, _, _, hq, hl⟩
    · exact ⟨_, _, _, hq, Nat.le_refl _⟩
  · cases h
theorem app_none {t u e : TypeId} {i : TypeInfo} {z : Value} {ty : TypeId} {a : Option Addr} {n c : Nat} {x' : Value} {w : World} (he : elemO P t = some (e, i, z)) (hu : isRow P u = true) (hs : i.size = 1) (hx : Holds P x' 0 [] w) (hg : n ≤ c) :
    (Builtin.append_ #[t, u] ty #[.slice a n c, x']).run P w = .ok (.slice a n c) w := by
  obtain ⟨h1, h2, h3⟩ := zd7 he
  obtain ⟨x1, x2, x3⟩ := hx
  unfold isRow at hu
  split at hu
  · rename_i e2 hu2
    cases a <;> simp [Builtin.append_, run_underlying h1, run_underlying hu2, sizeOf, typeInfo, h2, hs, x1, hg, x2, storeCells]
  · rename_i hu2
    cases a <;> simp [Builtin.append_, run_underlying h1, run_underlying hu2, sizeOf, typeInfo, h2, hs, x1, hg, x2, storeCells]
  · cases hu
theorem size_grown {z : Value} {news : List Value} {n c : Nat} (hz : z.cells.size = 1) (hl : news.length = n) (hc : n ≤ c) : (news.toArray ++ Builtin.zeroCells z.cells (c - n)).size = c := by
  rw [Array.size_append, size_zeroCells, hz, List.size_toArray, hl]
  omega
theorem zq8 {z : Value} {a b : List Value} {n m c : Nat} (hz : z.cells.size = 1) (ha : a.length = n) (hb : b.length = m) (hc : n + m ≤ c) : (a.toArray ++ b.toArray ++ Builtin.zeroCells z.cells (c - (n + m))).size = c := by
  rw [Array.size_append, Array.size_append, size_zeroCells, hz, List.size_toArray, List.size_toArray, ha, hb]
  omega
structure AppS (P : Program) (t u ty : TypeId) (e : TypeId) (i : TypeInfo) (z : Value) (x' : Value) (m : Nat) (news : List Value) (w : World) : Prop where
  grow : ∀ {base : Option Addr} {n c : Nat} {olds : List Value}, (Builtin.firstCells 1 n (.slice base n c)).run P w.drew = .ok olds.toArray w.drew → c < n + m → (n + m) * i.bytes ≤ 140737488355328 → n + m ≤ 9223372036854775807 →
    (Builtin.append_ #[t, u] ty #[.slice base n c, x']).run P w =
      .ok (.slice (some ⟨w.heap.size, 0, none⟩) (n + m) (grownCap w (n + m) c e)) (w.drew.alloc (.cells (olds.toArray ++ news.toArray ++ Builtin.zeroCells z.cells (grownCap w (n + m) c e - (n + m))) e))
  room : ∀ {b off n c : Nat}, n + m ≤ c → m * i.bytes ≤ 140737488355328 → m ≤ 9223372036854775807 → ∀ {cs : Array Value} {ty0 : TypeId} {fr : Nat × Nat}, w.heap[b]? = some (.cells cs ty0 fr) → (∀ i, i < cs.size → ¬(fr.1 ≤ i ∧ i < fr.2)) → off + n + news.length ≤ cs.size → (∀ x ∈ news, ze8 x) →
    (Builtin.append_ #[t, u] ty #[.slice (some ⟨b, off, none⟩) n c, x']).run P w = .ok (.slice (some ⟨b, off, none⟩) (n + m) c) (w.setCells b (off + n) news)
  zero : m = 0 → ∀ {a : Option Addr} {n c : Nat}, n ≤ c → (Builtin.append_ #[t, u] ty #[.slice a n c, x']).run P w = .ok (.slice a n c) w
theorem AppS.of_holds {t u ty e : TypeId} {i : TypeInfo} {z : Value} {x' : Value} {m : Nat} {news : List Value} {w : World} (he : elemO P t = some (e, i, z)) (hu : isRow P u = true) (hs : i.size = 1) (hn : news.length = m) (hx : Holds P x' m news w) : AppS P t u ty e i z x' m news w where
  grow := fun hold hg hb h63 => app_grow he hu hs hold hx hg hb h63
  room := fun hg _ _ _ _ _ h hf hb hc => app_room he hu hs hx hg h hf hb hc
  zero := fun h0 _ _ _ hg => by
    subst h0
    have : news = [] := List.length_eq_zero_iff.1 hn
    subst this
    exact app_none he hu hs hx hg
theorem appTo_sound {G : Heap} {t u e : TypeId} {i : TypeInfo} {z : Value} {vc : Bool} {k : IntKind} {m : Nat} {g : Nat → Int} {tm : Nat} {s : T} {r : Res} {ρ : Rho} {s' x' : Value} {w : World} {ty : TypeId} (hs1 : i.size = 1) (hz1 : z.cells.size = 1)
    (h : appTo G i vc k m g tm s = some r) (hvc : r.vc = true) (hs : (R ρ s).v s') (hx : vc = true → (∀ i, tm.testBit i = true → r.t.testBit i = true) → AppS P t u ty e i z x' m (zb2 k m g) w) (hsim : Sim (bitK r.t) ρ G w) (hf : fresh ρ G.length r.G.length) :
    ∃ v' w', (Builtin.append_ #[t, u] ty #[s', x']).run P w = .ok v' w' ∧ ∃ ρ', Post ρ ρ' G w r v' w' := by
          unfold appTo at h
          have newBlk : ∀ {vc0 : Bool} {n c t0 : Nat} {F : Nat → Int}, (n + m) * i.bytes ≤ 140737488355328 → ρ G.length = none → n + m ≤ c → ∀ {cs : Array Value}, cs.size = c → cs.toList.take (n + m) = zb2 k (n + m) F →
              ∃ ρ', Post ρ ρ' G w ⟨vc0, .slice G.length [] 0 1 (n + m) none, G ++ [some (.ints k (n + m) F)], t0, 0⟩ (.slice (some ⟨w.heap.size, 0, none⟩) (n + m) c) (w.drew.alloc (.cells cs e)) := by
            intro vc0 n c t0 F _ hfr hle cs hsz htk
            refine Exists.imp (fun _ h => h.anyVc) (Post.alloc (w := w) (z := .ints k (n + m) F) (v := .slice G.length [] 0 1 (n + m) none) (cs := cs) (ty := e) (w.drew.alloc (.cells cs e)) rfl rfl rfl rfl hfr hsim.ro ?_ ?_ ?_)
            · show n + m ≤ cs.size
              omega
            · show (R ρ (.ints k (n + m) F)).c (cs.toList.take (n + m))
              rw [htk]
              exact zn2 _ _ _
            · intro ρ' _ hn'
              exact .inl ⟨_, _, hn', rfl, by decide, .inl ⟨c, by simp, by omega, hle⟩⟩
          split at h
          · -- nil
            obtain rfl : s' = _ := hs
            cases h
            simp only [Bool.and_eq_true] at hvc
            obtain ⟨hv1, hv2⟩ := hvc
            obtain ⟨hb1, hb2⟩ := zi7 hv2
            have hh := hx hv1 (fun _ h => h)
            have hfr : ρ G.length = none := hf G.length (Nat.le_refl _) (by simp)
            rcases Nat.eq_zero_or_pos m with hm0 | hm0
            · subst hm0
              exact ⟨_, _, hh.zero rfl (Nat.le_refl _), ρ, Post.vacate G 0 _ rfl (fun k hk => by simp at hk) hfr rfl (.inr ⟨rfl, rfl, rfl, rfl⟩)⟩
            · have hr := hh.grow (base := none) (n := 0) (c := 0) (olds := []) (by simp [Builtin.firstCells]) (by omega) (by rw [Nat.zero_add]; exact hb1) (by omega)
              have hge := grownCap_ge w (0 + m) 0 e
              have hp := newBlk (vc0 := vc && sizeB i m) (t0 := tm) (n := 0) (F := g) (c := grownCap w (0 + m) 0 e) (by rw [Nat.zero_add]; exact hb1) hfr hge
                (cs := #[] ++ (zb2 k m g).toArray ++ Builtin.zeroCells z.cells (grownCap w (0 + m) 0 e - (0 + m))) (by
                  simp only [Array.empty_append]
                  exact size_grown hz1 (by rw [za5]; omega) hge) (by
                  simp only [Nat.zero_add, Array.empty_append, Array.toList_append]
                  rw [List.take_append_of_le_length (by rw [za5]; exact Nat.le_refl _), List.take_of_length_le (by rw [za5]; exact Nat.le_refl _)])
              simp only [Nat.zero_add] at hp hr
              exact ⟨_, _, hr, hp⟩
          · -- a slice whose room is known
            rename_i id path lo q n c
            cases hle : Nat.ble (n + m) c with
            | true =>
              rw [hle] at h
              cases hm : Nat.beq m 0 with
              | false => rw [hm] at h; cases h
              | true =>
                rw [hm] at h
                cases h
                have hm0 := Nat.eq_of_beq_eq_true hm
                subst hm0
                have hh := hx hvc (fun _ h => h)
                have hs' := hs
                obtain ⟨b, sz, hrb, hq⟩ := zd8 hs
                simp only [zc7] at hq
                subst hq
                exact ⟨_, _, hh.zero rfl (Nat.le_of_ble_eq_true hle), ρ, Post.anyVc (Post.pure (vc := true) hs' 0)⟩
            | false =>
              rw [hle] at h
              simp only [cond_false] at h
              have hgt : c < n + m := by
                rcases Nat.lt_or_ge c (n + m) with h | h
                · exact h
                · rw [Nat.ble_eq_true_of_le h] at hle; cases hle
              split at h
              · rename_i vc' k' n' f tm' hc'
                cases hk : (decide (k = k') && Nat.beq n n') with
                | false => rw [hk] at h; cases h
                | true =>
                  rw [hk] at h
                  simp only [Bool.and_eq_true, decide_eq_true_eq] at hk
                  obtain ⟨rfl, hnn⟩ := hk
                  have hnn := Nat.eq_of_beq_eq_true hnn
                  subst hnn
                  cases h
                  simp only [Bool.and_eq_true] at hvc
                  obtain ⟨⟨hv1, hv2⟩, hv3⟩ := hvc
                  obtain ⟨hb1, hb2⟩ := zi7 hv3
                  have hh := hx hv1 (fun i h => by rw [Nat.testBit_or, h]; rfl)
                  have hh' := zh4 (P := P) hc' hv2 hs (fun i h => by rw [Nat.testBit_or, h, Bool.or_true]) hsim
                  obtain ⟨b, sz, hrb, hq⟩ := zd8 hs
                  simp only [zc7] at hq
                  subst hq
                  have hr := hh.grow hh'.2.2 hgt hb1 hb2
                  have hge := grownCap_ge w (n + m) c e
                  have hfr : ρ G.length = none := hf G.length (Nat.le_refl _) (by simp)
                  have hp := newBlk (vc0 := (vc && vc') && sizeB i (n + m)) (t0 := tm ||| tm') (n := n) (F := catF n f g) (c := grownCap w (n + m) c e) hb1 hfr hge
                    (cs := (zb2 k n f).toArray ++ (zb2 k m g).toArray ++ Builtin.zeroCells z.cells (grownCap w (n + m) c e - (n + m))) (zq8 hz1 (za5 _ _ _) (za5 _ _ _) hge) (by
                      simp only [Array.toList_append]
                      rw [← zq3]
                      rw [List.take_append_of_le_length (by rw [za5]; exact Nat.le_refl _), List.take_of_length_le (by rw [za5]; exact Nat.le_refl _)])
                  exact ⟨_, _, hr, hp⟩
              · cases h
          · -- a slice that is taken over
            rename_i id q n
            split at h
            · rename_i k' n0 f hid
              cases hk : (decide (k = k') && Nat.beq q 1) with
              | false => rw [hk] at h; cases h
              | true =>
                rw [hk] at h
                simp only [Bool.and_eq_true, decide_eq_true_eq] at hk
                obtain ⟨rfl, hq1⟩ := hk
                have hq1 := Nat.eq_of_beq_eq_true hq1
                subst hq1
                cases h
                simp only [Bool.and_eq_true, decide_eq_true_eq] at hvc
                obtain ⟨hv1, hv2, hv3⟩ := hvc
                obtain ⟨hb1, hb2⟩ := zi7 hv3
                have hh := hx hv1 (fun i h => by rw [Nat.testBit_or, h]; rfl)
                have hfr : ρ G.length = none := hf G.length (Nat.le_refl _) (by simp [zb7])
                rcases hs with ⟨b, sz, hrb, _, _, hq⟩ | ⟨_, _, rfl, rfl⟩
                rotate_left
                · rcases Nat.eq_zero_or_pos m with hm0 | hm0
                  · subst hm0
                    exact ⟨_, _, hh.zero rfl (Nat.le_refl _), ρ, Post.vacate (hset G id none) (2 ^ id) _ (zb7 _ _ _) (fun k hk hl => by have e := tb_eq hk; subst e; exact zc8 _ hl) hfr rfl (.inr ⟨rfl, rfl, rfl, rfl⟩)⟩
                  · have hr := hh.grow (base := none) (n := 0) (c := 0) (olds := []) (by simp [Builtin.firstCells]) (by omega) hb1 (by omega)
                    have hge := grownCap_ge w (0 + m) 0 e
                    have hsz : (([] : List Value).toArray ++ (zb2 k m g).toArray ++ Builtin.zeroCells z.cells (grownCap w (0 + m) 0 e - (0 + m))).size = grownCap w (0 + m) 0 e := zq8 hz1 rfl (za5 _ _ _) hge
                    refine ⟨_, _, hr, ?_⟩
                    refine Post.consumeN (p := (w.heap.size, grownCap w (0 + m) 0 e)) hid hfr hsim.ro (Nat.le_refl _) ⟨_, e, (0, 0), zj1 w.drew _, hsz, ?_, ?_, ?_, Nat.le_refl _⟩ (fun b' hb' => heap_alloc_old w.drew _ b' hb') (by simp) rfl rfl rfl ?_
                    · show 0 + m ≤ _
                      rw [hsz]; exact hge
                    · show (R ρ (.ints k (0 + m) (catF 0 f g))).c (List.take (0 + m) _)
                      have e1 : zb2 k (0 + m) (catF 0 f g) = zb2 k m g := by rw [zq3]; rfl
                      have e2 : List.take (0 + m) (([] : List Value).toArray ++ (zb2 k m g).toArray ++ Builtin.zeroCells z.cells (grownCap w (0 + m) 0 e - (0 + m))).toList = zb2 k m g := by
                        simp only [Array.toList_append]
                        rw [List.nil_append, List.take_append_of_le_length (by rw [za5]; omega), List.take_of_length_le (by rw [za5]; omega)]
                      rw [e2, ← e1]
                      exact zn2 _ _ _
                    · intro i' _
                      simp
                    · intro ρ' _ hn'
                      exact .inl ⟨_, _, hn', rfl, by decide, .inl ⟨grownCap w (0 + m) 0 e, by simp, by omega, hge⟩⟩
                obtain ⟨cs, ty0, fr, g1, g2, g3, g4, g5, g5'⟩ := hsim.blk id _ _ (by rw [bitK, Nat.testBit_or]; simp [Nat.testBit_two_pow]) hid hrb
                have hT : T.size (.ints k n0 f) = n0 := rfl
                rw [hT] at g3 g4
                have hpre : cs.toList.take n = zb2 k n f := by
                  obtain ⟨e4, g4⟩ := g4
                  apply List.ext_getElem?
                  intro j
                  by_cases hj : j < n
                  · rw [ze2 _ _ _ hj, List.getElem?_take_of_lt hj]
                    have := g4 j (by omega)
                    rwa [List.getElem?_take_of_lt (by omega)] at this
                  · rw [List.getElem?_eq_none (by simp; omega), List.getElem?_eq_none (by rw [za5]; omega)]
                have oldHold : ∀ c, (Builtin.firstCells 1 n (.slice (some ⟨b, 0, none⟩) n c)).run P w.drew = .ok (zb2 k n f).toArray w.drew := fun c => by
                  refine run_firstCells_some (P := P) w.drew 1 n _ n c _ (by rw [za5, Nat.mul_one]) fun j v hj => ?_
                  have hlt : j < n := by
                    have := (List.getElem?_eq_some_iff.1 hj).1
                    rwa [za5] at this
                  rw [zb8, Nat.zero_add, zn3 (w := w.drew) (by exact g1)]
                  rw [← hpre, List.getElem?_take_of_lt hlt] at hj
                  simpa using hj
                have grow : ∀ c, c < n + m → ∀ base, (Builtin.firstCells 1 n (.slice base n c)).run P w.drew = .ok (zb2 k n f).toArray w.drew →
                    ∃ v' w', (Builtin.append_ #[t, u] ty #[.slice base n c, x']).run P w = .ok v' w' ∧ ∃ ρ', Post ρ ρ' G w ⟨vc && (decide (n ≤ n0) && sizeB i (n + m)), .slice G.length [] 0 1 (n + m) none, hset G id none ++ [some (.ints k (n + m) (catF n f g))], tm ||| 2 ^ id, 2 ^ id⟩ v' w' := by
                  intro c hgt base hold
                  have hr := hh.grow hold hgt hb1 hb2
                  have hge := grownCap_ge w (n + m) c e
                  refine ⟨_, _, hr, ?_⟩
                  have hsz : ((zb2 k n f).toArray ++ (zb2 k m g).toArray ++ Builtin.zeroCells z.cells (grownCap w (n + m) c e - (n + m))).size = grownCap w (n + m) c e := zq8 hz1 (za5 _ _ _) (za5 _ _ _) hge
                  refine Post.consume (p := (w.heap.size, grownCap w (n + m) c e)) hid hrb hfr hsim.ro (hsim.dis id _ _ (by rw [bitK, Nat.testBit_or]; simp [Nat.testBit_two_pow]) hid hrb) (.inr (Nat.le_refl _)) ⟨_, e, (0, 0), zj1 w.drew _, hsz, ?_, ?_, ?_, Nat.le_refl _⟩ (fun b' hb' _ => heap_alloc_old w.drew _ b' hb') (by simp) rfl rfl rfl ?_
                  · show n + m ≤ _
                    rw [hsz]; exact hge
                  · show (R ρ (.ints k (n + m) (catF n f g))).c (List.take (n + m) _)
                    simp only [Array.toList_append]
                    rw [← zq3, List.take_append_of_le_length (by rw [za5]; exact Nat.le_refl _), List.take_of_length_le (by rw [za5]; exact Nat.le_refl _)]
                    exact zn2 _ _ _
                  · intro i' _
                    simp
                  · intro ρ' _ hn'
                    exact .inl ⟨_, _, hn', rfl, by decide, .inl ⟨grownCap w (n + m) c e, by simp, by omega, hge⟩⟩
                rcases hq with ⟨c, rfl, hsz, hnc⟩ | ⟨h0, a, rfl, ha⟩
                · simp only [Nat.zero_mul]
                  rcases Nat.lt_or_ge c (n + m) with hgt | hge
                  · exact grow c hgt _ (oldHold c)
                  · have hcs : cs.size = c := by simp only at g2; omega
                    have hcell : ∀ x ∈ zb2 k m g, ze8 x := zt2 (zn2 (ρ := ρ) k m g)
                    have hr := hh.room (off := 0) hge (Nat.le_trans (Nat.mul_le_mul_right i.bytes (Nat.le_add_left m n)) hb1) (by omega) g1 g5 (by rw [za5]; omega) hcell
                    obtain ⟨a1, a2, a3, a4, a5, a6⟩ := zi2 b (zb2 k m g) (0 + n) w cs ty0 fr g1 (by rw [za5]; omega)
                    refine ⟨_, _, hr, ?_⟩
                    have hsp : (zc1 cs.toList (0 + n) (zb2 k m g)).length = cs.size := by
                      rw [zd4 (by rw [za5, Array.length_toList]; omega), Array.length_toList]
                    refine Post.consume (p := (b, sz)) hid hrb hfr hsim.ro (hsim.dis id _ _ (by rw [bitK, Nat.testBit_or]; simp [Nat.testBit_two_pow]) hid hrb) (.inl rfl) ⟨_, ty0, fr, a1, ?_, ?_, ?_, ?_, g5'⟩ (fun b' _ hne => a2 b' hne) (by rw [a3]; exact Nat.le_refl _) a4 a5 a6 ?_
                    · rw [List.size_toArray, hsp]; exact g2
                    · rw [List.size_toArray, hsp]
                      show n + m ≤ cs.size
                      omega
                    · show (R ρ (.ints k (n + m) (catF n f g))).c (List.take (n + m) (zc1 cs.toList (0 + n) (zb2 k m g)))
                      have : List.take (n + m) (zc1 cs.toList (0 + n) (zb2 k m g)) = zb2 k (n + m) (catF n f g) := by
                        rw [zq3, Nat.zero_add]
                        simp only [zc1]
                        rw [hpre, List.append_assoc, ← List.append_assoc, List.take_append_of_le_length (by rw [List.length_append, za5, za5]; exact Nat.le_refl _), List.take_of_length_le (by rw [List.length_append, za5, za5]; exact Nat.le_refl _)]
                      rw [this]
                      exact zn2 _ _ _
                    · intro i' hi'
                      rw [List.size_toArray, hsp] at hi'
                      exact g5 i' hi'
                    · intro ρ' hext hn'
                      exact .inl ⟨_, _, hn', rfl, by decide, .inl ⟨c, by simp, hsz, hge⟩⟩
                · subst h0
                  have hf0 : (Builtin.firstCells 1 0 (.slice a 0 0)).run P w.drew = .ok (zb2 k 0 f).toArray w.drew := by
                    cases a <;> simp [Builtin.firstCells, zb2, loadCells, loadCellsFrom]
                  rcases Nat.eq_zero_or_pos m with hm0 | hm0
                  · subst hm0
                    refine ⟨_, _, hh.zero rfl (Nat.le_refl _), ?_⟩
                    refine Post.consume (p := (b, sz)) hid hrb hfr hsim.ro (hsim.dis id _ _ (by rw [bitK, Nat.testBit_or]; simp [Nat.testBit_two_pow]) hid hrb) (.inl rfl) ⟨cs, ty0, fr, g1, g2, Nat.zero_le _, ?_, g5, g5'⟩ (fun _ _ _ => rfl) (Nat.le_refl _) rfl rfl rfl ?_
                    · show (R ρ (.ints k 0 _)).c (List.take 0 _)
                      exact ⟨rfl, fun j hj => absurd hj (by omega)⟩
                    · intro ρ' hext hn'
                      exact .inl ⟨_, _, hn', rfl, by decide, .inr ⟨rfl, a, rfl, ha⟩⟩
                  · exact grow 0 (by omega) a hf0
            · cases h
          · cases h
theorem evAppend_sound {G : Heap} {t u : TypeId} {s x : T} {r : Res} {ρ : Rho} {s' x' : Value} {w : World} {ty : TypeId} (h : evAppend P G t u s x = some r) (hvc : r.vc = true) (hs : (R ρ s).v s') (hx : (R ρ x).v x') (hsim : Sim (bitK r.t) ρ G w) (hf : fresh ρ G.length r.G.length) :
    ∃ v' w', (Builtin.append_ #[t, u] ty #[s', x']).run P w = .ok v' w' ∧ ∃ ρ', Post ρ ρ' G w r v' w' := by
  unfold evAppend at h
  split at h
  · cases h
  · rename_i e i z he
    cases hk : (isRow P u && Nat.beq i.size 1 && Nat.beq z.cells.size 1) with
    | false => rw [hk] at h; cases h
    | true =>
      rw [hk] at h
      simp only [Bool.not_true, cond_false] at h
      simp only [Bool.and_eq_true] at hk
      obtain ⟨⟨hu, hs1⟩, hz1⟩ := hk
      have hs1 := Nat.eq_of_beq_eq_true hs1
      have hz1 := Nat.eq_of_beq_eq_true hz1
      cases hn : (zr8 x && zm8 s) with
      | true =>
        rw [hn] at h
        cases h
        simp only [Bool.and_eq_true] at hn
        have hxn : x' = .slice none 0 0 := by
          cases x <;> simp [zr8] at hn
          exact hx
        obtain ⟨a, n, c, rfl, hnc⟩ := R_slice_shape hn.2 hs
        have hh : Holds P x' 0 [] w := by
          subst hxn
          exact ⟨rfl, by simp [Builtin.firstCells], by simp [Builtin.firstCells]⟩
        exact ⟨_, _, app_none he hu hs1 hh hnc, ρ, Post.pure hs 0⟩
      | false =>
        rw [hn] at h
        simp only [cond_false] at h
        split at h
        · cases h
        · rename_i vc k m g tm hc
          refine appTo_sound hs1 hz1 h hvc hs (fun hv ht => AppS.of_holds he hu hs1 (za5 _ _ _) (zh4 (P := P) hc hv hx ht hsim)) hsim hf
theorem zeroCells_ints (k : IntKind) (n : Nat) : (Builtin.zeroCells (Value.int k 0).cells n).toList = zb2 k n fun _ => 0 := by
  apply List.ext_getElem?
  intro j
  by_cases hj : j < n
  · rw [ze2 _ _ _ hj]
    simp [Builtin.zeroCells, Value.cells, hj, Nat.mod_one]
  · rw [List.getElem?_eq_none, List.getElem?_eq_none]
    · rw [za5]; omega
    · simp [Builtin.zeroCells, Value.cells]; omega
theorem AppS.zeros {t u ty e : TypeId} {i : TypeInfo} {k k' : IntKind} {l : Int} {w : World} (he : elemO P t = some (e, i, .int k 0)) (hu : P.underlying u = some (.int k')) (hs : i.size = 1) (hl : 0 ≤ l) :
    AppS P t u ty e i (.int k 0) (.int .i64 l) l.toNat (zb2 k l.toNat fun _ => 0) w := by
  obtain ⟨h1, h2, h3⟩ := zd7 he
  obtain ⟨m, rfl⟩ := Int.eq_ofNat_of_zero_le hl
  have ew : m ≤ 9223372036854775807 → IntKind.i64.wrap (m : Int) = (m : Int) := fun h => by rw [IntKind.wrap_i64]; omega
  have ez : Builtin.zeroCells (Value.int k 0).cells m = (zb2 k m fun _ => 0).toArray := by rw [← zeroCells_ints]
  have e0 : zb2 k 0 (fun _ => 0) = [] := rfl
  have w0 : IntKind.i64.wrap 0 = 0 := by decide
  refine ⟨?_, ?_, ?_⟩
  · intro base n c olds hold hg hb h63
    simp only [Int.toNat_natCast] at hg hb h63 ⊢
    have hn : ¬ (n + m ≤ c) := by omega
    have h63' : ¬ (9223372036854775807 < ((n : Int) + (m : Int))) := by omega
    have h48' : ¬ (281474976710656 < Builtin.nextslicecap (n + m) c * i.bytes) := by
      have := growslice_fits hg hb
      omega
    have hmb : ¬ (281474976710656 < (m : Int) * (i.bytes : Int)) := by
      have := Nat.le_trans (Nat.mul_le_mul_right i.bytes (Nat.le_add_left m n)) hb
      rw [← Int.natCast_mul]
      omega
    have hneg : ¬ ((m : Int) < 0) := by omega
    by_cases hm : m = 0
    · subst hm
      have hn2 : ¬ (n ≤ c) := by omega
      have h632 : ¬ (9223372036854775807 < (n : Int)) := by omega
      have h482 : ¬ (281474976710656 < Builtin.nextslicecap n c * i.bytes) := h48'
      simp [Builtin.append_, run_underlying h1, run_underlying hu, sizeOf, typeInfo, zeroValue, h2, h3, hs, asInt, asIntOf, w0, hn2, h632, h482, Question.forced, hold, newRow, grownCap, e0]
    · simp [Builtin.append_, run_underlying h1, run_underlying hu, sizeOf, typeInfo, zeroValue, h2, h3, hs, asInt, asIntOf, ew (by omega), hn, h63', h48', hmb, hneg, Question.forced, hold, newRow, grownCap, ez, hm]
      congr 2
      apply Array.ext'
      simp [List.append_assoc]
  · intro b off n c hg hmb hm63 cs ty0 fr h hf hb hc
    simp only [Int.toNat_natCast] at hg hmb hm63 hb hc ⊢
    have hst := ze3 (P := P) h hf (off := off + n) (us := zb2 k m fun _ => 0) hb hc
    have hneg : ¬ ((m : Int) < 0) := by omega
    have hmb : ¬ (281474976710656 < (m : Int) * (i.bytes : Int)) := by
      rw [← Int.natCast_mul]
      omega
    by_cases hm : m = 0
    · subst hm
      rw [e0] at hst
      simp [Builtin.append_, run_underlying h1, run_underlying hu, sizeOf, typeInfo, h2, hs, asInt, asIntOf, w0, ew (by omega), hg, zb8, hmb, hneg, e0, hst]
      intro h9
      omega
    · simp [Builtin.append_, run_underlying h1, run_underlying hu, sizeOf, typeInfo, zeroValue, h2, h3, hs, asInt, asIntOf, w0, ew (by omega), hg, zb8, hmb, hneg, hm, ez, hst]
  · intro h0 a n c hg
    simp only [Int.toNat_natCast] at h0
    subst h0
    cases a <;> simp [Builtin.append_, run_underlying h1, run_underlying hu, sizeOf, typeInfo, h2, hs, asInt, asIntOf, w0, ew (by omega), hg, storeCells]
theorem evAppendZ_sound {G : Heap} {t u : TypeId} {s x : T} {r : Res} {ρ : Rho} {s' x' : Value} {w : World} {ty : TypeId} (h : zs4 P G t u s x = some r) (hvc : r.vc = true) (hs : (R ρ s).v s') (hx : (R ρ x).v x') (hsim : Sim (bitK r.t) ρ G w) (hf : fresh ρ G.length r.G.length) :
    ∃ v' w', (Builtin.append_ #[t, u] ty #[s', x']).run P w = .ok v' w' ∧ ∃ ρ', Post ρ ρ' G w r v' w' := by
  unfold zs4 at h
  split at h
  · rename_i e i k k' l he hu hl
    cases hk : Nat.beq i.size 1 with
    | false => rw [hk] at h; cases h
    | true =>
      rw [hk] at h
      have hs1 := Nat.eq_of_beq_eq_true hk
      obtain rfl := intOf_R hl hx
      exact appTo_sound hs1 rfl h hvc hs (fun hv _ => AppS.zeros he hu hs1 (of_decide_eq_true hv)) hsim hf
  · cases h
def zj5 (P : Program) (G : Heap) (t : TypeId) (n : Nat) (parts : List (Nat × T)) : Option Res :=
  match elemO P t with
  | some (_, i, .int k 0) => bif Nat.beq i.size 1 && Nat.ble n 16777216 then
      match fillT (fun j => some (.idx j 1, 1)) (.ints k n fun _ => 0) parts with
      | some (vc, .ints k' n' f) => bif Nat.beq n' n then some ⟨vc, .slice G.length [] 0 1 n none, G ++ [some (.ints k' n' f)], 0, 0⟩ else none
      | _ => none
    else none
  | _ => none
theorem evBuildSlice_sound {G : Heap} {t : TypeId} {n : Nat} {parts : List (Nat × T)} {parts' : Array (Nat × Value)} {r : Res} {ρ : Rho} {w : World} (h : zj5 P G t n parts = some r) (hvc : r.vc = true)
    (hr : ∀ (j i : Nat) (x : T), parts[j]? = some (i, x) → ∃ x', parts'.toList[j]? = some (i, x') ∧ (R ρ x).v x') (hl : parts'.toList.length = parts.length) (hf : fresh ρ G.length r.G.length) (hro : RoOK ρ w) :
    ∃ v' w', (Instr.buildSlice t n parts').run P w = .ok v' w' ∧ ∃ ρ', Post ρ ρ' G w r v' w' := by
  unfold zj5 at h
  split at h
  · rename_i e i k he
    obtain ⟨hu, hi, hz⟩ := zd7 he
    cases hs : (Nat.beq i.size 1 && Nat.ble n 16777216) with
    | false => rw [hs] at h; cases h
    | true =>
      rw [hs] at h
      simp only [Bool.and_eq_true] at hs
      have hs1 := Nat.eq_of_beq_eq_true hs.1
      have hn := Nat.le_of_ble_eq_true hs.2
      simp only [cond_true] at h
      split at h
      · rename_i vc k' n' f hfill
        cases hnn : Nat.beq n' n with
        | false => rw [hnn] at h; cases h
        | true =>
          rw [hnn] at h
          have := Nat.eq_of_beq_eq_true hnn
          subst this
          cases h
          have h0 : (R ρ (.ints k n' fun _ => 0)).c (zb2 k n' fun _ => 0) := zn2 _ _ _
          obtain ⟨cells', g1, g2, g3⟩ := zm1 (ρ := ρ) (place := fun j => some (.idx j 1, 1)) (place' := fun j => some (j * 1, 1)) (fun j s m hp => by cases hp; rfl) parts parts'.toList (.ints k n' fun _ => 0) (.ints k' n' f) (zb2 k n' fun _ => 0).toArray hr hl h0 vc hfill hvc
          have hlen : cells'.size = n' := by
            have := zh7 g2
            simpa [T.size] using this
          have hrun : (Instr.buildSlice t n' parts').run P w = .ok (.slice (some ⟨w.heap.size, 0, none⟩) n' n') (w.alloc (.cells cells' e)) := by
            have e1 : (Array.range n').map (fun x => (Value.cells (.int k 0))[x % (Value.cells (.int k 0)).size]!) = (zb2 k n' fun _ => 0).toArray := by
              apply Array.ext'
              simp [zb2, Value.cells, Nat.mod_one, List.map_const']
            have hlim : ¬ (16777216 < n') := by omega
            by_cases h0 : n' = 0
            · subst h0
              have e2 : (zb2 k 0 fun _ => 0).toArray = #[] := rfl
              rw [e2] at g1
              have e3 : (Array.map (fun _ => (default : Value)) (Array.range 0)) = #[] := by apply Array.ext'; simp
              simp only [Nat.mul_one] at g1
              simp [Instr.buildSlice, run_underlying hu, sizeOf, typeInfo, hi, hs1, newRow]
              rw [e3, g1]
              simp
            · simp [Instr.buildSlice, run_underlying hu, sizeOf, typeInfo, zeroValue, hi, hz, hs1, hlim, h0, newRow, e1]
              simp only [Nat.mul_one] at g1
              rw [g1]
              simp
          refine ⟨_, _, hrun, ?_⟩
          refine Exists.imp (fun _ h => h.anyVc) (Post.alloc (w := w) (z := .ints k' n' f) (v := .slice G.length [] 0 1 n' none) (cs := cells') (ty := e) (w.alloc (.cells cells' e)) rfl rfl rfl rfl (hf G.length (Nat.le_refl _) (by simp)) hro ?_ ?_ ?_)
          · show n' ≤ cells'.size
            omega
          · have : cells'.toList.take (T.size (.ints k' n' f)) = cells'.toList := List.take_of_length_le (by show _ ≤ n'; simp [hlen])
            rw [this]
            exact g2
          · intro ρ' _ hn'
            exact .inl ⟨_, _, hn', rfl, by decide, .inl ⟨n', by simp, by rw [hlen]; omega, Nat.le_refl _⟩⟩
      · cases h
  · cases h
theorem evMake_stat {G : Heap} {t : TypeId} {l c : T} {r : Res} (h : evMake P G t l c = some r) : Stat G r := by
  unfold evMake at h
  split at h
  · rename_i e i k _ _ _ _ _
    cases hs : Nat.beq i.size 1 <;> rw [hs] at h <;> cases h
    exact ⟨by simp, fun k _ h => by simp at h, fun _ hk _ => za6 hk⟩
  · cases h
theorem evBuildSlice_stat {G : Heap} {t : TypeId} {n : Nat} {parts : List (Nat × T)} {r : Res} (h : zj5 P G t n parts = some r) : Stat G r := by
  unfold zj5 at h
  split at h
  · rename_i i k _
    cases hs : (Nat.beq i.size 1 && Nat.ble n 16777216) <;> rw [hs] at h
    · cases h
    · simp only [cond_true] at h
      split at h
      · rename_i vc k' n' f _
        cases hn : Nat.beq n' n <;> rw [hn] at h <;> cases h
        exact ⟨by simp, fun k _ h => by simp at h, fun _ hk _ => za6 hk⟩
      · cases h
  · cases h
theorem appTo_stat {G : Heap} {i : TypeInfo} {vc : Bool} {k : IntKind} {m : Nat} {g : Nat → Int} {tm : Nat} {s : T} {r : Res} (h : appTo G i vc k m g tm s = some r) : Stat G r := by
          unfold appTo at h
          split at h
          · cases h
            exact ⟨by simp, fun k _ h => by simp at h, fun _ hk _ => za6 hk⟩
          · rename_i id path lo q n c
            cases hle : Nat.ble (n + m) c <;> rw [hle] at h
            · simp only [cond_false] at h
              split at h
              · rename_i vc' k' n' f tm' _
                cases hk : (decide (k = k') && Nat.beq n n') <;> rw [hk] at h <;> cases h
                exact ⟨by simp, fun k _ h => by simp at h, fun _ hk _ => za6 hk⟩
              · cases h
            · cases hm : Nat.beq m 0 <;> rw [hm] at h <;> cases h
              exact Stat.pure _ _ _ _
          · rename_i id q n
            split at h
            · rename_i k' n0 f hid
              cases hk : (decide (k = k') && Nat.beq q 1) <;> rw [hk] at h <;> cases h
              have hl := za7 hid
              refine ⟨by simp [zb7], fun j hj hb => ?_, fun j hj hb => ?_⟩
              · have := tb_eq hb
                subst this
                exact ⟨by rw [Nat.testBit_or]; simp [Nat.testBit_two_pow], _, hid⟩
              · have hne : j ≠ id := fun e => by
                  subst e
                  simp [Nat.testBit_two_pow] at hb
                show hget (hset G id none ++ _) j = _
                rw [za6 (by rw [zb7]; exact hj), zj4 _ hne]
            · cases h
          · cases h
theorem evAppend_stat {G : Heap} {t u : TypeId} {s x : T} {r : Res} (h : evAppend P G t u s x = some r) : Stat G r := by
  unfold evAppend at h
  split at h
  · cases h
  · rename_i e i z _
    cases hk : (isRow P u && Nat.beq i.size 1 && Nat.beq z.cells.size 1) with
    | false => rw [hk] at h; cases h
    | true =>
      rw [hk] at h
      simp only [Bool.not_true, cond_false] at h
      cases hn : (zr8 x && zm8 s) with
      | true =>
        rw [hn] at h
        cases h
        exact Stat.pure _ _ _ _
      | false =>
        rw [hn] at h
        simp only [cond_false] at h
        split at h
        · cases h
        · rename_i vc k m g tm hc
          exact appTo_stat h
theorem evAppendZ_stat {G : Heap} {t u : TypeId} {s x : T} {r : Res} (h : zs4 P G t u s x = some r) : Stat G r := by
  unfold zs4 at h
  split at h
  · rename_i e i k k' l _ _ _
    cases hk : Nat.beq i.size 1 with
    | false => rw [hk] at h; cases h
    | true => rw [hk] at h; exact appTo_stat h
  · cases h
end
end Go.AE
namespace Go.AE
open Go
noncomputable section
variable {P : Program}
def contC (G : Heap) (s : Nat) : T → Option (Bool × Nat × (Nat → T) × Nat)
  | .slice id path lo m len _ => bif Nat.beq m s then match hget G id with
    | some tr => match get tr path with
      | some (.rows n m' f) => bif Nat.beq m' s then some (getOK tr path && decide (lo + len ≤ n), len, fun j => f (lo + j), 2 ^ id) else none
      | _ => none
    | none => none
    else none
  | .fsr m n f _ => bif Nat.beq m s then some (true, n, f, 0) else none
  | _ => none
def catT (n : Nat) (f g : Nat → T) : Nat → T := fun j => bif Nat.blt j n then f j else g (j - n)
theorem rows_cat {ρ : Rho} {n k s : Nat} {f g : Nat → T} {a b : List Value} (ha : (R ρ (.rows n s f)).c a) (hb : (R ρ (.rows k s g)).c b) : (R ρ (.rows (n + k) s (catT n f g))).c (a ++ b) := by
  obtain ⟨a1, a2⟩ := ha
  obtain ⟨b1, b2⟩ := hb
  refine ⟨by rw [List.length_append, a1, b1, Nat.add_mul], fun j hj => ?_⟩
  unfold catT
  by_cases h : j < n
  · have e : Nat.blt j n = true := by simpa using h
    rw [e, cond_true]
    have hl : j * s + s ≤ a.length := by
      rw [a1]
      have : (j + 1) * s ≤ n * s := Nat.mul_le_mul_right _ h
      rw [Nat.add_mul, Nat.one_mul] at this
      exact this
    rw [List.drop_append_of_le_length (by omega), List.take_append_of_le_length (by rw [List.length_drop]; omega)]
    exact a2 j h
  · have e : Nat.blt j n = false := by
      cases hb : Nat.blt j n
      · rfl
      · exact absurd (Nat.le_of_ble_eq_true hb) h
    rw [e, cond_false]
    have e2 : j * s = a.length + (j - n) * s := by
      rw [a1, ← Nat.add_mul]
      congr 1
      omega
    rw [e2, List.drop_append, List.drop_eq_nil_of_le (by omega), List.nil_append, show a.length + (j - n) * s - a.length = (j - n) * s by omega]
    exact b2 (j - n) (by omega)
def HoldsR (P : Program) (s : Nat) (x' : Value) (n : Nat) (cs : List Value) (w : World) : Prop :=
  (Builtin.lenOf x').run P w = .ok n w ∧ (Builtin.firstCells s n x').run P w = .ok cs.toArray w ∧ (Builtin.firstCells s n x').run P w.drew = .ok cs.toArray w.drew
theorem zm2 {G : Heap} {x : T} {vc : Bool} {s n : Nat} {f : Nat → T} {tm : Nat} {ρ : Rho} {x' : Value} {w : World} (hs0 : 0 < s) (h : contC G s x = some (vc, n, f, tm)) (hvc : vc = true) (hx : (R ρ x).v x') {t : Nat}
    (ht : ∀ i, tm.testBit i = true → t.testBit i = true) (hsim : Sim (bitK t) ρ G w) : ∃ cs, (R ρ (.rows n s f)).c cs ∧ HoldsR P s x' n cs w := by
  subst hvc
  unfold contC at h
  split at h
  · rename_i id path lo m len cap
    cases hm : Nat.beq m s with
    | false => rw [hm] at h; cases h
    | true =>
      rw [hm] at h
      have hm1 := Nat.eq_of_beq_eq_true hm
      subst hm1
      simp only [cond_true] at h
      split at h
      · rename_i tr htr
        split at h
        · rename_i n0 m' f0 hg
          cases hm2 : Nat.beq m' m with
          | false => rw [hm2] at h; cases h
          | true =>
            rw [hm2] at h
            have hm2 := Nat.eq_of_beq_eq_true hm2
            subst hm2
            simp only [cond_true, Option.some.injEq, Prod.mk.injEq, Bool.and_eq_true, decide_eq_true_eq] at h
            obtain ⟨⟨h1, h2⟩, rfl, rfl, rfl⟩ := h
            rcases hx with ⟨b, sz, hr, hs⟩ | ⟨rfl, rfl, rfl, rfl⟩
            rotate_left
            · exact ⟨[], ⟨by simp, fun j hj => absurd hj (by omega)⟩, rfl, by simp [Builtin.firstCells], by simp [Builtin.firstCells]⟩
            obtain ⟨cs, ty, fr, g1, g2, g3, g4, g5, g5'⟩ := hsim.blk id tr _ (ht _ (zf6 id)) htr hr
            obtain ⟨h6, h7⟩ := zi3 g4 hg h1
            simp only [List.length_take, Array.length_toList] at h7
            rw [cut_take (by omega)] at h6
            obtain ⟨e6, h6⟩ := h6
            have hT : T.size (.rows n0 m' f0) = n0 * m' := rfl
            rw [hT] at h6 h7 e6
            generalize hC : cut cs.toList (poff path) (n0 * m') = C at *
            have hll : (lo + len) * m' ≤ n0 * m' := Nat.mul_le_mul_right _ h2
            rw [Nat.add_mul] at hll
            have hlen : ((C.drop (lo * m')).take (len * m')).length = len * m' := by
              rw [List.length_take, List.length_drop, e6]; omega
            have hrows : (R ρ (.rows len m' fun j => f0 (lo + j))).c ((C.drop (lo * m')).take (len * m')) := by
              refine ⟨hlen, fun j hj => ?_⟩
              have hjm : j * m' + m' ≤ len * m' := by
                have : (j + 1) * m' ≤ len * m' := Nat.mul_le_mul_right _ hj
                rw [Nat.add_mul, Nat.one_mul] at this
                exact this
              have := h6 (lo + j) (by omega)
              rw [List.drop_take, List.take_take, Nat.min_eq_left (by omega), List.drop_drop, ← Nat.add_mul]
              exact this
            have cell : ∀ j v, ((C.drop (lo * m')).take (len * m'))[j]? = some v → cs[poff path + lo * m' + j]? = some v := fun j v hj => by
              have hlt := (List.getElem?_eq_some_iff.1 hj).1
              rw [hlen] at hlt
              rw [List.getElem?_take_of_lt hlt, List.getElem?_drop, ← hC, zf0 (by omega), ← Nat.add_assoc] at hj
              simpa using hj
            have key : ∀ (w1 : World), w1.heap = w.heap → ∀ (c : Nat), (Builtin.firstCells m' len (.slice (some ⟨b, poff path + lo * m', none⟩) len c)).run P w1 = .ok ((C.drop (lo * m')).take (len * m')).toArray w1 := fun w1 hw c => by
              refine run_firstCells_some (P := P) w1 m' len _ len c _ hlen fun j v hj => ?_
              rw [zb8, zn3 (w := w1) (by rw [hw]; exact g1)]
              exact cell j v hj
            refine ⟨_, hrows, ?_⟩
            cases cap with
            | some c =>
              simp only [zc7] at hs
              subst hs
              exact ⟨rfl, key w rfl c, key w.drew rfl c⟩
            | none =>
              obtain ⟨rfl, _, (⟨c, rfl, _, _⟩ | ⟨h0, a, rfl, ha⟩)⟩ := hs
              · have := key
                simp only [poff, Nat.zero_add] at this
                exact ⟨rfl, this w rfl c, this w.drew rfl c⟩
              · subst h0
                simp only [Nat.zero_mul, List.take_zero]
                refine ⟨rfl, ?_, ?_⟩ <;> cases a <;> simp [Builtin.firstCells, loadCells, loadCellsFrom]
        · cases h
      · cases h
  · rename_i m0 n0 f0 cap0
    cases hm : Nat.beq m0 s with
    | false => rw [hm] at h; cases h
    | true =>
      rw [hm] at h
      have hm1 := Nat.eq_of_beq_eq_true hm
      subst hm1
      have hx' : Frz ρ.ro m0 n0 (fun i cs => (R ρ.bare (f0 i)).c cs) cap0 x' := hx
      cases h
      obtain ⟨a, c, cs, rfl, h1, h2, h3, h4, h5⟩ := Frz.first (P := P) hx' hsim.ro
      exact ⟨cs, ⟨h3, fun i hi => zr7 ρ.bare_ext (h4 i hi)⟩, rfl, h5 w rfl, h5 w.drew rfl⟩
  · cases h
theorem app_growR {s : Nat} {t u e : TypeId} {i : TypeInfo} {z : Value} {ty : TypeId} {base : Option Addr} {n c m : Nat} {x' : Value} {olds news : List Value} {w : World} (he : elemO P t = some (e, i, z)) (hu : isRow P u = true) (hs : i.size = s)
    (hold : (Builtin.firstCells s n (.slice base n c)).run P w.drew = .ok olds.toArray w.drew) (hx : HoldsR P s x' m news w) (hg : c < n + m) (hb : (n + m) * i.bytes ≤ 140737488355328) (h63 : n + m ≤ 9223372036854775807) :
    (Builtin.append_ #[t, u] ty #[.slice base n c, x']).run P w =
      .ok (.slice (some ⟨w.heap.size, 0, none⟩) (n + m) (grownCap w (n + m) c e)) (w.drew.alloc (.cells (olds.toArray ++ news.toArray ++ Builtin.zeroCells z.cells (grownCap w (n + m) c e - (n + m))) e)) := by
  subst hs
  obtain ⟨h1, h2, h3⟩ := zd7 he
  obtain ⟨x1, x2, x3⟩ := hx
  have hn : ¬ (n + m ≤ c) := by omega
  have h63' : ¬ (9223372036854775807 < ((n : Int) + (m : Int))) := by omega
  have h48' : ¬ (281474976710656 < Builtin.nextslicecap (n + m) c * i.bytes) := by
    have := growslice_fits hg hb
    omega
  unfold isRow at hu
  split at hu
  · rename_i e2 hu2
    simp [Builtin.append_, run_underlying h1, run_underlying hu2, sizeOf, typeInfo, zeroValue, h2, h3, x1, hn, h63', h48', Question.forced, hold, x3, newRow, grownCap]
    congr 2
    apply Array.ext'
    simp [List.append_assoc]
  · rename_i hu2
    simp [Builtin.append_, run_underlying h1, run_underlying hu2, sizeOf, typeInfo, zeroValue, h2, h3, x1, hn, h63', h48', Question.forced, hold, x3, newRow, grownCap]
    congr 2
    apply Array.ext'
    simp [List.append_assoc]
  · cases hu
theorem app_roomR {s : Nat} {t u e : TypeId} {i : TypeInfo} {z : Value} {ty : TypeId} {b off : Nat} {n c m : Nat} {x' : Value} {news : List Value} {w : World} (he : elemO P t = some (e, i, z)) (hu : isRow P u = true) (hs : i.size = s)
    (hx : HoldsR P s x' m news w) (hg : n + m ≤ c) {cs : Array Value} {ty0 : TypeId} {fr : Nat × Nat} (h : w.heap[b]? = some (.cells cs ty0 fr)) (hf : ∀ i, i < cs.size → ¬(fr.1 ≤ i ∧ i < fr.2)) (hb : off + n * s + news.length ≤ cs.size) (hc : ∀ x ∈ news, ze8 x) :
    (Builtin.append_ #[t, u] ty #[.slice (some ⟨b, off, none⟩) n c, x']).run P w = .ok (.slice (some ⟨b, off, none⟩) (n + m) c) (w.setCells b (off + n * s) news) := by
  subst hs
  obtain ⟨h1, h2, h3⟩ := zd7 he
  obtain ⟨x1, x2, x3⟩ := hx
  have hst := ze3 (P := P) h hf (off := off + n * i.size) (us := news) hb hc
  unfold isRow at hu
  split at hu
  · rename_i e2 hu2
    simp [Builtin.append_, run_underlying h1, run_underlying hu2, sizeOf, typeInfo, h2, x1, hg, x2, zb8, hst]
  · rename_i hu2
    simp [Builtin.append_, run_underlying h1, run_underlying hu2, sizeOf, typeInfo, h2, x1, hg, x2, zb8, hst]
  · cases hu
theorem zs9 {s : Nat} {t u e : TypeId} {i : TypeInfo} {z : Value} {ty : TypeId} {a : Option Addr} {n c : Nat} {x' : Value} {w : World} (he : elemO P t = some (e, i, z)) (hu : isRow P u = true) (hs : i.size = s) (hx : HoldsR P s x' 0 [] w) (hg : n ≤ c) :
    (Builtin.append_ #[t, u] ty #[.slice a n c, x']).run P w = .ok (.slice a n c) w := by
  subst hs
  obtain ⟨h1, h2, h3⟩ := zd7 he
  obtain ⟨x1, x2, x3⟩ := hx
  unfold isRow at hu
  split at hu
  · rename_i e2 hu2
    cases a <;> simp [Builtin.append_, run_underlying h1, run_underlying hu2, sizeOf, typeInfo, h2, x1, hg, x2, storeCells]
  · rename_i hu2
    cases a <;> simp [Builtin.append_, run_underlying h1, run_underlying hu2, sizeOf, typeInfo, h2, x1, hg, x2, storeCells]
  · cases hu
def zs5 (P : Program) (G : Heap) (t u : TypeId) (s x : T) : Option Res :=
  match elemO P t with
  | none => none
  | some (_, i, z) => bif !(isRow P u && Nat.blt 0 i.size && Nat.beq z.cells.size i.size) then none else
    bif zr8 x && zm8 s then some ⟨true, s, G, 0, 0⟩ else
    match contC G i.size x with
    | none => none
    | some (vc, m, g, tm) => match s with
      | .nilslice => some ⟨vc && sizeB i m, .slice G.length [] 0 i.size m none, G ++ [some (.rows m i.size g)], tm, 0⟩
      | .slice id path lo q n (some c) => bif Nat.ble (n + m) c then (bif Nat.beq m 0 then some ⟨vc, .slice id path lo q n (some c), G, tm, 0⟩ else none) else
        match contC G i.size (.slice id path lo q n (some c)) with
        | some (vc', n', f, tm') => bif Nat.beq n n' then some ⟨(vc && vc') && sizeB i (n + m), .slice G.length [] 0 i.size (n + m) none, G ++ [some (.rows (n + m) i.size (catT n f g))], tm ||| tm', 0⟩ else none
        | none => none
      | .slice id [] 0 q n none => match hget G id with
        | some (.rows n0 q' f) => bif Nat.beq q i.size && Nat.beq q' i.size then some ⟨vc && (decide (n ≤ n0) && sizeB i (n + m)), .slice G.length [] 0 i.size (n + m) none, hset G id none ++ [some (.rows (n + m) i.size (catT n f g))], tm ||| 2 ^ id, 2 ^ id⟩ else none
        | _ => none
      | _ => none
theorem rows_nil {ρ : Rho} {s : Nat} {f : Nat → T} {cs : List Value} (h : (R ρ (.rows 0 s f)).c cs) : cs = [] := by
  have := h.1
  rw [Nat.zero_mul] at this
  exact List.eq_nil_of_length_eq_zero this
theorem zq7 {z : Value} {olds news : List Value} {s n c : Nat} (hz : z.cells.size = s) (hl : olds.length + news.length = n * s) (hc : n ≤ c) : (olds.toArray ++ news.toArray ++ Builtin.zeroCells z.cells (c - n)).size = c * s := by
  rw [Array.size_append, Array.size_append, size_zeroCells, hz, List.size_toArray, List.size_toArray, hl, ← Nat.add_mul]
  congr 1
  omega
theorem newRows {G : Heap} {ρ : Rho} {w : World} {vc0 : Bool} {e : TypeId} {s n c t0 : Nat} {F : Nat → T} {news : List Value} (hs0 : 0 < s) (hfr : ρ G.length = none) (hro : RoOK ρ w) (hle : n ≤ c) (hn : (R ρ (.rows n s F)).c news) {cs : Array Value} (hsz : cs.size = c * s) (htk : cs.toList.take (n * s) = news) :
    ∃ ρ', Post ρ ρ' G w ⟨vc0, .slice G.length [] 0 s n none, G ++ [some (.rows n s F)], t0, 0⟩ (.slice (some ⟨w.heap.size, 0, none⟩) n c) (w.drew.alloc (.cells cs e)) := by
  refine Exists.imp (fun _ h => h.anyVc) (Post.alloc (w := w) (z := .rows n s F) (v := .slice G.length [] 0 s n none) (cs := cs) (ty := e) (w.drew.alloc (.cells cs e)) rfl rfl rfl rfl hfr hro ?_ ?_ ?_)
  · show n * s ≤ cs.size
    rw [hsz]
    exact Nat.mul_le_mul_right _ hle
  · show (R ρ (.rows n s F)).c (cs.toList.take (n * s))
    rw [htk]
    exact hn
  · intro ρ' _ hn'
    exact .inl ⟨_, _, hn', rfl, hs0, .inl ⟨c, by simp, by rw [Nat.zero_add, hsz], hle⟩⟩
theorem evAppendR_sound {G : Heap} {t u : TypeId} {s x : T} {r : Res} {ρ : Rho} {s' x' : Value} {w : World} {ty : TypeId} (h : zs5 P G t u s x = some r) (hvc : r.vc = true) (hs : (R ρ s).v s') (hx : (R ρ x).v x') (hsim : Sim (bitK r.t) ρ G w) (hf : fresh ρ G.length r.G.length) :
    ∃ v' w', (Builtin.append_ #[t, u] ty #[s', x']).run P w = .ok v' w' ∧ ∃ ρ', Post ρ ρ' G w r v' w' := by
  unfold zs5 at h
  split at h
  · cases h
  · rename_i e i z he
    cases hk : (isRow P u && Nat.blt 0 i.size && Nat.beq z.cells.size i.size) with
    | false => rw [hk] at h; cases h
    | true =>
      rw [hk] at h
      simp only [Bool.not_true, cond_false] at h
      simp only [Bool.and_eq_true] at hk
      obtain ⟨⟨hu, hs1⟩, hz1⟩ := hk
      have hs1 : 0 < i.size := by simpa using hs1
      have hz1 := Nat.eq_of_beq_eq_true hz1
      cases hn : (zr8 x && zm8 s) with
      | true =>
        rw [hn] at h
        cases h
        simp only [Bool.and_eq_true] at hn
        have hxn : x' = .slice none 0 0 := by
          cases x <;> simp [zr8] at hn
          exact hx
        obtain ⟨a, n, c, rfl, hnc⟩ := R_slice_shape hn.2 hs
        have hh : HoldsR P i.size x' 0 [] w := by
          subst hxn
          exact ⟨rfl, by simp [Builtin.firstCells], by simp [Builtin.firstCells]⟩
        exact ⟨_, _, zs9 he hu rfl hh hnc, ρ, Post.pure hs 0⟩
      | false =>
        rw [hn] at h
        simp only [cond_false] at h
        split at h
        · cases h
        · rename_i vc m g tm hc
          split at h
          · -- nil
            obtain rfl : s' = _ := hs
            cases h
            simp only [Bool.and_eq_true] at hvc
            obtain ⟨hv1, hv2⟩ := hvc
            obtain ⟨hb1, hb2⟩ := zi7 hv2
            obtain ⟨news, hn1, hh⟩ := zm2 (P := P) hs1 hc hv1 hx (fun _ h => h) hsim
            have hfr : ρ G.length = none := hf G.length (Nat.le_refl _) (by simp)
            rcases Nat.eq_zero_or_pos m with hm0 | hm0
            · subst hm0
              rw [rows_nil hn1] at hh
              exact ⟨_, _, zs9 he hu rfl hh (Nat.le_refl _), ρ, Post.vacate G 0 _ rfl (fun k hk => by simp at hk) hfr (by simp [T.size]) (.inr ⟨rfl, rfl, rfl, rfl⟩)⟩
            · have hr := app_growR (P := P) (ty := ty) (base := none) (n := 0) (c := 0) (olds := []) he hu rfl (by simp [Builtin.firstCells]) hh (by omega) (by rw [Nat.zero_add]; exact hb1) (by omega)
              have hge := grownCap_ge w (0 + m) 0 e
              have hlen : news.length = m * i.size := hn1.1
              have hp := newRows (vc0 := vc && sizeB i m) (t0 := tm) (w := w) (e := e) (c := grownCap w (0 + m) 0 e) hs1 hfr hsim.ro (by omega) hn1
                (cs := ([] : List Value).toArray ++ news.toArray ++ Builtin.zeroCells z.cells (grownCap w (0 + m) 0 e - (0 + m))) (zq7 (olds := []) hz1 (by simp [hlen]) hge) (by
                  simp only [Array.toList_append]
                  rw [List.nil_append, List.take_append_of_le_length (by rw [hlen]; exact Nat.le_refl _), List.take_of_length_le (by rw [hlen]; exact Nat.le_refl _)])
              simp only [Nat.zero_add] at hp hr
              exact ⟨_, _, hr, hp⟩
          · -- a slice whose room is known
            rename_i id path lo q n c
            cases hle : Nat.ble (n + m) c with
            | true =>
              rw [hle] at h
              cases hm : Nat.beq m 0 with
              | false => rw [hm] at h; cases h
              | true =>
                rw [hm] at h
                cases h
                have hm0 := Nat.eq_of_beq_eq_true hm
                subst hm0
                obtain ⟨news, hn1, hh⟩ := zm2 (P := P) hs1 hc hvc hx (fun _ h => h) hsim
                rw [rows_nil hn1] at hh
                have hs' := hs
                obtain ⟨b, sz, hrb, hq⟩ := zd8 hs
                simp only [zc7] at hq
                subst hq
                exact ⟨_, _, zs9 he hu rfl hh (Nat.le_of_ble_eq_true hle), ρ, Post.anyVc (Post.pure (vc := true) hs' 0)⟩
            | false =>
              rw [hle] at h
              simp only [cond_false] at h
              have hgt : c < n + m := by
                rcases Nat.lt_or_ge c (n + m) with h | h
                · exact h
                · rw [Nat.ble_eq_true_of_le h] at hle; cases hle
              split at h
              · rename_i vc' n' f tm' hc'
                cases hk : Nat.beq n n' with
                | false => rw [hk] at h; cases h
                | true =>
                  rw [hk] at h
                  have hnn := Nat.eq_of_beq_eq_true hk
                  subst hnn
                  cases h
                  simp only [Bool.and_eq_true] at hvc
                  obtain ⟨⟨hv1, hv2⟩, hv3⟩ := hvc
                  obtain ⟨hb1, hb2⟩ := zi7 hv3
                  obtain ⟨news, hn1, hh⟩ := zm2 (P := P) hs1 hc hv1 hx (fun i h => by rw [Nat.testBit_or, h]; rfl) hsim
                  obtain ⟨olds, ho1, hh'⟩ := zm2 (P := P) hs1 hc' hv2 hs (fun i h => by rw [Nat.testBit_or, h, Bool.or_true]) hsim
                  obtain ⟨b, sz, hrb, hq⟩ := zd8 hs
                  simp only [zc7] at hq
                  subst hq
                  have hr := app_growR (P := P) (ty := ty) he hu rfl hh'.2.2 hh hgt hb1 hb2
                  have hge := grownCap_ge w (n + m) c e
                  have hfr : ρ G.length = none := hf G.length (Nat.le_refl _) (by simp)
                  have hcat := rows_cat ho1 hn1
                  have hlen : olds.length + news.length = (n + m) * i.size := by rw [ho1.1, hn1.1, Nat.add_mul]
                  have hp := newRows (vc0 := (vc && vc') && sizeB i (n + m)) (t0 := tm ||| tm') (w := w) (e := e) (c := grownCap w (n + m) c e) hs1 hfr hsim.ro hge hcat
                    (cs := olds.toArray ++ news.toArray ++ Builtin.zeroCells z.cells (grownCap w (n + m) c e - (n + m))) (zq7 hz1 hlen hge) (by
                      simp only [Array.toList_append]
                      rw [List.take_append_of_le_length (by rw [List.length_append, hlen]; exact Nat.le_refl _), List.take_of_length_le (by rw [List.length_append, hlen]; exact Nat.le_refl _)])
                  exact ⟨_, _, hr, hp⟩
              · cases h
          · -- a slice that is taken over
            rename_i id q n
            split at h
            · rename_i n0 q' f hid
              cases hk : (Nat.beq q i.size && Nat.beq q' i.size) with
              | false => rw [hk] at h; cases h
              | true =>
                rw [hk] at h
                simp only [Bool.and_eq_true] at hk
                have hq1 := Nat.eq_of_beq_eq_true hk.1
                have hq2 := Nat.eq_of_beq_eq_true hk.2
                subst hq1
                subst hq2
                cases h
                simp only [Bool.and_eq_true, decide_eq_true_eq] at hvc
                obtain ⟨hv1, hv2, hv3⟩ := hvc
                obtain ⟨hb1, hb2⟩ := zi7 hv3
                obtain ⟨news, hn1, hh⟩ := zm2 (P := P) hs1 hc hv1 hx (fun i h => by rw [Nat.testBit_or, h]; rfl) hsim
                have hfr : ρ G.length = none := hf G.length (Nat.le_refl _) (by simp [zb7])
                rcases hs with ⟨b, sz, hrb, _, _, hq⟩ | ⟨_, _, rfl, rfl⟩
                rotate_left
                · rcases Nat.eq_zero_or_pos m with hm0 | hm0
                  · subst hm0
                    rw [rows_nil hn1] at hh
                    exact ⟨_, _, zs9 he hu rfl hh (Nat.le_refl _), ρ, Post.vacate (hset G id none) (2 ^ id) _ (zb7 _ _ _) (fun k hk hl => by have e := tb_eq hk; subst e; exact zc8 _ hl) hfr (by simp [T.size]) (.inr ⟨rfl, rfl, rfl, rfl⟩)⟩
                  · have hr := app_growR (P := P) (ty := ty) (base := none) (n := 0) (c := 0) (olds := []) he hu rfl (by simp [Builtin.firstCells]) hh (by omega) hb1 (by omega)
                    have hge := grownCap_ge w (0 + m) 0 e
                    have hlen : news.length = m * i.size := hn1.1
                    have hsz : (([] : List Value).toArray ++ news.toArray ++ Builtin.zeroCells z.cells (grownCap w (0 + m) 0 e - (0 + m))).size = grownCap w (0 + m) 0 e * i.size := zq7 (olds := []) hz1 (by simp [hlen]) hge
                    refine ⟨_, _, hr, ?_⟩
                    refine Post.consumeN (p := (w.heap.size, grownCap w (0 + m) 0 e * i.size)) hid hfr hsim.ro (Nat.le_refl _) ⟨_, e, (0, 0), zj1 w.drew _, hsz, ?_, ?_, ?_, Nat.le_refl _⟩ (fun b' hb' => heap_alloc_old w.drew _ b' hb') (by simp) rfl rfl rfl ?_
                    · show (0 + m) * i.size ≤ _
                      rw [hsz]; exact Nat.mul_le_mul_right _ hge
                    · show (R ρ (.rows (0 + m) i.size (catT 0 f g))).c (List.take ((0 + m) * i.size) _)
                      have e0 : (R ρ (.rows 0 i.size f)).c [] := ⟨by simp, fun j hj => absurd hj (by omega)⟩
                      have e1 := rows_cat e0 hn1
                      have e2 : List.take ((0 + m) * i.size) (([] : List Value).toArray ++ news.toArray ++ Builtin.zeroCells z.cells (grownCap w (0 + m) 0 e - (0 + m))).toList = [] ++ news := by
                        simp only [Array.toList_append]
                        rw [List.nil_append, Nat.zero_add, List.take_append_of_le_length (by rw [hlen]; exact Nat.le_refl _), List.take_of_length_le (by rw [hlen]; exact Nat.le_refl _)]
                      rw [e2]
                      exact e1
                    · intro i' _
                      simp
                    · intro ρ' _ hn'
                      exact .inl ⟨_, _, hn', rfl, hs1, .inl ⟨grownCap w (0 + m) 0 e, by simp, by rw [Nat.zero_add], hge⟩⟩
                obtain ⟨cs, ty0, fr, g1, g2, g3, g4, g5, g5'⟩ := hsim.blk id _ _ (by rw [bitK, Nat.testBit_or]; simp [Nat.testBit_two_pow]) hid hrb
                have hT : T.size (.rows n0 i.size f) = n0 * i.size := rfl
                rw [hT] at g3 g4
                have hnm : n * i.size ≤ n0 * i.size := Nat.mul_le_mul_right _ hv2
                have ho1 : (R ρ (.rows n i.size f)).c (cs.toList.take (n * i.size)) := by
                  obtain ⟨e4, g4⟩ := g4
                  refine ⟨by rw [List.length_take, Array.length_toList]; omega, fun j hj => ?_⟩
                  have := g4 j (by omega)
                  have hjm : j * i.size + i.size ≤ n * i.size := by
                    have : (j + 1) * i.size ≤ n * i.size := Nat.mul_le_mul_right _ hj
                    rw [Nat.add_mul, Nat.one_mul] at this
                    exact this
                  rw [List.drop_take, List.take_take, Nat.min_eq_left (by omega)] at this ⊢
                  exact this
                have oldHold : ∀ c, (Builtin.firstCells i.size n (.slice (some ⟨b, 0, none⟩) n c)).run P w.drew = .ok (cs.toList.take (n * i.size)).toArray w.drew := fun c => by
                  refine run_firstCells_some (P := P) w.drew i.size n _ n c _ ho1.1 fun j v hj => ?_
                  have hlt : j < n * i.size := by
                    have := (List.getElem?_eq_some_iff.1 hj).1
                    rwa [ho1.1] at this
                  rw [zb8, Nat.zero_add, zn3 (w := w.drew) (by exact g1)]
                  rw [List.getElem?_take_of_lt hlt] at hj
                  simpa using hj
                have hcat := rows_cat ho1 hn1
                have hlen : (cs.toList.take (n * i.size)).length + news.length = (n + m) * i.size := by rw [ho1.1, hn1.1, Nat.add_mul]
                have grow : ∀ c, c < n + m → ∀ base, (Builtin.firstCells i.size n (.slice base n c)).run P w.drew = .ok (cs.toList.take (n * i.size)).toArray w.drew →
                    ∃ v' w', (Builtin.append_ #[t, u] ty #[.slice base n c, x']).run P w = .ok v' w' ∧ ∃ ρ', Post ρ ρ' G w ⟨vc && (decide (n ≤ n0) && sizeB i (n + m)), .slice G.length [] 0 i.size (n + m) none, hset G id none ++ [some (.rows (n + m) i.size (catT n f g))], tm ||| 2 ^ id, 2 ^ id⟩ v' w' := by
                  intro c hgt base hold
                  have hr := app_growR (P := P) (ty := ty) he hu rfl hold hh hgt hb1 hb2
                  have hge := grownCap_ge w (n + m) c e
                  refine ⟨_, _, hr, ?_⟩
                  have hsz : ((cs.toList.take (n * i.size)).toArray ++ news.toArray ++ Builtin.zeroCells z.cells (grownCap w (n + m) c e - (n + m))).size = grownCap w (n + m) c e * i.size := zq7 hz1 hlen hge
                  refine Post.consume (p := (w.heap.size, grownCap w (n + m) c e * i.size)) hid hrb hfr hsim.ro (hsim.dis id _ _ (by rw [bitK, Nat.testBit_or]; simp [Nat.testBit_two_pow]) hid hrb) (.inr (Nat.le_refl _)) ⟨_, e, (0, 0), zj1 w.drew _, hsz, ?_, ?_, ?_, Nat.le_refl _⟩ (fun b' hb' _ => heap_alloc_old w.drew _ b' hb') (by simp) rfl rfl rfl ?_
                  · show (n + m) * i.size ≤ _
                    rw [hsz]; exact Nat.mul_le_mul_right _ hge
                  · show (R ρ (.rows (n + m) i.size (catT n f g))).c (List.take ((n + m) * i.size) _)
                    simp only [Array.toList_append]
                    rw [List.take_append_of_le_length (by rw [List.length_append, hlen]; exact Nat.le_refl _), List.take_of_length_le (by rw [List.length_append, hlen]; exact Nat.le_refl _)]
                    exact hcat
                  · intro i' _
                    simp
                  · intro ρ' _ hn'
                    exact .inl ⟨_, _, hn', rfl, hs1, .inl ⟨grownCap w (n + m) c e, by simp, by rw [Nat.zero_add], hge⟩⟩
                rcases hq with ⟨c, rfl, hsz, hnc⟩ | ⟨h0, a, rfl, ha⟩
                · simp only [Nat.zero_mul]
                  rcases Nat.lt_or_ge c (n + m) with hgt | hge
                  · exact grow c hgt _ (oldHold c)
                  · have hcs : cs.size = c * i.size := by simp only [Nat.zero_add] at hsz; omega
                    have hcell : ∀ x ∈ news, ze8 x := zt2 hn1
                    have hnl : news.length = m * i.size := hn1.1
                    have hroom : n * i.size + m * i.size ≤ c * i.size := by rw [← Nat.add_mul]; exact Nat.mul_le_mul_right _ hge
                    have hr := app_roomR (P := P) (ty := ty) (off := 0) he hu rfl hh hge g1 g5 (by omega) hcell
                    obtain ⟨a1, a2, a3, a4, a5, a6⟩ := zi2 b news (0 + n * i.size) w cs ty0 fr g1 (by omega)
                    refine ⟨_, _, hr, ?_⟩
                    have hsp : (zc1 cs.toList (0 + n * i.size) news).length = cs.size := by
                      rw [zd4 (by simp only [Array.length_toList] at *; omega), Array.length_toList]
                    refine Post.consume (p := (b, sz)) hid hrb hfr hsim.ro (hsim.dis id _ _ (by rw [bitK, Nat.testBit_or]; simp [Nat.testBit_two_pow]) hid hrb) (.inl rfl) ⟨_, ty0, fr, a1, ?_, ?_, ?_, ?_, g5'⟩ (fun b' _ hne => a2 b' hne) (by rw [a3]; exact Nat.le_refl _) a4 a5 a6 ?_
                    · rw [List.size_toArray, hsp]; exact g2
                    · rw [List.size_toArray, hsp]
                      show (n + m) * i.size ≤ cs.size
                      rw [Nat.add_mul]
                      omega
                    · show (R ρ (.rows (n + m) i.size (catT n f g))).c (List.take ((n + m) * i.size) (zc1 cs.toList (0 + n * i.size) news))
                      have : List.take ((n + m) * i.size) (zc1 cs.toList (0 + n * i.size) news) = cs.toList.take (n * i.size) ++ news := by
                        rw [Nat.zero_add]
                        simp only [zc1]
                        rw [List.append_assoc, ← List.append_assoc, List.take_append_of_le_length (by rw [List.length_append, hlen]; exact Nat.le_refl _), List.take_of_length_le (by rw [List.length_append, hlen]; exact Nat.le_refl _)]
                      rw [this]
                      exact hcat
                    · intro i' hi'
                      rw [List.size_toArray, hsp] at hi'
                      exact g5 i' hi'
                    · intro ρ' hext hn'
                      exact .inl ⟨_, _, hn', rfl, hs1, .inl ⟨c, by simp, hsz, hge⟩⟩
                · subst h0
                  have hf0 : (Builtin.firstCells i.size 0 (.slice a 0 0)).run P w.drew = .ok (cs.toList.take (0 * i.size)).toArray w.drew := by
                    rw [Nat.zero_mul, List.take_zero]
                    cases a <;> simp [Builtin.firstCells, loadCells, loadCellsFrom]
                  rcases Nat.eq_zero_or_pos m with hm0 | hm0
                  · subst hm0
                    rw [rows_nil hn1] at hh
                    refine ⟨_, _, zs9 he hu rfl hh (Nat.le_refl _), ?_⟩
                    refine Post.consume (p := (b, sz)) hid hrb hfr hsim.ro (hsim.dis id _ _ (by rw [bitK, Nat.testBit_or]; simp [Nat.testBit_two_pow]) hid hrb) (.inl rfl) ⟨cs, ty0, fr, g1, g2, by simp [T.size], ?_, g5, g5'⟩ (fun _ _ _ => rfl) (Nat.le_refl _) rfl rfl rfl ?_
                    · show (R ρ (.rows (0 + 0) i.size _)).c (List.take ((0 + 0) * i.size) _)
                      rw [Nat.add_zero, Nat.zero_mul, List.take_zero]
                      exact ⟨by simp, fun j hj => absurd hj (by omega)⟩
                    · intro ρ' hext hn'
                      exact .inl ⟨_, _, hn', rfl, hs1, .inr ⟨rfl, a, rfl, ha⟩⟩
                  · exact grow 0 (by omega) a hf0
            · cases h
          · cases h
theorem evAppendR_stat {G : Heap} {t u : TypeId} {s x : T} {r : Res} (h : zs5 P G t u s x = some r) : Stat G r := by
  unfold zs5 at h
  split at h
  · cases h
  · rename_i e i z _
    cases hk : (isRow P u && Nat.blt 0 i.size && Nat.beq z.cells.size i.size) with
    | false => rw [hk] at h; cases h
    | true =>
      rw [hk] at h
      simp only [Bool.not_true, cond_false] at h
      cases hn : (zr8 x && zm8 s) with
      | true =>
        rw [hn] at h
        cases h
        exact Stat.pure _ _ _ _
      | false =>
        rw [hn] at h
        simp only [cond_false] at h
        split at h
        · cases h
        · rename_i vc m g tm hc
          split at h
          · cases h
            exact ⟨by simp, fun k _ h => by simp at h, fun _ hk _ => za6 hk⟩
          · rename_i id path lo q n c
            cases hle : Nat.ble (n + m) c <;> rw [hle] at h
            · simp only [cond_false] at h
              split at h
              · rename_i vc' n' f tm' _
                cases hk : Nat.beq n n' <;> rw [hk] at h <;> cases h
                exact ⟨by simp, fun k _ h => by simp at h, fun _ hk _ => za6 hk⟩
              · cases h
            · cases hm : Nat.beq m 0 <;> rw [hm] at h <;> cases h
              exact Stat.pure _ _ _ _
          · rename_i id q n
            split at h
            · rename_i n0 q' f hid
              cases hk : (Nat.beq q i.size && Nat.beq q' i.size) <;> rw [hk] at h <;> cases h
              have hl := za7 hid
              refine ⟨by simp [zb7], fun j hj hb => ?_, fun j hj hb => ?_⟩
              · have := tb_eq hb
                subst this
                exact ⟨by rw [Nat.testBit_or]; simp [Nat.testBit_two_pow], _, hid⟩
              · have hne : j ≠ id := fun e => by
                  subst e
                  simp [Nat.testBit_two_pow] at hb
                show hget (hset G id none ++ _) j = _
                rw [za6 (by rw [zb7]; exact hj), zj4 _ hne]
            · cases h
          · cases h
theorem rows_zero {ρ : Rho} {zt : T} {zc : Array Value} {n : Nat} {cs : List Value} (hz : (R ρ zt).c zc.toList) (hs0 : 0 < zc.size) (hl : cs.length = n * zc.size) (h : ∀ k, k < n * zc.size → cs[k]? = zc[k % zc.size]?) : (R ρ (.rows n zc.size fun _ => zt)).c cs := by
  refine ⟨hl, fun j hj => ?_⟩
  have e : (cs.drop (j * zc.size)).take zc.size = zc.toList := by
    have hjm : j * zc.size + zc.size ≤ n * zc.size := by
      have : (j + 1) * zc.size ≤ n * zc.size := Nat.mul_le_mul_right _ hj
      rw [Nat.add_mul, Nat.one_mul] at this
      exact this
    apply List.ext_getElem?
    intro k
    by_cases hk : k < zc.size
    · rw [List.getElem?_take_of_lt hk, List.getElem?_drop, h _ (by omega), Nat.mul_comm, Nat.mul_add_mod, Nat.mod_eq_of_lt hk]
      simp
    · rw [List.getElem?_eq_none (by rw [List.length_take]; omega), List.getElem?_eq_none (by rw [Array.length_toList]; omega)]
  rw [e]
  exact hz
theorem zOf_cells {e : TypeId} {i : TypeInfo} {z : Value} {zt : T} {ρ : Rho} (hi : P.info? e = some i) (hz : i.zero = some z) (h : zOf P e = some zt) : (R ρ zt).c z.cells.toList := by
  obtain ⟨v, h1, h2, _⟩ := zOf_sound (ρ := ρ) h default
  simp [zeroValue, typeInfo, hi, hz] at h1
  obtain ⟨rfl, _⟩ := h1
  exact h2
def evMakeR (P : Program) (G : Heap) (t : TypeId) (l c : T) : Option Res :=
  match elemO P t, l, c with
  | some (e, i, z), .int _ l, .int _ c => match zOf P e with
    | some zt => bif Nat.blt 0 i.size && Nat.beq z.cells.size i.size then
      some ⟨decide (0 ≤ l ∧ l ≤ c) && decide ((i.bytes : Int) * c ≤ 281474976710656 ∧ c ≤ 9223372036854775807), .slice G.length [] 0 i.size l.toNat (some c.toNat), G ++ [some (.rows c.toNat i.size fun _ => zt)], 0, 0⟩ else none
    | none => none
  | _, _, _ => none
theorem evMakeR_sound {G : Heap} {t : TypeId} {l c : T} {r : Res} {ρ : Rho} {l' c' : Value} {w : World} (h : evMakeR P G t l c = some r) (hvc : r.vc = true) (hl : (R ρ l).v l') (hc : (R ρ c).v c') (hf : fresh ρ G.length r.G.length) (hro : RoOK ρ w) :
    ∃ v' w', (Instr.makeSlice t l' c').run P w = .ok v' w' ∧ ∃ ρ', Post ρ ρ' G w r v' w' := by
  unfold evMakeR at h
  split at h
  · rename_i e i z kl l kc c he
    obtain ⟨hu, hi, hz⟩ := zd7 he
    obtain rfl : l' = _ := hl
    obtain rfl : c' = _ := hc
    split at h
    · rename_i zt hzt
      cases hs : (Nat.blt 0 i.size && Nat.beq z.cells.size i.size) with
      | false => rw [hs] at h; cases h
      | true =>
        rw [hs] at h
        simp only [Bool.and_eq_true] at hs
        have hs1 : 0 < i.size := by simpa using hs.1
        have hs2 := Nat.eq_of_beq_eq_true hs.2
        cases h
        simp only [Bool.and_eq_true, decide_eq_true_eq] at hvc
        obtain ⟨⟨h1, h2⟩, h3, h4⟩ := hvc
        have hr := run_make (P := P) w t e i z hu hi hz kl kc l c h1 h2 h3 h4
        refine ⟨_, _, hr, ?_⟩
        have hsz : (madeCells z.cells (c.toNat * i.size)).size = c.toNat * i.size := by rw [size_madeCells]
        have hrow : (R ρ (.rows c.toNat i.size fun _ => zt)).c (madeCells z.cells (c.toNat * i.size)).toList := by
          rw [← hs2]
          refine rows_zero (zOf_cells hi hz hzt) (by omega) (by rw [Array.length_toList, size_madeCells]) fun k hk => ?_
          have hm : k % z.cells.size < z.cells.size := Nat.mod_lt _ (by omega)
          simp [madeCells, hk, hm]
        refine Exists.imp (fun _ h => h.anyVc) (Post.alloc (z := .rows c.toNat i.size fun _ => zt) (v := .slice G.length [] 0 i.size l.toNat (some c.toNat)) (cs := madeCells z.cells (c.toNat * i.size)) (ty := e) (w.alloc (.cells (madeCells z.cells (c.toNat * i.size)) e)) rfl rfl rfl rfl (hf G.length (Nat.le_refl _) (by simp)) hro ?_ ?_ ?_)
        · rw [hsz]; exact Nat.le_refl _
        · have e1 : (madeCells z.cells (c.toNat * i.size)).toList.take (T.size (.rows c.toNat i.size fun _ => zt)) = (madeCells z.cells (c.toNat * i.size)).toList := by
            rw [List.take_of_length_le]
            show _ ≤ c.toNat * i.size
            rw [Array.length_toList, hsz]
            exact Nat.le_refl _
          rw [e1]
          exact hrow
        · intro ρ' _ hn
          exact .inl ⟨_, _, hn, by simp [zc7, poff]⟩
    · cases h
  · cases h
theorem evMakeR_stat {G : Heap} {t : TypeId} {l c : T} {r : Res} (h : evMakeR P G t l c = some r) : Stat G r := by
  unfold evMakeR at h
  split at h
  · split at h
    · rename_i e i z _ _ _ _ _ _ _ _
      cases hs : (Nat.blt 0 i.size && Nat.beq z.cells.size i.size) <;> rw [hs] at h <;> cases h
      exact ⟨by simp, fun k _ h => by simp at h, fun _ hk _ => za6 hk⟩
    · cases h
  · cases h
def zi4 (P : Program) (G : Heap) (t : TypeId) (n : Nat) (parts : List (Nat × T)) : Option Res :=
  match elemO P t with
  | some (e, i, z) => match zOf P e with
    | some zt => bif Nat.blt 0 i.size && Nat.beq z.cells.size i.size && Nat.ble n 16777216 && Nat.ble (n * i.size) 16777216 then
      match fillT (fun j => some (.idx j i.size, i.size)) (.rows n i.size fun _ => zt) parts with
      | some (vc, .rows n' s' f) => bif Nat.beq n' n && Nat.beq s' i.size then some ⟨vc, .slice G.length [] 0 i.size n none, G ++ [some (.rows n' s' f)], 0, 0⟩ else none
      | _ => none
    else none
    | none => none
  | _ => none
theorem evBuildSliceR_sound {G : Heap} {t : TypeId} {n : Nat} {parts : List (Nat × T)} {parts' : Array (Nat × Value)} {r : Res} {ρ : Rho} {w : World} (h : zi4 P G t n parts = some r) (hvc : r.vc = true)
    (hr : ∀ (j i : Nat) (x : T), parts[j]? = some (i, x) → ∃ x', parts'.toList[j]? = some (i, x') ∧ (R ρ x).v x') (hl : parts'.toList.length = parts.length) (hf : fresh ρ G.length r.G.length) (hro : RoOK ρ w) :
    ∃ v' w', (Instr.buildSlice t n parts').run P w = .ok v' w' ∧ ∃ ρ', Post ρ ρ' G w r v' w' := by
  unfold zi4 at h
  split at h
  · rename_i e i z he
    obtain ⟨hu, hi, hz⟩ := zd7 he
    split at h
    · rename_i zt hzt
      cases hs : (Nat.blt 0 i.size && Nat.beq z.cells.size i.size && Nat.ble n 16777216 && Nat.ble (n * i.size) 16777216) with
      | false => rw [hs] at h; cases h
      | true =>
        rw [hs] at h
        simp only [Bool.and_eq_true] at hs
        obtain ⟨⟨⟨hs1, hs2⟩, hn⟩, hn2⟩ := hs
        have hs1 : 0 < i.size := by simpa using hs1
        have hs2 := Nat.eq_of_beq_eq_true hs2
        have hn := Nat.le_of_ble_eq_true hn
        have hn2 := Nat.le_of_ble_eq_true hn2
        simp only [cond_true] at h
        split at h
        · rename_i vc n' s' f hfill
          cases hnn : (Nat.beq n' n && Nat.beq s' i.size) with
          | false => rw [hnn] at h; cases h
          | true =>
            rw [hnn] at h
            simp only [Bool.and_eq_true] at hnn
            have e1 := Nat.eq_of_beq_eq_true hnn.1
            have e2 := Nat.eq_of_beq_eq_true hnn.2
            subst e1
            subst e2
            cases h
            have h0 : (R ρ (.rows n' i.size fun _ => zt)).c ((Array.range (n' * i.size)).map (fun x => z.cells[x % z.cells.size]!)).toList := by
              rw [← hs2]
              refine rows_zero (zOf_cells hi hz hzt) (by omega) (by simp) fun k hk => ?_
              have hm : k % z.cells.size < z.cells.size := Nat.mod_lt _ (by omega)
              simp [hk, hm]
            obtain ⟨cells', g1, g2, g3⟩ := zm1 (ρ := ρ) (place := fun j => some (.idx j i.size, i.size)) (place' := fun j => some (j * i.size, i.size)) (fun j s m hp => by cases hp; rfl) parts parts'.toList (.rows n' i.size fun _ => zt) (.rows n' i.size f) _ hr hl h0 vc hfill hvc
            have hlen : cells'.size = n' * i.size := by
              have := zh7 g2
              simpa [T.size] using this
            have hrun : (Instr.buildSlice t n' parts').run P w = .ok (.slice (some ⟨w.heap.size, 0, none⟩) n' n') (w.alloc (.cells cells' e)) := by
              have hlim : ¬ (16777216 < n') := by omega
              have hlim2 : ¬ (16777216 < n' * i.size) := by omega
              simp [Instr.buildSlice, run_underlying hu, sizeOf, typeInfo, zeroValue, hi, hz, hlim, hlim2, newRow, g1]
              intro h0'
              have e3 : ∀ g : Nat → Value, Array.map g (Array.range (n' * i.size)) = #[] := fun g => by rw [h0']; simp
              rw [e3] at g1
              rw [e3, g1]
              simp
            refine ⟨_, _, hrun, ?_⟩
            refine Exists.imp (fun _ h => h.anyVc) (Post.alloc (w := w) (z := .rows n' i.size f) (v := .slice G.length [] 0 i.size n' none) (cs := cells') (ty := e) (w.alloc (.cells cells' e)) rfl rfl rfl rfl (hf G.length (Nat.le_refl _) (by simp)) hro ?_ ?_ ?_)
            · show n' * i.size ≤ cells'.size
              omega
            · have : cells'.toList.take (T.size (.rows n' i.size f)) = cells'.toList := List.take_of_length_le (by show _ ≤ n' * i.size; simp [hlen])
              rw [this]
              exact g2
            · intro ρ' _ hn'
              exact .inl ⟨_, _, hn', rfl, hs1, .inl ⟨n', by simp, by rw [hlen, Nat.zero_add], Nat.le_refl _⟩⟩
        · cases h
    · cases h
  · cases h
theorem evBuildSliceR_stat {G : Heap} {t : TypeId} {n : Nat} {parts : List (Nat × T)} {r : Res} (h : zi4 P G t n parts = some r) : Stat G r := by
  unfold zi4 at h
  split at h
  · split at h
    · rename_i e i z _ _ zt _
      cases hs : (Nat.blt 0 i.size && Nat.beq z.cells.size i.size && Nat.ble n 16777216 && Nat.ble (n * i.size) 16777216) <;> rw [hs] at h
      · cases h
      · simp only [cond_true] at h
        split at h
        · rename_i vc n' s' f _
          cases hn : (Nat.beq n' n && Nat.beq s' i.size) <;> rw [hn] at h <;> cases h
          exact ⟨by simp, fun k _ h => by simp at h, fun _ hk _ => za6 hk⟩
        · cases h
    · cases h
  · cases h
def zs6 (P : Program) (G : Heap) (t u : TypeId) (s x : T) : Option Res :=
  match evAppend P G t u s x with
  | some r => some r
  | none => zs5 P G t u s x
def evMake2 (P : Program) (G : Heap) (t : TypeId) (l c : T) : Option Res :=
  match evMake P G t l c with
  | some r => some r
  | none => evMakeR P G t l c
def zi5 (P : Program) (G : Heap) (t : TypeId) (n : Nat) (parts : List (Nat × T)) : Option Res :=
  match zj5 P G t n parts with
  | some r => some r
  | none => zi4 P G t n parts
theorem evAppend2_sound {G : Heap} {t u : TypeId} {s x : T} {r : Res} {ρ : Rho} {s' x' : Value} {w : World} {ty : TypeId} (h : zs6 P G t u s x = some r) (hvc : r.vc = true) (hs : (R ρ s).v s') (hx : (R ρ x).v x') (hsim : Sim (bitK r.t) ρ G w) (hf : fresh ρ G.length r.G.length) :
    ∃ v' w', (Builtin.append_ #[t, u] ty #[s', x']).run P w = .ok v' w' ∧ ∃ ρ', Post ρ ρ' G w r v' w' := by
  unfold zs6 at h
  split at h
  · rename_i h1
    cases h
    exact evAppend_sound h1 hvc hs hx hsim hf
  · exact evAppendR_sound h hvc hs hx hsim hf
theorem evMake2_sound {G : Heap} {t : TypeId} {l c : T} {r : Res} {ρ : Rho} {l' c' : Value} {w : World} (h : evMake2 P G t l c = some r) (hvc : r.vc = true) (hl : (R ρ l).v l') (hc : (R ρ c).v c') (hf : fresh ρ G.length r.G.length) (hro : RoOK ρ w) :
    ∃ v' w', (Instr.makeSlice t l' c').run P w = .ok v' w' ∧ ∃ ρ', Post ρ ρ' G w r v' w' := by
  unfold evMake2 at h
  split at h
  · rename_i h1
    cases h
    exact evMake_sound h1 hvc hl hc hf hro
  · exact evMakeR_sound h hvc hl hc hf hro
theorem evBuildSlice2_sound {G : Heap} {t : TypeId} {n : Nat} {parts : List (Nat × T)} {parts' : Array (Nat × Value)} {r : Res} {ρ : Rho} {w : World} (h : zi5 P G t n parts = some r) (hvc : r.vc = true)
    (hr : ∀ (j i : Nat) (x : T), parts[j]? = some (i, x) → ∃ x', parts'.toList[j]? = some (i, x') ∧ (R ρ x).v x') (hl : parts'.toList.length = parts.length) (hf : fresh ρ G.length r.G.length) (hro : RoOK ρ w) :
    ∃ v' w', (Instr.buildSlice t n parts').run P w = .ok v' w' ∧ ∃ ρ', Post ρ ρ' G w r v' w' := by
  unfold zi5 at h
  split at h
  · rename_i h1
    cases h
    exact evBuildSlice_sound h1 hvc hr hl hf hro
  · exact evBuildSliceR_sound h hvc hr hl hf hro
theorem evAppend2_stat {G : Heap} {t u : TypeId} {s x : T} {r : Res} (h : zs6 P G t u s x = some r) : Stat G r := by
  unfold zs6 at h
  split at h
  · rename_i h1
    cases h
    exact evAppend_stat h1
  · exact evAppendR_stat h
theorem evMake2_stat {G : Heap} {t : TypeId} {l c : T} {r : Res} (h : evMake2 P G t l c = some r) : Stat G r := by
  unfold evMake2 at h
  split at h
  · rename_i h1
    cases h
    exact evMake_stat h1
  · exact evMakeR_stat h
theorem evBuildSlice2_stat {G : Heap} {t : TypeId} {n : Nat} {parts : List (Nat × T)} {r : Res} (h : zi5 P G t n parts = some r) : Stat G r := by
  unfold zi5 at h
  split at h
  · rename_i h1
    cases h
    exact evBuildSlice_stat h1
  · exact evBuildSliceR_stat h
end
end Go.AE
namespace Go.AE
open Go
noncomputable section
variable {P : Program}
def evCopy (P : Program) (G : Heap) (t : TypeId) (s x : T) : Option Res :=
  match elemO P t with
  | none => none
  | some (_, i, _) => bif Nat.beq i.size 1 then
    match contI G x with
    | none => none
    | some (vc, k, m, g, tm) => match s with
      | .slice id path lo q n _ => bif Nat.beq q 1 then match hget G id with
        | some tr => match get tr path with
          | some (.ints k' n0 f) => bif decide (k = k') then
              some ⟨vc && (getOK tr path && decide (lo + n ≤ n0)), .int .i64 (Nat.min m n : Nat), hset G id (some (put tr path (.ints k n0 (putF lo (Nat.min m n) f g)))), tm ||| 2 ^ id, 2 ^ id⟩ else none
          | _ => none
        | none => none
        else none
      | _ => none
    else none
theorem evCopy_stat {G : Heap} {t : TypeId} {s x : T} {r : Res} (h : evCopy P G t s x = some r) : Stat G r := by
  unfold evCopy at h
  split at h
  · cases h
  · rename_i e i z _
    cases hs : Nat.beq i.size 1 <;> rw [hs] at h
    · cases h
    · simp only [cond_true] at h
      split at h
      · cases h
      · rename_i vc k m g tm _
        split at h
        · rename_i id path lo q n cap
          cases hq : Nat.beq q 1 <;> rw [hq] at h
          · cases h
          · simp only [cond_true] at h
            split at h
            · rename_i tr hid
              split at h
              · rename_i k' n0 f _
                cases hk : decide (k = k') <;> rw [hk] at h <;> cases h
                refine ⟨by simp [zb7], fun j hj hb => ?_, fun j hj hb => ?_⟩
                · have := tb_eq hb
                  subst this
                  exact ⟨by rw [Nat.testBit_or]; simp [Nat.testBit_two_pow], _, hid⟩
                · have hne : j ≠ id := fun e => by
                    subst e
                    simp [Nat.testBit_two_pow] at hb
                  exact zj4 _ hne
              · cases h
            · cases h
        · cases h
theorem Frz.slice0 {ro : Nat → Option (Array Value)} {n c : Nat} {q : Nat → List Value → Prop} {cap : Option Nat} {x : Value} (h : Frz ro 1 n q cap x) (hc : c ≤ n) (h0 : 0 < c) :
    ∃ a c', x = .slice a n c' ∧ c ≤ c' ∧ Frz ro 1 c q none (.slice a c c') := by
  obtain ⟨a, c', rfl, h1, _, h2⟩ := h
  obtain ⟨b, off, cs, rfl, g1, g2, g3⟩ := h2 (by omega)
  exact ⟨_, c', rfl, by omega, _, c', rfl, by omega, fun _ e => (by cases e), fun _ => ⟨b, off, cs, rfl, g1, by omega, fun i hi => g3 i (by omega)⟩⟩
theorem contI_less {G : Heap} {x : T} {vc : Bool} {k : IntKind} {n c : Nat} {f : Nat → Int} {tm : Nat} {ρ : Rho} {x' : Value} {w : World} (h : contI G x = some (vc, k, n, f, tm)) (hvc : vc = true) (hx : (R ρ x).v x') {t : Nat}
    (ht : ∀ i, tm.testBit i = true → t.testBit i = true) (hsim : Sim (bitK t) ρ G w) (hc : c ≤ n) (hc0 : 0 < c) : (Builtin.firstCells 1 c x').run P w = .ok (zb2 k c f).toArray w := by
  have h' := h
  unfold contI at h
  split at h
  · rename_i id path lo m len cap
    have hn : n = len := by
      cases hm : Nat.beq m 1 with
      | false => rw [hm] at h; cases h
      | true =>
        rw [hm] at h
        simp only [cond_true] at h
        split at h
        · split at h
          · cases h; rfl
          · cases h
        · cases h
    subst hn
    rcases hx with ⟨b, sz, hr, hs⟩ | ⟨_, _, h0, _⟩
    rotate_left
    · omega
    have e : ∃ c', x' = .slice (some ⟨b, poff path + lo * m, none⟩) n c' := by
      cases cap with
      | some c' => exact ⟨c', hs⟩
      | none =>
        obtain ⟨rfl, _, (⟨c', rfl, _, _⟩ | ⟨h0, a, rfl, ha⟩)⟩ := hs
        · exact ⟨c', by simp [poff]⟩
        · omega
    obtain ⟨c', rfl⟩ := e
    have hx2 : (R ρ (.slice id path lo m c (some c'))).v (.slice (some ⟨b, poff path + lo * m, none⟩) c c') := .inl ⟨b, sz, hr, rfl⟩
    have h2 : ∃ vc2, contI G (.slice id path lo m c (some c')) = some (vc2, k, c, f, tm) ∧ vc2 = true := by
      unfold contI
      cases hm : Nat.beq m 1 with
      | false => rw [hm] at h; cases h
      | true =>
        rw [hm] at h
        simp only [cond_true] at h ⊢
        split at h
        · rename_i tr htr
          split at h
          · rename_i k0 n0 f0 hg
            cases h
            simp only [Bool.and_eq_true, decide_eq_true_eq] at hvc
            exact ⟨getOK tr path && decide (lo + c ≤ n0), by rw [hm]; rfl, by simp only [Bool.and_eq_true, decide_eq_true_eq]; exact ⟨hvc.1, by omega⟩⟩
          · cases h
        · cases h
    obtain ⟨vc2, h3, h4⟩ := h2
    exact (zh4 (P := P) h3 h4 hx2 ht hsim).2.1
  · rename_i s
    cases h
    obtain rfl : x' = _ := hx
    have e : ((s.extract 0 c).data.map fun b => (Value.int .u8 b.toNat : Value)) = (zb2 .u8 c fun j => ((s.data.toList.getD j 0).toNat : Nat)).toArray := by
      apply Array.ext'
      apply List.ext_getElem?
      intro j
      have hcs : c ≤ s.data.size := hc
      by_cases hj : j < c
      · have hl' : j < s.data.size := by omega
        rw [show ((zb2 .u8 c fun j => ((s.data.toList.getD j 0).toNat : Nat)).toArray).toList = zb2 .u8 c fun j => ((s.data.toList.getD j 0).toNat : Nat) from rfl, ze2 _ _ _ hj]
        simp [List.getD_eq_getElem?_getD, Array.getElem?_eq_getElem hl', hj, hl']
      · rw [List.getElem?_eq_none, List.getElem?_eq_none]
        · show (zb2 .u8 c fun j => ((s.data.toList.getD j 0).toNat : Nat)).length ≤ j
          rw [za5]
          omega
        · simp
          omega
    simp only [Builtin.firstCells, Sem.run_pure]
    rw [e]
  · rename_i k0 n0 f0 cap0
    have hx' : Frz ρ.ro 1 n0 (fun i cs => cs = [.int k0 (f0 i)]) cap0 x' := hx
    cases h
    obtain ⟨a, c', h1, h2, h3⟩ := Frz.slice0 hx' hc hc0
    obtain ⟨a2, c2, cs, e1, _, _, h4, h5, h6⟩ := Frz.first (P := P) h3 hsim.ro
    cases e1
    have e := Frz.ints h4 h5
    subst e
    have := h6 w rfl
    rw [h1]
    cases a with
    | none => exact this
    | some a => exact this
  · cases h
def sliceLen : T → Option Nat
  | .nilslice => some 0
  | .slice _ _ _ _ len _ => some len
  | _ => none
theorem sliceLen_R {ρ : Rho} {s : T} {s' : Value} {n : Nat} (h : sliceLen s = some n) (hs : (R ρ s).v s') : ∃ a c, s' = .slice a n c := by
  cases s <;> simp [sliceLen] at h
  · subst h
    exact ⟨none, 0, hs⟩
  · rename_i id path lo m len cap
    subst h
    rcases hs with ⟨b, sz, hr, hq⟩ | ⟨_, _, rfl, rfl⟩
    rotate_left
    · exact ⟨_, _, rfl⟩
    cases cap with
    | some c => exact ⟨_, c, hq⟩
    | none =>
      obtain ⟨_, _, (⟨c, rfl, _, _⟩ | ⟨h0, a, rfl, _⟩)⟩ := hq
      · exact ⟨_, c, rfl⟩
      · exact ⟨a, 0, by rw [h0]⟩
theorem copy_zero {t u e : TypeId} {i : TypeInfo} {z : Value} {ty : TypeId} {a : Option Addr} {n c m : Nat} {x' : Value} {w : World} (he : elemO P t = some (e, i, z)) (hs : i.size = 1) (hx : (Builtin.lenOf x').run P w = .ok m w) (h0 : Nat.min m n = 0) (hf : (Builtin.firstCells 1 0 x').run P w = .ok #[] w) :
    (Builtin.copy_ #[t, u] ty #[.slice a n c, x']).run P w = .ok (goInt 0) w := by
  obtain ⟨h1, h2, h3⟩ := zd7 he
  cases a <;> simp [Builtin.copy_, run_underlying h1, sizeOf, typeInfo, h2, hs, hx, h0, hf, storeCells]
theorem first_zero {G : Heap} {x : T} {vc : Bool} {k : IntKind} {n : Nat} {f : Nat → Int} {tm : Nat} {ρ : Rho} {x' : Value} {w : World} (h : contI G x = some (vc, k, n, f, tm)) (hx : (R ρ x).v x') : (Builtin.firstCells 1 0 x').run P w = .ok #[] w := by
  unfold contI at h
  split at h
  · obtain ⟨a, c, rfl⟩ := sliceLen_R (s := .slice _ _ _ _ _ _) rfl hx
    cases a <;> simp [Builtin.firstCells, loadCells, loadCellsFrom]
  · obtain rfl : x' = _ := hx
    simp [Builtin.firstCells]
  · obtain ⟨a, c, rfl, _⟩ := hx
    cases a <;> simp [Builtin.firstCells, loadCells, loadCellsFrom]
  · cases h
theorem splice_self {cs : List Value} {o n : Nat} (h : o + n ≤ cs.length) : zc1 cs o (cut cs o n) = cs := by
  unfold zc1 cut
  rw [List.length_take, List.length_drop, Nat.min_eq_left (by omega), List.append_assoc]
  have e : List.take n (List.drop o cs) ++ List.drop (o + n) cs = List.drop o cs := by
    rw [← List.drop_drop, List.take_append_drop]
  rw [e, List.take_append_drop]
theorem Post.noop {ρ : Rho} {G : Heap} {w : World} {v tr tr' : T} {v' : Value} {id t : Nat} (hid : hget G id = some tr) (hsim : Sim (bitK t) ρ G w) (ht : bitK t id) (hsz : tr'.size = tr.size) (hR : ∀ cs, (R ρ tr).c cs → (R ρ tr').c cs)
    (hv : (R ρ v).v v') (vc : Bool) : Post ρ ρ G w ⟨vc, v, hset G id (some tr'), t, 2 ^ id⟩ v' w where
  ext := Rho.Ext.refl ρ
  dom := fun _ _ => rfl
  val := hv
  sim := fun k t p hk hg hp => by
    rcases hk with hk | hk
    · have := za7 hg
      simp only [zb7] at this
      omega
    · have := tb_eq hk
      subst this
      rw [zc8 _ (za7 hid)] at hg
      cases hg
      obtain ⟨cs, ty, fr, h1, h2, h3, h4, h5⟩ := hsim.blk _ tr p ht hid hp
      exact ⟨cs, ty, fr, h1, h2, by rw [hsz]; exact h3, by rw [hsz]; exact hR _ h4, h5⟩
  vac := fun k t hk hg hp => by
    rcases hk with hk | hk
    · have := za7 hg
      simp only [zb7] at this
      omega
    · have := tb_eq hk
      subst this
      rw [zc8 _ (za7 hid)] at hg
      cases hg
      rw [hsz]
      exact hsim.vac _ tr ht hid hp
  new := fun k t p hk hg => by
    have := za7 hg
    simp only [zb7] at this
    omega
  inj := fun k k' t t' p p' hk _ hg => by
    have := za7 hg
    simp only [zb7] at this
    omega
  ro := fun _ _ h => .inl h
  dis := fun k t p hk hg hp => by
    rcases hk with hk | hk
    · have := za7 hg
      simp only [zb7] at this
      omega
    · have := tb_eq hk
      subst this
      exact hsim.dis _ tr p ht hid hp
  frame := fun _ _ _ => rfl
  size := Nat.le_refl _
  os := rfl
  tape := rfl
  output := rfl
theorem evCopy_sound {G : Heap} {t u : TypeId} {s x : T} {r : Res} {ρ : Rho} {s' x' : Value} {w : World} {ty : TypeId} (h : evCopy P G t s x = some r) (hvc : r.vc = true) (hs : (R ρ s).v s') (hx : (R ρ x).v x') (hsim : Sim (bitK r.t) ρ G w) :
    ∃ v' w', (Builtin.copy_ #[t, u] ty #[s', x']).run P w = .ok v' w' ∧ ∃ ρ', Post ρ ρ' G w r v' w' := by
  unfold evCopy at h
  split at h
  · cases h
  · rename_i e i z he
    obtain ⟨h1, h2, h3⟩ := zd7 he
    cases hs1 : Nat.beq i.size 1 with
    | false => rw [hs1] at h; cases h
    | true =>
      rw [hs1] at h
      have hs1 := Nat.eq_of_beq_eq_true hs1
      simp only [cond_true] at h
      split at h
      · cases h
      · rename_i vc k m g tm hc
        split at h
        · rename_i id path lo q n cap
          cases hq : Nat.beq q 1 with
          | false => rw [hq] at h; cases h
          | true =>
            rw [hq] at h
            have hq1 := Nat.eq_of_beq_eq_true hq
            subst hq1
            simp only [cond_true] at h
            split at h
            · rename_i tr hid
              split at h
              · rename_i k' n0 f hg
                cases hk : decide (k = k') with
                | false => rw [hk] at h; cases h
                | true =>
                  rw [hk] at h
                  simp only [decide_eq_true_eq] at hk
                  subst hk
                  cases h
                  simp only [Bool.and_eq_true, decide_eq_true_eq] at hvc
                  obtain ⟨hv1, hv2, hv3⟩ := hvc
                  have hh := zh4 (P := P) hc hv1 hx (fun i h => by rw [Nat.testBit_or, h]; rfl) hsim
                  have hmin1 : Nat.min m n ≤ m := Nat.min_le_left _ _
                  have hmin2 : Nat.min m n ≤ n := Nat.min_le_right _ _
                  rcases Nat.eq_zero_or_pos (Nat.min m n) with hq2 | hq2
                  · obtain ⟨a, c0, rfl⟩ := sliceLen_R (s := .slice id path lo 1 n cap) rfl hs
                    have hpf : putF lo (Nat.min m n) f g = f := by
                      funext j
                      rw [hq2]
                      unfold putF
                      cases h1 : Nat.ble lo j with
                      | false => rfl
                      | true =>
                        have h2 := Nat.le_of_ble_eq_true h1
                        have h3 : Nat.blt j (lo + 0) = false := by
                          cases h4 : Nat.blt j (lo + 0) with
                          | false => rfl
                          | true =>
                            have h5 : j + 1 ≤ lo + 0 := Nat.le_of_ble_eq_true h4
                            omega
                        rw [h3]; rfl
                    refine ⟨_, _, copy_zero he hs1 hh.1 hq2 (first_zero hc hx), ρ, ?_⟩
                    rw [hpf]
                    refine Post.noop hid hsim (by rw [bitK, Nat.testBit_or]; simp [Nat.testBit_two_pow]) (put_size hg rfl) (fun cs hcs => ?_) (by rw [hq2]; rfl) _
                    obtain ⟨g1, g2⟩ := zi3 hcs hg hv2
                    have := put_sound hcs hg hv2 g1 (zg7 (by omega))
                    rwa [splice_self (by omega)] at this
                  have hless := contI_less (P := P) hc hv1 hx (fun i h => by rw [Nat.testBit_or, h]; rfl) hsim hmin1 hq2
                  rcases hs with ⟨b, sz, hrb, hsl⟩ | ⟨_, _, h0, _⟩
                  rotate_left
                  · omega
                  have hsv : ∃ c', s' = .slice (some ⟨b, poff path + lo, none⟩) n c' := by
                    cases cap with
                    | some c' =>
                      simp only [zc7, Nat.mul_one] at hsl
                      exact ⟨c', hsl⟩
                    | none =>
                      obtain ⟨rfl, _, (⟨c', rfl, _, _⟩ | ⟨h0, a, rfl, ha⟩)⟩ := hsl
                      · exact ⟨c', by simp [poff]⟩
                      · omega
                  obtain ⟨c', rfl⟩ := hsv
                  obtain ⟨cs, ty0, fr, g1, g2, g3, g4, g5, g5'⟩ := hsim.blk id tr _ (by rw [bitK, Nat.testBit_or]; simp [Nat.testBit_two_pow]) hid hrb
                  obtain ⟨h6, h7⟩ := zi3 g4 hg hv2
                  have hT : T.size (.ints k n0 f) = n0 := rfl
                  rw [hT] at h6 h7
                  simp only [List.length_take, Array.length_toList] at h7
                  have hul : (zb2 k (Nat.min m n) g).length = Nat.min m n := za5 _ _ _
                  have hcl : (cut (cs.toList.take tr.size) (poff path) n0).length = n0 := zg7 (by simp only [List.length_take, Array.length_toList]; exact h7)
                  have hus := putF_R (c := Nat.min m n) (lo := lo) h6 hul (fun j hj => ze2 _ _ _ hj) (by omega)
                  have husl : (zc1 (cut (cs.toList.take tr.size) (poff path) n0) lo (zb2 k (Nat.min m n) g)).length = n0 := by rw [zd4 (by omega), hcl]
                  have hput := put_sound (u' := .ints k n0 (putF lo (Nat.min m n) f g)) g4 hg hv2 hus (by rw [husl]; rfl)
                  rw [splice_cut (by simp only [List.length_take, Array.length_toList]; exact h7) (by omega)] at hput
                  have hpsz : (put tr path (.ints k n0 (putF lo (Nat.min m n) f g))).size = tr.size := put_size hg rfl
                  have hcell : ∀ x ∈ zb2 k (Nat.min m n) g, ze8 x := zt2 (zn2 (ρ := ρ) k (Nat.min m n) g)
                  have hst := ze3 (P := P) g1 g5 (off := poff path + lo) (us := zb2 k (Nat.min m n) g) (by omega) hcell
                  obtain ⟨a1, a2, a3, a4, a5, a6⟩ := zi2 b (zb2 k (Nat.min m n) g) (poff path + lo) w cs ty0 fr g1 (by omega)
                  have hblk : Blk ρ (put tr path (.ints k n0 (putF lo (Nat.min m n) f g))) (b, sz) (w.setCells b (poff path + lo) (zb2 k (Nat.min m n) g)) := by
                    refine ⟨_, ty0, fr, a1, ?_, ?_, ?_, ?_, g5'⟩
                    · rw [List.size_toArray, zd4 (by simp only [Array.length_toList]; omega)]; simpa using g2
                    · rw [List.size_toArray, zd4 (by simp only [Array.length_toList]; omega), hpsz]; simpa using g3
                    · rw [hpsz]
                      change (R ρ _).c (List.take tr.size (zc1 cs.toList (poff path + lo) (zb2 k (Nat.min m n) g)))
                      have : List.take tr.size (zc1 cs.toList (poff path + lo) (zb2 k (Nat.min m n) g)) = zc1 (List.take tr.size cs.toList) (poff path + lo) (zb2 k (Nat.min m n) g) := by
                        simp only [zc1]
                        rw [List.take_append, List.take_append, List.take_take, List.take_take, List.take_of_length_le (l := zb2 k (Nat.min m n) g) (by simp; omega)]
                        congr 2
                        · congr 1; omega
                        · rw [List.drop_take]; congr 1; simp; omega
                      rw [this]; exact hput
                    · intro i hi
                      rw [List.size_toArray, zd4 (by simp only [Array.length_toList]; omega)] at hi
                      exact g5 i (by simpa using hi)
                  refine ⟨goInt (Nat.min m n), w.setCells b (poff path + lo) (zb2 k (Nat.min m n) g), ?_, ρ, ?_⟩
                  · simp [Builtin.copy_, run_underlying h1, sizeOf, typeInfo, h2, hs1, hh.1, hless, hst]
                  · exact {
                      ext := Rho.Ext.refl ρ
                      dom := fun _ _ => rfl
                      val := rfl
                      sim := fun k' t' p' hk' hg' hp' => by
                        rcases hk' with hk' | hk'
                        · have := za7 hg'
                          simp only [zb7] at this
                          omega
                        · have := tb_eq hk'
                          subst this
                          rw [zc8 _ (za7 hid)] at hg'
                          cases hg'
                          rw [hrb] at hp'
                          cases hp'
                          exact hblk
                      vac := fun k' t' hk' hg' hp' => by
                        rcases hk' with hk' | hk'
                        · have := za7 hg'
                          simp only [zb7] at this
                          omega
                        · have := tb_eq hk'
                          subst this
                          rw [hrb] at hp'
                          cases hp'
                      new := fun k' t' p hk' hg' => by
                        have := za7 hg'
                        simp only [zb7] at this
                        omega
                      inj := fun k' k'' t' t'' p p' hk' _ hg' => by
                        have := za7 hg'
                        simp only [zb7] at this
                        omega
                      ro := fun _ _ h => .inl h
                      dis := fun k' t' p hk' hg' hp' => by
                        rcases hk' with hk' | hk'
                        · have := za7 hg'
                          simp only [zb7] at this
                          omega
                        · have := tb_eq hk'
                          subst this
                          exact hsim.dis _ tr p (by rw [bitK, Nat.testBit_or]; simp [Nat.testBit_two_pow]) hid hp'
                      frame := fun b' _ hne => a2 b' (fun e => hne id _ (za7 hid) (zf6 id) hrb e.symm)
                      size := by rw [a3]; exact Nat.le_refl _
                      os := a4
                      tape := a5
                      output := a6 }
              · cases h
            · cases h
        · cases h
def evCopy0 (P : Program) (G : Heap) (t : TypeId) (s x : T) : Option Res :=
  match elemO P t, sliceLen s with
  | some (_, i, _), some n => bif Nat.beq i.size 1 then (bif zr8 x then some ⟨true, .int .i64 0, G, 0, 0⟩ else match contI G x with
    | some (vc, _, m, _, tm) => bif Nat.beq (Nat.min m n) 0 then some ⟨vc, .int .i64 0, G, tm, 0⟩ else none
    | none => none) else none
  | _, _ => none
theorem evCopy0_sound {G : Heap} {t u : TypeId} {s x : T} {r : Res} {ρ : Rho} {s' x' : Value} {w : World} {ty : TypeId} (h : evCopy0 P G t s x = some r) (hvc : r.vc = true) (hs : (R ρ s).v s') (hx : (R ρ x).v x') (hsim : Sim (bitK r.t) ρ G w) :
    ∃ v' w', (Builtin.copy_ #[t, u] ty #[s', x']).run P w = .ok v' w' ∧ ∃ ρ', Post ρ ρ' G w r v' w' := by
  unfold evCopy0 at h
  split at h
  · rename_i e i z n he hn
    cases hs1 : Nat.beq i.size 1 with
    | false => rw [hs1] at h; cases h
    | true =>
      rw [hs1] at h
      have hs1 := Nat.eq_of_beq_eq_true hs1
      obtain ⟨a, c, rfl⟩ := sliceLen_R hn hs
      simp only [cond_true] at h
      have hv : (R ρ (.int .i64 0)).v (goInt 0) := rfl
      cases hx0 : zr8 x with
      | true =>
        rw [hx0] at h
        cases h
        have hxn : x' = .slice none 0 0 := by
          cases x <;> simp [zr8] at hx0
          exact hx
        subst hxn
        exact ⟨_, _, copy_zero he hs1 (m := 0) rfl (Nat.zero_min _) (by simp [Builtin.firstCells]), ρ, Post.pure hv 0⟩
      | false =>
        rw [hx0] at h
        simp only [cond_false] at h
        split at h
        · rename_i vc k m f tm hc
          cases hm : Nat.beq (Nat.min m n) 0 with
          | false => rw [hm] at h; cases h
          | true =>
            rw [hm] at h
            cases h
            have hh := zh4 (P := P) hc hvc hx (fun _ h => h) hsim
            exact ⟨_, _, copy_zero he hs1 hh.1 (Nat.eq_of_beq_eq_true hm) (first_zero hc hx), ρ, Post.anyVc (Post.pure (vc := true) hv 0)⟩
        · cases h
  · cases h
theorem evCopy0_stat {G : Heap} {t : TypeId} {s x : T} {r : Res} (h : evCopy0 P G t s x = some r) : Stat G r := by
  unfold evCopy0 at h
  split at h
  · rename_i e i z n _ _
    cases hs1 : Nat.beq i.size 1 <;> rw [hs1] at h
    · cases h
    · simp only [cond_true] at h
      cases hx0 : zr8 x <;> rw [hx0] at h
      · simp only [cond_false] at h
        split at h
        · rename_i vc k m f tm _
          cases hm : Nat.beq (Nat.min m n) 0 <;> rw [hm] at h <;> cases h
          exact Stat.pure _ _ _ _
        · cases h
      · cases h
        exact Stat.pure _ _ _ _
  · cases h
def evCopy2 (P : Program) (G : Heap) (t : TypeId) (s x : T) : Option Res :=
  match evCopy P G t s x with
  | some r => some r
  | none => evCopy0 P G t s x
theorem evCopy2_sound {G : Heap} {t u : TypeId} {s x : T} {r : Res} {ρ : Rho} {s' x' : Value} {w : World} {ty : TypeId} (h : evCopy2 P G t s x = some r) (hvc : r.vc = true) (hs : (R ρ s).v s') (hx : (R ρ x).v x') (hsim : Sim (bitK r.t) ρ G w) :
    ∃ v' w', (Builtin.copy_ #[t, u] ty #[s', x']).run P w = .ok v' w' ∧ ∃ ρ', Post ρ ρ' G w r v' w' := by
  unfold evCopy2 at h
  split at h
  · rename_i h1
    cases h
    exact evCopy_sound h1 hvc hs hx hsim
  · exact evCopy0_sound h hvc hs hx hsim
theorem evCopy2_stat {G : Heap} {t : TypeId} {s x : T} {r : Res} (h : evCopy2 P G t s x = some r) : Stat G r := by
  unfold evCopy2 at h
  split at h
  · rename_i h1
    cases h
    exact evCopy_stat h1
  · exact evCopy0_stat h
end
end Go.AE
