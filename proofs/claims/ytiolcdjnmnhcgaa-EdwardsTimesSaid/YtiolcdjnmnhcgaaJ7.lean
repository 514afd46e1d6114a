/- fardelref01: Of, Load, Bytes, Add, Sub, Mul by their models. No condition. -/
import Derived.Test.YtiolcdjnmnhcgaaJ6
namespace Go.Proofs.Ytiolcdjnmnhcgaa
open Go.AE Fardel
set_option maxRecDepth 100000

/-- A number that is told: its sixteen digits, or itself. -/
noncomputable def vF (f : Nat → Int) : F := hid (fun (f : Nat → Int) => toF (vD f : Nat)) f
theorem vF_eq (f : Nat → Int) : vF f = toF (vD f : Nat) := by unfold vF; rw [hid_eq]
theorem vF_dg (v : F) : vF (dg v) = v := by rw [vF_eq, vD_dg, toF_nat]
noncomputable def asN : T → Option (Bool × F)
  | .ints .u64 16 f => some (digB f, vF f)
  | .abs (.nn v) => some (true, v)
  | _ => none
theorem asN_v {t : T} {c : Bool} {u : F} {ρ ρ' : Rho} {x : Value} (h : asN t = some (c, u)) (hc : c = true) (hx : (R ρ t).v x) : ∃ f, digs 65536 16 f ∧ vF f = u ∧ (R ρ' (D16 f)).v x := by
  unfold asN at h
  split at h
  · rename_i f
    cases h
    exact ⟨f, digB_spec.1 hc, rfl, (noPtr_R (t := .ints .u64 16 f) rfl ρ ρ').2.1 _ hx⟩
  · cases h
    exact ⟨dg _, dg_digs _, vF_dg _, hx⟩
  · cases h

theorem updN_ge {f : Nat → Int} : ∀ {n i : Nat}, n ≤ i → updN n f i = 0
  | 0, _, _ => rfl
  | n + 1, i, h => by
    show (bif Nat.beq i n then f n else updN n f i) = 0
    rw [beq_ne (by omega), cond_false]
    exact updN_ge (by omega)

theorem natB_up {f : Nat → Int} (h : ∀ j, 16 ≤ j → j < 32 → f j = 0) : natB 65536 f 32 = natB 65536 f 16 := by
  have := natB_add 65536 f 16 16
  rw [natB_zero 65536 16 (fun i hi => h (16 + i) (by omega) (by omega))] at this
  simpa using this

theorem W256_sq : (65536 : Nat) ^ 32 = W256 * W256 := by unfold W256; rw [← Nat.pow_add]

/-! ### Add -/

theorem ad_one {a b : Int} (ha : 0 ≤ a ∧ a < 65536) (hb : 0 ≤ b ∧ b < 65536) : IntKind.u64.wrap (a + b) = a + b := by
  simp only [IntKind.wrap_u64]; omega

theorem ad_val {f g : Nat → Int} (hf : digs 65536 16 f) (hg : digs 65536 16 g) : foldB (adL f g) = true ∧ foldF (adL f g) = vF f + vF g := by
  have hl : ∀ j, j < 16 → adL f g j = f j + (1 : Nat) * g j := fun j hj => by
    unfold adL
    rw [updN_eq hj, ad_one (hf j hj) (hg j hj)]
    omega
  have hh : ∀ j, 16 ≤ j → j < 32 → adL f g j = 0 := fun j hj _ => updN_ge hj
  have hv : natB 65536 (adL f g) 32 = vD f + vD g := by
    rw [natB_up hh, natB_congr 16 hl, natB_lin 65536 1 16 (fun i hi => ⟨(hf i hi).1, (hg i hi).1⟩), Nat.one_mul]
    rfl
  refine ⟨foldB_iff.2 ⟨fun i hi => ?_, ?_⟩, ?_⟩
  · rcases Nat.lt_or_ge i 16 with h | h
    · rw [hl i h]
      have := hf i h
      have := hg i h
      omega
    · rw [hh i h hi]; omega
  · rw [hv, W256_sq]
    have h1 : vD f < W256 := natB_lt 16 hf
    have h2 : vD g < W256 := natB_lt 16 hg
    have h3 : 2 * W256 ≤ W256 * W256 := Nat.mul_le_mul_right _ (by decide)
    omega
  · rw [foldF_eq, hv, vF_eq, vF_eq, ← toF_add]
    congr 1

noncomputable def n2M (op : F → F → F) : PModel
  | [a, b] => match asN a, asN b with
    | some (c, u), some (c', v) => some (c && c', nnA (op u v))
    | _, _ => none
  | _ => none

theorem n2M_ok {f : FuncId} {op : F → F → F} (h : ∀ a b : Nat → Int, digs 65536 16 a → digs 65536 16 b → ∃ M, SoundM Try.prog f M ∧ ∃ r, M [D16 a, D16 b] [] = some r ∧ r.vc = true ∧ r.v = nnA (op (vF a) (vF b))) : SoundM Try.prog f (pureModel (n2M op)) := by
  refine SoundM.refineX ?_
  intro args vc v hm hvc ρ xs hargs
  unfold n2M at hm
  split at hm
  · split at hm
    · rename_i c u c' v' h1 h2
      cases hm
      simp only [Bool.and_eq_true] at hvc
      obtain ⟨x, _, rfl, hx, y, _, rfl, hy, rfl⟩ := hargs
      obtain ⟨a, da, rfl, hx'⟩ := asN_v (ρ' := fun _ => none) h1 hvc.1 hx
      obtain ⟨b, db, rfl, hy'⟩ := asN_v (ρ' := fun _ => none) h2 hvc.2 hy
      obtain ⟨M, hM, r, k1, k2, k3⟩ := h a b da db
      refine ⟨M, hM, [D16 a, D16 b], ⟨_, _, rfl, hx', _, _, rfl, hy', rfl⟩, r, k1, k2, fun ρ' w hw => ?_⟩
      rw [k3] at hw
      exact (noPtr_R (t := nnA _) rfl ρ' ρ).2.1 _ hw
    · cases hm
  · cases hm

theorem nAdd_ok : SoundM Try.prog 53 (pureModel (n2M fadd)) := n2M_ok fun a b da db => by
  obtain ⟨h1, h2⟩ := ad_val da db
  obtain ⟨r, h3, h4, h5⟩ := mv_some (add1_mv a b)
  exact ⟨_, SoundM.of_ev envR1_ok mix (n := 1000000) (fn := Try.f53) (by kernel_rfl) (by kernel_rfl) (by kernel_rfl), r, h3, by rw [h4, h1]; rfl, by rw [h5, h2, fadd_eq]⟩

/-! ### Mul -/

theorem natB_inc {l : Nat → Int} {p : Nat} {x : Nat} (hl : 0 ≤ l p) : ∀ n, p < n → natB 65536 (upd l p (l p + x)) n = natB 65536 l n + 65536 ^ p * x
  | 0, h => by omega
  | n + 1, h => by
    unfold natB
    by_cases hp : p = n
    · subst hp
      rw [natB_upd p (Nat.le_refl _), upd_same]
      have e : (l p + (x : Int)).toNat = (l p).toNat + x := by omega
      rw [e, Nat.mul_add]
      omega
    · rw [natB_inc hl n (by omega), upd_ne (by omega)]
      omega

theorem mu_one {l a b : Int} (hl : 0 ≤ l ∧ l ≤ 68717379600) (ha : 0 ≤ a ∧ a < 65536) (hb : 0 ≤ b ∧ b < 65536) :
    ∃ x : Nat, (x : Int) = a * b ∧ (x : Int) ≤ 4294836225 ∧ x = a.toNat * b.toNat ∧ IntKind.u64.wrap (l + IntKind.u64.wrap (a * b)) = l + (x : Int) := by
  obtain ⟨a', rfl⟩ := Int.eq_ofNat_of_zero_le ha.1
  obtain ⟨b', rfl⟩ := Int.eq_ofNat_of_zero_le hb.1
  have h : a' * b' ≤ 65535 * 65535 := Nat.mul_le_mul (by omega) (by omega)
  refine ⟨a' * b', by simp, by omega, by simp, ?_⟩
  rw [show ((a' : Int) * (b' : Int)) = ((a' * b' : Nat) : Int) by simp]
  simp only [IntKind.wrap_u64]
  omega

theorem muR_inv {f g l : Nat → Int} (hf : digs 65536 16 f) (hg : digs 65536 16 g) {i : Nat} (hi : i < 16) (hl : ∀ j, 0 ≤ l j ∧ l j ≤ (i : Int) * 4294836225) : ∀ k, k ≤ 16 →
    (∀ j, 0 ≤ muR f g l i k j ∧ muR f g l i k j ≤ (if i + k ≤ j then (i : Int) else (i : Int) + 1) * 4294836225) ∧ natB 65536 (muR f g l i k) 32 = natB 65536 l 32 + 65536 ^ i * ((f i).toNat * natB 65536 g k)
  | 0, _ => ⟨fun j => ⟨(hl j).1, by
      have := (hl j).2
      show l j ≤ _
      split <;> omega⟩, by show natB 65536 l 32 = _; simp [natB]⟩
  | k + 1, h => by
    obtain ⟨h1, h2⟩ := muR_inv hf hg hi hl k (by omega)
    have hik := h1 (i + k)
    rw [if_pos (by omega)] at hik
    obtain ⟨x, hx1, hx2, hx3, hx4⟩ := mu_one (l := muR f g l i k (i + k)) (a := f i) (b := g k) (by omega) (hf i hi) (hg k (by omega))
    have e : muR f g l i (k + 1) = upd (muR f g l i k) (i + k) (muR f g l i k (i + k) + (x : Int)) := by
      show upd _ _ _ = _
      rw [hx4]
    rw [e]
    refine ⟨fun j => ?_, ?_⟩
    · by_cases hj : j = i + k
      · subst hj
        rw [upd_same, if_neg (by omega)]
        omega
      · rw [upd_ne hj]
        have := h1 j
        split at this
        · rw [if_pos (by omega)]; exact this
        · rw [if_neg (by omega)]; exact this
    · rw [natB_inc hik.1 32 (by omega), h2]
      show _ = _ + 65536 ^ i * ((f i).toNat * (natB 65536 g k + 65536 ^ k * (g k).toNat))
      rw [hx3, Nat.pow_add, Nat.mul_add, Nat.mul_add]
      have : 65536 ^ i * 65536 ^ k * ((f i).toNat * (g k).toNat) = 65536 ^ i * ((f i).toNat * (65536 ^ k * (g k).toNat)) := by
        rw [Nat.mul_assoc, Nat.mul_left_comm (65536 ^ k)]
      omega

theorem muL_inv {f g : Nat → Int} (hf : digs 65536 16 f) (hg : digs 65536 16 g) : ∀ i, i ≤ 16 → (∀ j, 0 ≤ muL f g i j ∧ muL f g i j ≤ (i : Int) * 4294836225) ∧ natB 65536 (muL f g i) 32 = natB 65536 f i * vD g
  | 0, _ => ⟨fun j => ⟨by show (0 : Int) ≤ 0; decide, by show (0 : Int) ≤ _; decide⟩, by
      rw [show muL f g 0 = fun _ => 0 from rfl, natB_zero 65536 32 (fun _ _ => rfl)]; simp [natB]⟩
  | i + 1, h => by
    obtain ⟨h1, h2⟩ := muL_inv hf hg i (by omega)
    obtain ⟨k1, k2⟩ := muR_inv hf hg (i := i) (by omega) h1 16 (Nat.le_refl _)
    refine ⟨fun j => ?_, ?_⟩
    · have := k1 j
      have e : muL f g (i + 1) j = muR f g (muL f g i) i 16 j := rfl
      rw [e]
      split at this <;> omega
    · show natB 65536 (muR f g (muL f g i) i 16) 32 = (natB 65536 f i + 65536 ^ i * (f i).toNat) * vD g
      rw [k2, h2, Nat.add_mul, Nat.mul_assoc]
      rfl

theorem mu_val {f g : Nat → Int} (hf : digs 65536 16 f) (hg : digs 65536 16 g) : foldB (muL f g 16) = true ∧ foldF (muL f g 16) = vF f * vF g := by
  obtain ⟨h1, h2⟩ := muL_inv hf hg 16 (Nat.le_refl _)
  refine ⟨foldB_iff.2 ⟨fun i hi => ?_, ?_⟩, ?_⟩
  · have := h1 i
    omega
  · rw [h2, W256_sq]
    have a : natB 65536 f 16 < W256 := natB_lt 16 hf
    have b : vD g < W256 := natB_lt 16 hg
    exact Nat.lt_of_le_of_lt (Nat.mul_le_mul (Nat.le_of_lt a) (Nat.le_refl _)) (Nat.mul_lt_mul_of_pos_left b (by decide))
  · rw [foldF_eq, h2, vF_eq, vF_eq, ← toF_mul]
    congr 1

theorem nMul_ok : SoundM Try.prog 50 (pureModel (n2M fmul)) := n2M_ok fun a b da db => by
  obtain ⟨h1, h2⟩ := mu_val da db
  refine ⟨pureModel (fun args => open Classical in if args = [D16 a, D16 b] then some (true, nnA (foldF (muL a b 16))) else none), ?_, ⟨true, nnA (foldF (muL a b 16)), [], 0, 0⟩, by simp [pureModel], rfl, by rw [h2, fmul_eq]⟩
  refine SoundM.of_tr0 (fn := Try.f50) (c := muC) (by kernel_rfl) (by kernel_rfl) (by kernel_rfl) ?_
  intro args vc v hm hvc
  split at hm
  · rename_i e
    cases hm
    subst e
    exact ⟨rfl, rfl, .ret, _, [nnA (foldF (muL a b 16))], 4, .inl rfl, mu_tr a b h1, by kernel_rfl, rfl⟩
  · cases hm

/-! ### Of, Load, Bytes -/

noncomputable def nof (n : Int) : F := hid (fun (n : Int) => toF n) n
theorem nof_eq (n : Int) : nof n = toF n := by unfold nof; rw [hid_eq]
noncomputable def OfM : PModel
  | [.int .u64 n] => some (decide (0 ≤ n ∧ n < 4294967296), nnA (nof n))
  | _ => none

theorem of_val {n : Int} (h : 0 ≤ n ∧ n < 4294967296) : foldB (ofL n) = true ∧ foldF (ofL n) = toF n := by
  have h0 : ofL n 0 = n % 65536 := by
    unfold ofL
    rw [upd_ne (by decide), upd_same, Int.tmod_eq_emod_of_nonneg h.1]
  have h1 : ofL n 1 = n / 65536 := by
    unfold ofL
    rw [upd_same, Int.tdiv_eq_ediv_of_nonneg h.1]
    have : IntKind.u64.wrap (n / 65536) = n / 65536 := by simp only [IntKind.wrap_u64]; omega
    rw [this, Int.tmod_eq_emod_of_nonneg (by omega)]
    omega
  have h2 : ∀ j, 2 ≤ j → ofL n j = 0 := fun j hj => by
    unfold ofL
    rw [upd_ne (by omega), upd_ne (by omega)]
  have hv : natB 65536 (ofL n) 32 = n.toNat := by
    have := natB_add 65536 (ofL n) 2 30
    rw [natB_zero 65536 30 (fun i _ => h2 (2 + i) (by omega))] at this
    rw [this]
    show 0 + 65536 ^ 0 * (ofL n 0).toNat + 65536 ^ 1 * (ofL n 1).toNat + _ = _
    rw [h0, h1]
    omega
  refine ⟨foldB_iff.2 ⟨fun i hi => ?_, ?_⟩, ?_⟩
  · rcases Nat.lt_or_ge i 2 with h3 | h3
    · have : i = 0 ∨ i = 1 := by omega
      rcases this with rfl | rfl
      · rw [h0]; omega
      · rw [h1]; omega
    · rw [h2 i h3]; omega
  · rw [hv]
    have : n.toNat < 4294967296 := by omega
    exact Nat.lt_trans this (by decide)
  · rw [foldF_eq, hv]
    congr 1
    omega

theorem Of_ok : SoundM Try.prog 52 (pureModel OfM) := by
  refine (SoundM.of_ev envR1_ok mix (n := 1000000) (fn := Try.f52) (by kernel_rfl) (by kernel_rfl) (by kernel_rfl)).pure ?_
  intro args vc v h hvc
  unfold OfM at h
  split at h
  · cases h
    rw [decide_eq_true_eq] at hvc
    obtain ⟨h1, h2⟩ := of_val hvc
    obtain ⟨r, h3, h4, h5⟩ := mv_some (of_mv _)
    exact ⟨rfl, rfl, r, h3, by rw [h4, h1]; rfl, by rw [h5, h2, nof_eq]⟩
  · cases h

theorem natB_pair (b : Nat → Int) (h : ∀ i, 0 ≤ b i) : ∀ n, natB 65536 (fun i => b (2 * i) + 256 * b (2 * i + 1)) n = natB 256 b (2 * n)
  | 0 => rfl
  | n + 1 => by
    rw [show 2 * (n + 1) = 2 * n + 1 + 1 by omega]
    show natB 65536 _ n + 65536 ^ n * (b (2 * n) + 256 * b (2 * n + 1)).toNat = natB 256 b (2 * n) + 256 ^ (2 * n) * (b (2 * n)).toNat + 256 ^ (2 * n + 1) * (b (2 * n + 1)).toNat
    rw [natB_pair b h n, Nat.pow_succ 256 (2 * n), Nat.pow_mul, show (256 : Nat) ^ 2 = 65536 from rfl]
    have e : (b (2 * n) + 256 * b (2 * n + 1)).toNat = (b (2 * n)).toNat + 256 * (b (2 * n + 1)).toNat := by
      have := h (2 * n)
      have := h (2 * n + 1)
      omega
    rw [e, Nat.mul_add, Nat.mul_assoc]
    omega

noncomputable def nLoadM : PModel
  | [.ints .u8 32 f] => some (bytesB 32 f, nnA (toF (num32 f)))
  | _ => none

theorem load_val {b : Nat → Int} (h : ∀ i, 0 ≤ b i ∧ b i < 256) : foldB (loL b) = true ∧ foldF (loL b) = toF (num32 b) := by
  have hl : ∀ j, j < 16 → loL b j = b (2 * j) + 256 * b (2 * j + 1) := fun j hj => by
    unfold loL
    rw [updN_eq hj]
    have h1 := h (2 * j)
    have h2 := h (2 * j + 1)
    simp only [IntKind.wrap_u64]
    omega
  have hh : ∀ j, 16 ≤ j → j < 32 → loL b j = 0 := fun j hj _ => updN_ge hj
  have hv : natB 65536 (loL b) 32 = natN b 32 := by
    rw [natB_up hh, natB_congr 16 hl, natB_pair b (fun i => (h i).1), natN_natB]
  have hd : digs 65536 16 (loL b) := fun i hi => by
    rw [hl i hi]
    have h1 := h (2 * i)
    have h2 := h (2 * i + 1)
    omega
  refine ⟨foldB_iff.2 ⟨fun i hi => ?_, ?_⟩, ?_⟩
  · rcases Nat.lt_or_ge i 16 with h3 | h3
    · have := hd i h3
      omega
    · rw [hh i h3 hi]; omega
  · rw [natB_up hh, W256_sq]
    exact Nat.lt_of_lt_of_le (natB_lt 16 hd) (Nat.le_mul_of_pos_left _ (by decide))
  · rw [foldF_eq, hv, num32_nat (fun i _ => h i)]

theorem nLoad_ok : SoundM Try.prog 48 (pureModel nLoadM) := by
  refine (SoundM.of_ev envR1_ok mix (n := 1000000) (fn := Try.f48) (by kernel_rfl) (by kernel_rfl) (by kernel_rfl)).refine ?_
  intro args vc v hm hvc ρ xs hargs
  unfold nLoadM at hm
  split at hm
  · rename_i f
    cases hm
    obtain ⟨x, _, rfl, hx, rfl⟩ := hargs
    have hb := bytesB_spec hvc
    have hc : ∀ i, 0 ≤ clip 32 f i ∧ clip 32 f i < 256 := fun i => by
      unfold clip
      split
      · exact hb i (by assumption)
      · exact ⟨by decide, by decide⟩
    obtain ⟨h1, h2⟩ := load_val hc
    obtain ⟨r, h3, h4, h5⟩ := mv_some (load1_mv (clip 32 f))
    refine ⟨[.ints .u8 32 (clip 32 f)], ⟨x, _, rfl, ints_congr (fun i hi => by simp [clip, hi]) hx, rfl⟩, r, h3, by rw [h4, h1]; rfl, fun ρ' w hw => ?_⟩
    rw [h5, h2, num32_clip] at hw
    exact (noPtr_R (t := nnA _) rfl ρ' ρ).2.1 _ hw
  · cases hm

noncomputable def nBytesM : PModel
  | [.abs (.nn v)] => some (true, .ints .u8 32 (bytesF v))
  | _ => none

theorem byL_eq (f : Nat → Int) : ∀ i j, j < 2 * i → byL f i j = bif Nat.beq (j % 2) 0 then IntKind.u8.wrap (f (j / 2)) else IntKind.u8.wrap (shrI .u64 (f (j / 2)) 8)
  | 0, _, h => by omega
  | i + 1, j, h => by
    show upd (upd (byL f i) (2 * i) _) (2 * i + 1) _ j = _
    by_cases h1 : j = 2 * i + 1
    · subst h1
      rw [upd_same, show (2 * i + 1) % 2 = 1 by omega, show (2 * i + 1) / 2 = i by omega]
      rfl
    · rw [upd_ne h1]
      by_cases h2 : j = 2 * i
      · subst h2
        rw [upd_same, show (2 * i) % 2 = 0 by omega, show (2 * i) / 2 = i by omega]
        rfl
      · rw [upd_ne h2]
        exact byL_eq f i j (by omega)

theorem byL_dg (v : F) (j : Nat) (hj : j < 32) : byL (dg v) 16 j = bytesF v j := by
  rw [byL_eq _ 16 j (by omega)]
  have hw : ∀ n : Nat, IntKind.u8.wrap (n : Int) = ((n % 256 : Nat) : Int) := fun n => by simp [IntKind.wrap, IntKind.bits, IntKind.signed]
  rw [dg_dgB]
  unfold dgB bytesF
  have e : (65536 : Nat) ^ (j / 2) = 256 ^ (2 * (j / 2)) := by rw [Nat.pow_mul]
  rw [e]
  rcases Nat.mod_two_eq_zero_or_one j with h | h <;> rw [h]
  · rw [show 2 * (j / 2) = j by omega]
    show IntKind.u8.wrap _ = _
    rw [hw]
    congr 1
    generalize v.val / 256 ^ j = m
    omega
  · show IntKind.u8.wrap (shrI .u64 _ ((8 : Nat) : Int)) = _
    rw [shrI_u64 _ 8 (by decide)]
    have e2 : v.val / 256 ^ j = v.val / 256 ^ (2 * (j / 2)) / 256 := by
      conv => lhs; rw [show j = 2 * (j / 2) + 1 by omega]
      rw [Nat.pow_succ, Nat.div_div_eq_div_mul]
    rw [e2]
    generalize v.val / 256 ^ (2 * (j / 2)) = m
    rw [show (((m % 65536 : Nat) : Int) / 2 ^ 8) = ((m % 65536 / 256 : Nat) : Int) by omega, hw]
    congr 1
    omega

theorem nBytes_ok : SoundM Try.prog 18 (pureModel nBytesM) := by
  refine (SoundM.of_ev (env0_ok _) mix (n := 40) (fn := Try.f18) (by kernel_rfl) (by kernel_rfl) (by kernel_rfl)).refine ?_
  intro args vc v hm hvc ρ xs hargs
  unfold nBytesM at hm
  split at hm
  · rename_i v
    cases hm
    obtain ⟨x, _, rfl, hx, rfl⟩ := hargs
    obtain ⟨r, h3, h4, h5⟩ := mv_some (bytes1_mv (dg v))
    refine ⟨[D16 (dg v)], ⟨x, _, rfl, hx, rfl⟩, r, h3, h4, fun ρ' w hw => ?_⟩
    rw [h5] at hw
    exact ints_congr (fun i hi => byL_dg v i hi) hw
  · cases hm

/-! ### Sub -/

noncomputable def envR2 : Env := ((envR1.set 53 (pureModel (n2M fadd))).set 50 (pureModel (n2M fmul))).set 52 (pureModel OfM)
theorem envR2_ok : EnvOK Try.prog envR2 := ((envR1_ok.set nAdd_ok).set nMul_ok).set Of_ok

noncomputable def nSubM : PModel
  | [a, .abs (.nn v)] => match asN a with
    | some (c, u) => some (c, nnA (fsub u v))
    | _ => none
  | _ => none

theorem sub1_mv (f : Nat → Int) (v : F) : mv (evFn Try.prog envR2 1000000 Try.f51) [D16 f, nnA v] = some ((leD pD (dg v) && (((digB f && digB (suD pD (dg v)))) && true)) && true, nnA (fadd (vF f) (vF (suD pD (dg v))))) := by kernel_rfl

theorem neg_su (v : F) : vF (suD pD (dg v)) = -v := by
  rw [vF_eq, suD_val pD_digs, pD_val, vD_dg]
  have hv := v.isLt
  apply Fin.ext
  rw [toF_val']
  rfl

theorem nSub_ok : SoundM Try.prog 51 (pureModel nSubM) := by
  refine (SoundM.of_ev envR2_ok mix (n := 1000000) (fn := Try.f51) (by kernel_rfl) (by kernel_rfl) (by kernel_rfl)).refine ?_
  intro args vc v hm hvc ρ xs hargs
  unfold nSubM at hm
  split at hm
  · rename_i a v
    split at hm
    · rename_i c u h1
      cases hm
      obtain ⟨x, _, rfl, hx, y, _, rfl, hy, rfl⟩ := hargs
      obtain ⟨f, df, rfl, hx'⟩ := asN_v (ρ' := fun _ => none) h1 hvc hx
      obtain ⟨r, h3, h4, h5⟩ := mv_some (sub1_mv f v)
      have hle : leD pD (dg v) = true := leD_iff.2 (by rw [pD_val, vD_dg]; exact Nat.le_of_lt v.isLt)
      refine ⟨[D16 f, nnA v], ⟨_, _, rfl, hx', _, _, rfl, (noPtr_R (t := nnA v) rfl ρ _).2.1 _ hy, rfl⟩, r, h3, ?_, fun ρ' w hw => ?_⟩
      · rw [h4, hle, digB_spec.2 df, digB_spec.2 (suD_digs _ _)]; rfl
      · rw [h5, neg_su, fadd_eq] at hw
        rw [fsub_eq]
        have e : vF f - v = vF f + -v := by grobner
        rw [e]
        exact (noPtr_R (t := nnA _) rfl ρ' ρ).2.1 _ hw
    · cases hm
  · cases hm

end Go.Proofs.Ytiolcdjnmnhcgaa
