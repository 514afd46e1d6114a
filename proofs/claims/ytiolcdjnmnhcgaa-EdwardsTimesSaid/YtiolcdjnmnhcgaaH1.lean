/- Bytes of points and back; numbers of bytes. No condition. -/
import Derived.Test.YtiolcdjnmnhcgaaG5
namespace Go.Proofs.Ytiolcdjnmnhcgaa
open Go.AE Fardel
set_option maxRecDepth 100000

/-! ### Numbers of bytes -/

def natN (f : Nat → Int) : Nat → Nat
  | 0 => 0
  | n + 1 => natN f n + 256 ^ n * (f n).toNat

theorem natN_lt {f : Nat → Int} : ∀ n, (∀ i, i < n → 0 ≤ f i ∧ f i < 256) → natN f n < 256 ^ n
  | 0, _ => by simp [natN]
  | n + 1, h => by
    have h1 := natN_lt n fun i hi => h i (by omega)
    have h2 := h n (by omega)
    have h3 : 256 ^ n * (f n).toNat ≤ 256 ^ n * 255 := Nat.mul_le_mul_left _ (by omega)
    unfold natN
    rw [Nat.pow_succ]
    omega

theorem natN_digit {f : Nat → Int} : ∀ n, (∀ i, i < n → 0 ≤ f i ∧ f i < 256) → ∀ i, i < n → natN f n / 256 ^ i % 256 = (f i).toNat
  | 0, _, _, hi => by omega
  | n + 1, h, i, hi => by
    have hlt := natN_lt n fun i hi => h i (by omega)
    unfold natN
    rcases Nat.lt_or_ge i n with h1 | h1
    · have ih := natN_digit n (fun i hi => h i (by omega)) i h1
      rw [← ih]
      have e : 256 ^ n = 256 ^ i * (256 * 256 ^ (n - i - 1)) := by
        rw [← Nat.pow_succ', ← Nat.pow_add]
        congr 1
        omega
      rw [e, Nat.mul_assoc, Nat.add_mul_div_left _ _ (Nat.pow_pos (by decide)), Nat.mul_assoc, Nat.add_mul_mod_self_left]
    · have : i = n := by omega
      subst this
      have := h i (by omega)
      rw [Nat.add_mul_div_left _ _ (Nat.pow_pos (by decide)), Nat.div_eq_of_lt hlt, Nat.zero_add, Nat.mod_eq_of_lt (by omega)]

theorem natN_congr {f g : Nat → Int} : ∀ n, (∀ i, i < n → f i = g i) → natN f n = natN g n
  | 0, _ => rfl
  | n + 1, h => by
    unfold natN
    rw [natN_congr n (fun i hi => h i (by omega)), h n (by omega)]

theorem num32_nat {f : Nat → Int} (h : ∀ i, i < 32 → 0 ≤ f i ∧ f i < 256) : num32 f = (natN f 32 : Nat) := by
  obtain ⟨a0, h0⟩ := Int.eq_ofNat_of_zero_le (h 0 (by decide)).1
  obtain ⟨a1, h1⟩ := Int.eq_ofNat_of_zero_le (h 1 (by decide)).1
  obtain ⟨a2, h2⟩ := Int.eq_ofNat_of_zero_le (h 2 (by decide)).1
  obtain ⟨a3, h3⟩ := Int.eq_ofNat_of_zero_le (h 3 (by decide)).1
  obtain ⟨a4, h4⟩ := Int.eq_ofNat_of_zero_le (h 4 (by decide)).1
  obtain ⟨a5, h5⟩ := Int.eq_ofNat_of_zero_le (h 5 (by decide)).1
  obtain ⟨a6, h6⟩ := Int.eq_ofNat_of_zero_le (h 6 (by decide)).1
  obtain ⟨a7, h7⟩ := Int.eq_ofNat_of_zero_le (h 7 (by decide)).1
  obtain ⟨a8, h8⟩ := Int.eq_ofNat_of_zero_le (h 8 (by decide)).1
  obtain ⟨a9, h9⟩ := Int.eq_ofNat_of_zero_le (h 9 (by decide)).1
  obtain ⟨a10, h10⟩ := Int.eq_ofNat_of_zero_le (h 10 (by decide)).1
  obtain ⟨a11, h11⟩ := Int.eq_ofNat_of_zero_le (h 11 (by decide)).1
  obtain ⟨a12, h12⟩ := Int.eq_ofNat_of_zero_le (h 12 (by decide)).1
  obtain ⟨a13, h13⟩ := Int.eq_ofNat_of_zero_le (h 13 (by decide)).1
  obtain ⟨a14, h14⟩ := Int.eq_ofNat_of_zero_le (h 14 (by decide)).1
  obtain ⟨a15, h15⟩ := Int.eq_ofNat_of_zero_le (h 15 (by decide)).1
  obtain ⟨a16, h16⟩ := Int.eq_ofNat_of_zero_le (h 16 (by decide)).1
  obtain ⟨a17, h17⟩ := Int.eq_ofNat_of_zero_le (h 17 (by decide)).1
  obtain ⟨a18, h18⟩ := Int.eq_ofNat_of_zero_le (h 18 (by decide)).1
  obtain ⟨a19, h19⟩ := Int.eq_ofNat_of_zero_le (h 19 (by decide)).1
  obtain ⟨a20, h20⟩ := Int.eq_ofNat_of_zero_le (h 20 (by decide)).1
  obtain ⟨a21, h21⟩ := Int.eq_ofNat_of_zero_le (h 21 (by decide)).1
  obtain ⟨a22, h22⟩ := Int.eq_ofNat_of_zero_le (h 22 (by decide)).1
  obtain ⟨a23, h23⟩ := Int.eq_ofNat_of_zero_le (h 23 (by decide)).1
  obtain ⟨a24, h24⟩ := Int.eq_ofNat_of_zero_le (h 24 (by decide)).1
  obtain ⟨a25, h25⟩ := Int.eq_ofNat_of_zero_le (h 25 (by decide)).1
  obtain ⟨a26, h26⟩ := Int.eq_ofNat_of_zero_le (h 26 (by decide)).1
  obtain ⟨a27, h27⟩ := Int.eq_ofNat_of_zero_le (h 27 (by decide)).1
  obtain ⟨a28, h28⟩ := Int.eq_ofNat_of_zero_le (h 28 (by decide)).1
  obtain ⟨a29, h29⟩ := Int.eq_ofNat_of_zero_le (h 29 (by decide)).1
  obtain ⟨a30, h30⟩ := Int.eq_ofNat_of_zero_le (h 30 (by decide)).1
  obtain ⟨a31, h31⟩ := Int.eq_ofNat_of_zero_le (h 31 (by decide)).1
  have e : natN f 32 = 0 + 1 * (f 0).toNat + 256 * (f 1).toNat + 65536 * (f 2).toNat + 16777216 * (f 3).toNat + 4294967296 * (f 4).toNat + 1099511627776 * (f 5).toNat + 281474976710656 * (f 6).toNat + 72057594037927936 * (f 7).toNat + 18446744073709551616 * (f 8).toNat + 4722366482869645213696 * (f 9).toNat + 1208925819614629174706176 * (f 10).toNat + 309485009821345068724781056 * (f 11).toNat + 79228162514264337593543950336 * (f 12).toNat + 20282409603651670423947251286016 * (f 13).toNat + 5192296858534827628530496329220096 * (f 14).toNat + 1329227995784915872903807060280344576 * (f 15).toNat + 340282366920938463463374607431768211456 * (f 16).toNat + 87112285931760246646623899502532662132736 * (f 17).toNat + 22300745198530623141535718272648361505980416 * (f 18).toNat + 5708990770823839524233143877797980545530986496 * (f 19).toNat + 1461501637330902918203684832716283019655932542976 * (f 20).toNat + 374144419156711147060143317175368453031918731001856 * (f 21).toNat + 95780971304118053647396689196894323976171195136475136 * (f 22).toNat + 24519928653854221733733552434404946937899825954937634816 * (f 23).toNat + 6277101735386680763835789423207666416102355444464034512896 * (f 24).toNat + 1606938044258990275541962092341162602522202993782792835301376 * (f 25).toNat + 411376139330301510538742295639337626245683966408394965837152256 * (f 26).toNat + 105312291668557186697918027683670432318895095400549111254310977536 * (f 27).toNat + 26959946667150639794667015087019630673637144422540572481103610249216 * (f 28).toNat + 6901746346790563787434755862277025452451108972170386555162524223799296 * (f 29).toNat + 1766847064778384329583297500742918515827483896875618958121606201292619776 * (f 30).toNat + 452312848583266388373324160190187140051835877600158453279131187530910662656 * (f 31).toNat := rfl
  rw [e]
  unfold num32 num8
  simp only [h0, h1, h2, h3, h4, h5, h6, h7, h8, h9, h10, h11, h12, h13, h14, h15, h16, h17, h18, h19, h20, h21, h22, h23, h24, h25, h26, h27, h28, h29, h30, h31, Int.toNat_natCast]
  clear h e
  omega

theorem byte_bit (N a b : Nat) (hb : b < 8) : N / 256 ^ a % 256 / 2 ^ b % 2 = N / 2 ^ (8 * a + b) % 2 := by
  have e : (256 : Nat) = 2 ^ b * 2 ^ (8 - b) := by rw [← Nat.pow_add]; rw [show b + (8 - b) = 8 by omega]
  have e2 : (2 : Nat) ∣ 2 ^ (8 - b) := ⟨2 ^ (7 - b), by rw [← Nat.pow_succ', show (7 - b).succ = 8 - b by omega]⟩
  have h1 : N / 256 ^ a % 256 / 2 ^ b = N / 256 ^ a / 2 ^ b % 2 ^ (8 - b) := by
    conv => lhs; rw [show N / 256 ^ a % 256 = N / 256 ^ a % (2 ^ b * 2 ^ (8 - b)) by rw [← e]]
    rw [Nat.mod_mul_right_div_self]
  rw [h1, Nat.mod_mod_of_dvd _ e2, Nat.div_div_eq_div_mul]
  rw [show (256 : Nat) = 2 ^ 8 from rfl, ← Nat.pow_mul, ← Nat.pow_add]

theorem hi_nat {f : Nat → Int} (h : ∀ i, i < 32 → 0 ≤ f i ∧ f i < 256) : ∀ i, i ≤ 256 → hi f i = natN f 32 / 2 ^ (256 - i)
  | 0, _ => by
    have hlt := natN_lt 32 h
    have e : (256 : Nat) ^ 32 = 2 ^ (256 - 0) := by rw [show (256 : Nat) = 2 ^ 8 from rfl, ← Nat.pow_mul]
    rw [e] at hlt
    rw [Nat.div_eq_of_lt hlt]
    rfl
  | i + 1, hi' => by
    have ih := hi_nat h i (by omega)
    unfold hi
    rw [ih]
    have hd := natN_digit 32 h ((255 - i) / 8) (by omega)
    have hb : (bitAt f (255 - i)).toNat = natN f 32 / 2 ^ (255 - i) % 2 := by
      unfold bitAt
      rw [← hd, byte_bit _ _ _ (Nat.mod_lt _ (by decide)), Nat.div_add_mod]
      rcases Nat.mod_two_eq_zero_or_one (natN f 32 / 2 ^ (255 - i)) with e | e <;> rw [e] <;> rfl
    rw [hb]
    have e : 256 - i = 255 - i + 1 := by omega
    rw [e, Nat.pow_succ, ← Nat.div_div_eq_div_mul, show 256 - (i + 1) = 255 - i by omega]
    omega

theorem hi_all {f : Nat → Int} (h : ∀ i, i < 32 → 0 ≤ f i ∧ f i < 256) : hi f 256 = natN f 32 := by
  rw [hi_nat h 256 (Nat.le_refl _)]
  simp

theorem bytesF_bd (v : F) (i : Nat) : 0 ≤ bytesF v i ∧ bytesF v i < 256 := by
  unfold bytesF
  have : v.val / 256 ^ i % 256 < 256 := Nat.mod_lt _ (by decide)
  omega

theorem natN_bytes (v : F) : ∀ n, natN (bytesF v) n = v.val % 256 ^ n
  | 0 => by simp [natN, Nat.mod_one]
  | n + 1 => by
    unfold natN
    rw [natN_bytes v n, Nat.pow_succ, Nat.mod_mul]
    rfl

theorem toF_bytes (v : F) : toF (num32 (bytesF v)) = v := by
  rw [num32_nat (fun i _ => bytesF_bd v i), natN_bytes]
  have hp : P < 256 ^ 32 := by decide
  have hv := v.isLt
  rw [Nat.mod_eq_of_lt (by omega)]
  exact toF_nat v

theorem num32_congr {f g : Nat → Int} (h : ∀ i, i < 32 → f i = g i) : num32 f = num32 g := by
  rw [← num32_clip f, ← num32_clip g]
  congr 1
  funext i
  unfold clip
  split
  · exact h i (by assumption)
  · rfl

/-! ### Bits of the highest byte -/

theorem and127 {a : Int} (h0 : 0 ≤ a) (h1 : a < 256) : bits .and .u8 a 127 = a % 128 := by
  have := bits_mask .u8 8 (by decide) (fun n h0 h1 => by simp [IntKind.wrap, IntKind.bits, IntKind.signed]; omega) 7 (by decide) a (by omega) (by omega)
  rw [show ((2 : Int) ^ 7 - 1) = 127 by decide] at this
  rw [this]
  omega

theorem or128_all : ∀ a : Fin 128, bits .or .u8 (a.val : Int) 128 = (a.val : Int) + 128 := by decide +kernel
theorem or128 {a : Int} (h0 : 0 ≤ a) (h1 : a < 128) : bits .or .u8 a 128 = a + 128 := by
  have := or128_all ⟨a.toNat, by omega⟩
  rw [show ((a.toNat : Nat) : Int) = a by omega] at this
  exact this

theorem bytesF_31 (v : F) : bytesF v 31 < 128 := by
  unfold bytesF
  have hv := v.isLt
  have hp : P < 128 * 256 ^ 31 := by decide
  have : v.val / 256 ^ 31 < 128 := by
    rw [Nat.div_lt_iff_lt_mul (Nat.pow_pos (by decide))]
    omega
  rw [Nat.mod_eq_of_lt (by omega)]
  omega

/-! ### Parity -/

theorem neg_val {x : F} (h : x ≠ 0) : (-x).val = P - x.val := by
  have hx := x.isLt
  have h0 : x.val ≠ 0 := fun e => h (Fin.ext e)
  show (P - x.val) % P = P - x.val
  exact Nat.mod_eq_of_lt (by omega)

theorem odd_neg {x : F} (h : x ≠ 0) : oddF (-x) = !oddF x := by
  rw [oddF_eq, oddF_eq, neg_val h]
  have hx := x.isLt
  have hp : P % 2 = 1 := by decide
  rw [Bool.eq_iff_iff]
  simp only [decide_eq_true_eq, Bool.not_eq_true', decide_eq_false_iff_not]
  omega

theorem odd_zero : oddF 0 = false := by rw [oddF_eq]; decide +kernel

theorem sq_eq {x y : F} (h : x * x = y * y) : x = y ∨ x = -y := by
  have : (x - y) * (x + y) = 0 := by grobner
  rcases mul_eq_zero this with h | h
  · left; grobner
  · right; grobner

theorem dV_ne {x y : F} (h : On x y) : dV y ≠ 0 := by
  unfold dV
  simp only [fadd_eq, fmul_eq, fd_eq, fone_eq]
  intro hc
  have hy : y ≠ 0 := by
    rintro rfl
    have e : d * ((0 : F) * 0) = 0 := by decide +kernel
    rw [e] at hc
    exact absurd hc (by decide +kernel)
  have hs : i * i = d * (y * y) := by
    rw [i_sq]
    generalize d = k at *
    grobner
  exact d_nonsq2 hy hs

/-! ### Bytes of what bytes are -/

theorem enc_dec {f : Nat → Int} (hb : bytesB 32 f = true) (h : dOk f = true) : ∀ i, i < 32 → encP (decP f) i = f i := by
  have hb' := bytesB_spec hb
  obtain ⟨hx, hy⟩ := dec_pt h
  rw [encP_eq, hx, hy]
  unfold dOk at h
  simp only [Bool.and_eq_true] at h
  obtain ⟨h1, h2, h3⟩ := h
  have hev : oddF (dX (dY f)) = false := rat_even _ _
  unfold eqN at h1
  rw [List.all_eq_true] at h1
  have hl : ∀ i, i < 32 → bytesF (dY f) i = low7 f i := fun i hi => by simpa using h1 i (by simpa using hi)
  have b31 := hb' 31 (by decide)
  have l31 : low7 f 31 = f 31 % 128 := by
    unfold low7 put31
    show bits .and .u8 (f 31) 127 = _
    rw [and127 b31.1 (by omega)]
  have lne : ∀ i, i < 31 → low7 f i = f i := fun i hi => by
    unfold low7 put31
    have : Nat.beq i 31 = false := by
      cases hc : Nat.beq i 31
      · rfl
      · exact absurd (Nat.eq_of_beq_eq_true hc) (by omega)
    rw [this]
    rfl
  have hodd : oddF (decX f) = dO f := by
    unfold decX pickF
    cases ho : dO f with
    | false => simpa using hev
    | true =>
      rw [ho] at h3
      have hz : feq (dX (dY f)) zeroR = false := by simpa using h3
      rw [feq_eq, zeroR_eq, decide_eq_false_iff_not] at hz
      rw [if_pos rfl, fneg_eq, odd_neg hz, hev]
      rfl
  rw [hodd]
  intro j hj
  have ho : dO f = decide (f 31 ≥ 128) := rfl
  cases hd : dO f with
  | false =>
    rw [hd] at ho
    have : ¬ f 31 ≥ 128 := by simpa using ho.symm
    rw [cond_false, hl j hj]
    rcases Nat.lt_or_ge j 31 with h | h
    · exact lne j h
    · have : j = 31 := by omega
      subst this
      rw [l31]
      omega
  | true =>
    rw [hd] at ho
    have : f 31 ≥ 128 := by simpa using ho.symm
    rw [cond_true]
    rcases Nat.lt_or_ge j 31 with h | h
    · have : Nat.beq j 31 = false := by
        cases hc : Nat.beq j 31
        · rfl
        · exact absurd (Nat.eq_of_beq_eq_true hc) (by omega)
      unfold put31
      rw [this, cond_false, hl j hj, lne j h]
    · have : j = 31 := by omega
      subst this
      show bits .or .u8 (bytesF (dY f) 31) 128 = _
      rw [or128 (bytesF_bd _ _).1 (bytesF_31 _), hl 31 (by decide), l31]
      omega

/-! ### What the bytes of a point are -/

theorem encP_31 (p : Pt) : encP p 31 = bytesF p.y 31 + (if oddF p.x = true then 128 else 0) := by
  rw [encP_eq]
  cases h : oddF p.x with
  | false => simp
  | true =>
    rw [cond_true]
    show bits .or .u8 (bytesF p.y 31) 128 = _
    rw [or128 (bytesF_bd _ _).1 (bytesF_31 _)]
    simp

theorem encP_ne (p : Pt) {j : Nat} (h : j ≠ 31) : encP p j = bytesF p.y j := by
  have : Nat.beq j 31 = false := by
    cases hc : Nat.beq j 31
    · rfl
    · exact absurd (Nat.eq_of_beq_eq_true hc) h
  rw [encP_eq]
  cases oddF p.x with
  | false => rfl
  | true => unfold put31; rw [cond_true, this]; rfl

theorem encP_bd (p : Pt) (j : Nat) : 0 ≤ encP p j ∧ encP p j < 256 := by
  by_cases h : j = 31
  · subst h
    rw [encP_31]
    have h1 := bytesF_bd p.y 31
    have h2 := bytesF_31 p.y
    split <;> omega
  · rw [encP_ne p h]; exact bytesF_bd _ _

theorem bytesB_of {f : Nat → Int} {n : Nat} (h : ∀ i, i < n → 0 ≤ f i ∧ f i < 256) : bytesB n f = true := by
  unfold bytesB
  rw [List.all_eq_true]
  intro i hi
  rw [decide_eq_true_eq]
  exact h i (by simpa using hi)

theorem encP_bytes (p : Pt) : bytesB 32 (encP p) = true := bytesB_of fun i _ => encP_bd p i

theorem enc_low (p : Pt) : ∀ j, j < 32 → low7 (encP p) j = bytesF p.y j := by
  intro j hj
  by_cases h : j = 31
  · subst h
    show bits .and .u8 (encP p 31) 127 = _
    rw [and127 (encP_bd p 31).1 (encP_bd p 31).2, encP_31]
    have h1 := bytesF_bd p.y 31
    have h2 := bytesF_31 p.y
    split <;> omega
  · have : Nat.beq j 31 = false := by
      cases hc : Nat.beq j 31
      · rfl
      · exact absurd (Nat.eq_of_beq_eq_true hc) h
    unfold low7 put31
    rw [this, cond_false, encP_ne p h]

theorem enc_dY (p : Pt) : dY (encP p) = p.y := by
  unfold dY
  rw [num32_congr (enc_low p), toF_bytes]

theorem enc_dO (p : Pt) : dO (encP p) = oddF p.x := by
  unfold dO
  rw [encP_31]
  have h1 := bytesF_bd p.y 31
  have h2 := bytesF_31 p.y
  cases oddF p.x with
  | false => rw [decide_eq_false_iff_not]; simp; omega
  | true => rw [decide_eq_true_eq]; simp; omega

theorem enc_root (p : Pt) : dI p.y = true ∧ (dX p.y = p.x ∨ dX p.y = -p.x) := by
  have hon := p.on
  have hv := dV_ne hon
  have hs : dV p.y * (p.x * p.x) = dU p.y := by
    unfold On at hon
    unfold dV dU
    simp only [fadd_eq, fsub_eq, fmul_eq, fd_eq, fone_eq]
    generalize d = k at *
    grobner
  have hi : dI p.y = true := rat_full (s := p.x) hs
  refine ⟨hi, sq_eq ?_⟩
  have hr := rat_root hi
  change dV p.y * (dX p.y * dX p.y) = dU p.y at hr
  refine mul_cancel hv ?_
  rw [← hs] at hr
  generalize dV p.y = k at *
  generalize dX p.y = x at *
  grobner

theorem dec_enc (p : Pt) : dOk (encP p) = true ∧ decP (encP p) = p := by
  obtain ⟨hi, hx⟩ := enc_root p
  have hev : oddF (dX p.y) = false := rat_even _ _
  have hX : decX (encP p) = p.x := by
    unfold decX pickF
    rw [enc_dO, enc_dY, fneg_eq]
    cases ho : oddF p.x with
    | false =>
      rw [if_neg (by decide)]
      rcases hx with hx | hx
      · exact hx
      · by_cases h0 : p.x = 0
        · rw [hx, h0]; grobner
        · rw [hx, odd_neg h0, ho] at hev
          cases hev
    | true =>
      rw [if_pos rfl]
      rcases hx with hx | hx
      · rw [hx, ho] at hev; cases hev
      · rw [hx]; grobner
  have hok : dOk (encP p) = true := by
    unfold dOk
    have h1 : eqN 32 (bytesF (dY (encP p))) (low7 (encP p)) = true := by
      rw [enc_dY]
      exact eqN_of fun i h => (enc_low p i h).symm
    rw [h1, enc_dY, hi, enc_dO, feq_eq, zeroR_eq]
    cases ho : oddF p.x with
    | false => rfl
    | true =>
      have : dX p.y ≠ 0 := by
        intro h0
        rw [h0] at hx
        have : p.x = 0 := by rcases hx with h | h <;> grobner
        rw [this, odd_zero] at ho
        cases ho
      simp [this]
  refine ⟨hok, ?_⟩
  have h := dec_pt hok
  exact Pt.ext' (h.1.trans hX) (h.2.trans (enc_dY p))

/-! ### Only thirty-two bytes matter -/

theorem low7_congr {f g : Nat → Int} (h : ∀ i, i < 32 → f i = g i) : ∀ i, i < 32 → low7 f i = low7 g i := by
  intro j hj
  unfold low7 put31
  rw [h 31 (by decide), h j hj]
theorem eqN_congr {n : Nat} {a a' b b' : Nat → Int} (ha : ∀ i, i < n → a i = a' i) (hb : ∀ i, i < n → b i = b' i) : eqN n a b = eqN n a' b' := by
  unfold eqN
  rw [Bool.eq_iff_iff, List.all_eq_true, List.all_eq_true]
  constructor
  · intro h i hi
    have hi' : i < n := by simpa using hi
    rw [← ha i hi', ← hb i hi']
    exact h i hi
  · intro h i hi
    have hi' : i < n := by simpa using hi
    rw [ha i hi', hb i hi']
    exact h i hi
theorem dOk_congr {f g : Nat → Int} (h : ∀ i, i < 32 → f i = g i) : dOk f = dOk g := by
  have hy : dY f = dY g := by unfold dY; rw [num32_congr (low7_congr h)]
  have ho : dO f = dO g := by unfold dO; rw [h 31 (by decide)]
  unfold dOk
  rw [hy, ho, eqN_congr (fun _ _ => rfl) (low7_congr h)]
theorem decP_congr {f g : Nat → Int} (h : ∀ i, i < 32 → f i = g i) : decP f = decP g := by
  have hk := dOk_congr h
  have hy : dY f = dY g := by unfold dY; rw [num32_congr (low7_congr h)]
  have ho : dO f = dO g := by unfold dO; rw [h 31 (by decide)]
  cases hg : dOk g with
  | false => rw [dec_zero hg, dec_zero (hk.trans hg)]
  | true =>
    have h1 := dec_pt hg
    have h2 := dec_pt (hk.trans hg)
    refine Pt.ext' ?_ ?_
    · rw [h1.1, h2.1]; unfold decX; rw [hy, ho]
    · rw [h1.2, h2.2, hy]

end Go.Proofs.Ytiolcdjnmnhcgaa
