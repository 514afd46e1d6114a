/- edwards.Both: the loop. No condition. -/
import Derived.Test.YtiolcdjnmnhcgaaFy
import Derived.Test.YtiolcdjnmnhcgaaAeC
namespace Go.Proofs.Ytiolcdjnmnhcgaa
open Go.AE Fardel
set_option maxRecDepth 100000

noncomputable def envB0 : Env := ((envD.set 56 (pureModel wholeQ)).set 27 (pureModel AddQ)).set 63 (pureModel twiceQ)
theorem envB0_ok : EnvOK Try.prog envB0 := ((envD_ok.set wholeQ_ok).set AddQ_ok).set twiceQ_ok

noncomputable def bitM : Model := evFn Try.prog env0 1000000 Try.f62
theorem bitM_ok : SoundM Try.prog 62 bitM := SoundM.of_ev (env0_ok _) mix (by kernel_rfl) (by kernel_rfl) (by kernel_rfl)

def isId (k : Nat) : List T → Bool
  | .ptr j _ :: _ => Nat.beq j k
  | _ => false
def b2i (b : Bool) : Int := bif b then 1 else 0
noncomputable def envZ (x y : Bool) : Env := envB0.set 62 (assumeI bitM fun a => bif isId 0 a then b2i x else b2i y)
theorem envZ_ok (x y : Bool) : EnvOK Try.prog (envZ x y) := envB0_ok.set (bitM_ok.assumeI _)

noncomputable def bothC : Code := match Try.f25.body with
  | some c => c
  | none => .skip
noncomputable def bothL : Code := cB (cB (cR (cL (cR (cR (cR bothC))))))
theorem bothC_eq : bothC = .seq (cL bothC) (.seq (cL (cR bothC)) (.seq (cL (cR (cR bothC))) (.seq (.seq (cL (cL (cR (cR (cR bothC))))) (.block 0 (.loop bothL))) (cR (cR (cR (cR bothC))))))) := by kernel_rfl

noncomputable def bothPre : Code := .seq (cL bothC) (.seq (cL (cR bothC)) (.seq (cL (cR (cR bothC))) (cL (cL (cR (cR (cR bothC)))))))

def sT (i : Int) : List T := [.any, .any, .any, .any, .ptr 0 [], .ptr 1 [], .ptr 2 [], .ptr 3 [], .ptr 4 [], .ptr 5 [], .ptr 6 [], .any, .any, .any, .any, .any, .any, .any, .any, .any, .any, .any, .any, .any, .any, .any, .any, .int .i64 i,
  .any, .any, .any, .any, .any, .any, .any, .any, .any, .any, .any, .any, .any, .any, .any, .any, .any, .any, .any, .any, .any, .any]
def allT (z p q r : Qd) : T := .cons (qT z) (.cons (qT p) (.cons (qT q) (.cons (qT r) .nil)))
noncomputable def sG (f g : Nat → Int) (s s' : T) (p q o : Qd) : Heap := [some (.ints .u8 32 f), some s, some (.ints .u8 32 g), some s', some zT, some (allT zQ p q (adQ p q)), some (qT o)]
def keepM : Nat := 134219760

theorem pre_qq (f g : Nat → Int) (p q : Qd) : (evCode Try.prog envB0 10 bothPre ⟨[.ints .u8 32 f, qT p, .ints .u8 32 g, qT q] ++ undefs 46, [], true, 0, 0⟩).map (fun r => (r.1, r.2.vc, tmTrim 7 keepM 0 r.2.tm, r.2.G.take 7, Nat.ble 7 r.2.G.length)) = some (.normal, true, sT 0, sG f g (qT p) (qT q) p q zQ, true) := by kernel_rfl

theorem pre_qu (f g : Nat → Int) (p : Qd) : (evCode Try.prog envB0 10 bothPre ⟨[.ints .u8 32 f, qT p, .ints .u8 32 g, uT] ++ undefs 46, [], true, 0, 0⟩).map (fun r => (r.1, r.2.vc, tmTrim 7 keepM 0 r.2.tm, r.2.G.take 7, Nat.ble 7 r.2.G.length)) = some (.normal, true, sT 0, sG f g (qT p) uT p zQ zQ, true) := by kernel_rfl
theorem pre_uq (f g : Nat → Int) (q : Qd) : (evCode Try.prog envB0 10 bothPre ⟨[.ints .u8 32 f, uT, .ints .u8 32 g, qT q] ++ undefs 46, [], true, 0, 0⟩).map (fun r => (r.1, r.2.vc, tmTrim 7 keepM 0 r.2.tm, r.2.G.take 7, Nat.ble 7 r.2.G.length)) = some (.normal, true, sT 0, sG f g uT (qT q) zQ q zQ, true) := by kernel_rfl
theorem pre_uu (f g : Nat → Int) : (evCode Try.prog envB0 10 bothPre ⟨[.ints .u8 32 f, uT, .ints .u8 32 g, uT] ++ undefs 46, [], true, 0, 0⟩).map (fun r => (r.1, r.2.vc, tmTrim 7 keepM 0 r.2.tm, r.2.G.take 7, Nat.ble 7 r.2.G.length)) = some (.normal, true, sT 0, sG f g uT uT zQ zQ zQ, true) := by kernel_rfl

noncomputable def selQ (p q : Qd) : Bool → Bool → Qd
  | true, false => p
  | false, true => q
  | _, _ => adQ p q
noncomputable def stepQ (p q : Qd) (x y : Bool) (o : Qd) : Qd := bif x || y then adQ (dbQ o) (selQ p q x y) else dbQ o

def nextI (i : Int) : Int := IntKind.i64.wrap (i + 1)
def cutS (r : Ex × St) : Ex × List T × Heap × Bool := (r.1, tmTrim 7 keepM 0 r.2.tm, r.2.G.take 7, Nat.ble 7 r.2.G.length)


end Go.Proofs.Ytiolcdjnmnhcgaa
