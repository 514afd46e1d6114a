/- fardelref01: Of, Load, Bytes, Add, Mul: the walks. No condition. -/
import Derived.Test.YtiolcdjnmnhcgaaJ4
namespace Go.Proofs.Ytiolcdjnmnhcgaa
open Go.AE Fardel
set_option maxRecDepth 100000

noncomputable def envR1 : Env := envR0.set 76 (pureModel foldM)
theorem envR1_ok : EnvOK Try.prog envR1 := envR0_ok.set foldM_ok

def adL (f g : Nat → Int) : Nat → Int := updN 16 fun i => IntKind.u64.wrap (f i + g i)
theorem add1_mv (f g : Nat → Int) : mv (evFn Try.prog envR1 1000000 Try.f53) [D16 f, D16 g] = some ((foldB (adL f g) && true) && true, nnA (foldF (adL f g))) := by kernel_rfl

def ofL (n : Int) : Nat → Int := upd (upd (fun _ => 0) 0 (n.tmod 65536)) 1 ((IntKind.u64.wrap (n.tdiv 65536)).tmod 65536)
theorem of_mv (n : Int) : mv (evFn Try.prog envR1 1000000 Try.f52) [.int .u64 n] = some ((foldB (ofL n) && true) && true, nnA (foldF (ofL n))) := by kernel_rfl

def loL (b : Nat → Int) : Nat → Int := updN 16 fun i => IntKind.u64.wrap (IntKind.u64.wrap (b (2 * i)) + IntKind.u64.wrap (256 * IntKind.u64.wrap (b (2 * i + 1))))
theorem load1_mv (b : Nat → Int) : mv (evFn Try.prog envR1 1000000 Try.f48) [.ints .u8 32 b] = some ((foldB (loL b) && true) && true, nnA (foldF (loL b))) := by kernel_rfl

def byL (f : Nat → Int) : Nat → Nat → Int
  | 0 => fun _ => 0
  | i + 1 => upd (upd (byL f i) (2 * i) (IntKind.u8.wrap (f i))) (2 * i + 1) (IntKind.u8.wrap (shrI .u64 (f i) 8))
theorem bytes1_mv (f : Nat → Int) : mv (evFn Try.prog env0 40 Try.f18) [D16 f] = some (true, .ints .u8 32 (byL f 16)) := by kernel_rfl

end Go.Proofs.Ytiolcdjnmnhcgaa
