/- FormulaNil, run by the quick machine at whatever arguments: it answers true. -/
import Derived.Test.YteajocebbmfdmaaGreatDoorFrame
import Derived.Test.YteajocebbmfdmaaGreatDoorRows
import Derived.KernelRfl
namespace Go.Proofs.YteajocebbmfdmaaGreatDoor
open Go Go.Abs
set_option maxRecDepth 100000

noncomputable def mem3 : FMem := ⟨3, .node (some (.row .ro 0 [])) (.node (some (.row .ro 0 [])) .nil .nil) (.node (some (.row .ro 0 [])) .nil .nil), by decide⟩

theorem nil_eval (s : ByteArray) (n : Int) : saysTrue (fcall Tryz.prog (fun _ => none) 200 4 #[.string s, .int .i64 n] mem3) = true := by kernel_rfl

end Go.Proofs.YteajocebbmfdmaaGreatDoor
