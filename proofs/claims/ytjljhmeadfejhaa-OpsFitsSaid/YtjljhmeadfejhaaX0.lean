/- The example of chapter 12, run by the kernel. -/
import Derived.Test.YtjljhmeadfejhaaC0
import Derived.Test.YtjljhmeadfejhaaC1
import Derived.Test.YtjljhmeadfejhaaC2
import Derived.Test.YtjljhmeadfejhaaT0
import Derived.Test.YtjljhmeadfejhaaME4
set_option maxRecDepth 100000
namespace Go.Proofs.Ytjljhmeadfejhaa
open Go.Eng
def tab12 : List (FuncId × AFun) := [(24, A24), (27, A27), (25, A25), (43, A43), (45, A45), (61, A61), (63, A63), (64, A64), (65, A65), (86, A86), (103, A103), (104, A104), (11, A11), (12, A12), (14, A14)]
theorem tab12_ok : tabOk Try.prog tab12 := ⟨c24, c27, c25, c43, c45, c61, c63, c64, c65, c86, c103, c104, c11, c12, c14, trivial⟩
theorem w24 {h : List AO} {K : ARes → List AO → Prop} (k : K (.ok (.bool true)) h) : W 24 [] h K :=
  WC_run mixed tab12_ok noPrim_ok 100000 (by kernel_rfl) k
end Go.Proofs.Ytjljhmeadfejhaa
