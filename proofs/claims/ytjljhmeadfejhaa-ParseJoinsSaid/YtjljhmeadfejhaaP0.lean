/- Functions of the library that are known by their contracts; the example of chapter 9, run by the kernel. -/
import Derived.Test.YtjljhmeadfejhaaT0
import Derived.Test.YtjljhmeadfejhaaC4
import Derived.Test.YtjljhmeadfejhaaSH
import Derived.Test.YtjljhmeadfejhaaE26
set_option maxRecDepth 100000
set_option linter.unusedVariables false
namespace Go.Proofs.Ytjljhmeadfejhaa
open Go.Eng
theorem w46 {h : List AO} {a b : ByteArray} {K : ARes → List AO → Prop} (hs : a.size < 4294967281) (k : K (.ok (.bool (Lib.contains a.data.toList b.data.toList))) h) : W 46 [.str a, .str b] h K := by
  refine WC_same (v := .bool (Lib.contains a.data.toList b.data.toList)) (fun φ w S vs V R => ?_) k
  obtain ⟨_, m, hm⟩ := V
  rw [rels_str2 R]
  exact ⟨_, ⟨Try.call46 _ w, Any.strings_Contains Try.lays144 a b m w hs hm⟩, .bool true _⟩
theorem w46_one {h : List AO} {a : ByteArray} {c : UInt8} {K : ARes → List AO → Prop} (k : K (.ok (.bool (decide (0 ≤ Lib.indexByte a.data.toList c)))) h) : W 46 [.str a, .str ⟨#[c]⟩] h K := by
  refine WC_same (v := .bool (decide (0 ≤ Lib.indexByte a.data.toList c))) (fun φ w S vs V R => ?_) k
  rw [rels_str2 R]
  exact ⟨_, ⟨Try.call46 _ w, Any.strings_Contains_one Try.lays144 a c w⟩, .bool true _⟩
theorem w93 {h : List AO} {a : ByteArray} {c : Int} {K : ARes → List AO → Prop} (k : K (.ok (.int .i64 (Lib.indexByte a.data.toList c.toNat.toUInt8))) h) : W 93 [.str a, .int .u8 c] h K := by
  refine WC_same (v := .int .i64 (Lib.indexByte a.data.toList c.toNat.toUInt8)) (fun φ w S vs V R => ?_) k
  rw [rels_strint R]
  exact ⟨_, ⟨Try.call93 _ w, Any.strings_IndexByte Try.lays137 a c w⟩, .int true _ _⟩
/-- These two, for the kernel. -/
def libPrim : FuncId → List AV → List AO → Option (AV × List AO)
  | 46, [.str a, .str b], h => if a.size < 4294967281 then some (.bool (Lib.contains a.data.toList b.data.toList), h) else none
  | 93, [.str a, .int .u8 c], h => some (.int .i64 (Lib.indexByte a.data.toList c.toNat.toUInt8), h)
  | _, _, _ => none
theorem libPrim_ok : ∀ g xs h x h', libPrim g xs h = some (x, h') → WC (intPg Try.prog 0 .i64) g xs h fun r h2 => r = .ok x ∧ h2 = h' := by
  intro g xs h x h' e
  unfold libPrim at e
  split at e
  · split at e
    · injection e with e; injection e with e1 e2; subst e1 e2
      exact w46 (by assumption) ⟨rfl, rfl⟩
    · cases e
  · injection e with e; injection e with e1 e2; subst e1 e2
    exact w93 ⟨rfl, rfl⟩
  · cases e
def tab9 : List (FuncId × AFun) := [(30, A30), (31, A31), (47, A47), (48, A48), (49, A49), (50, A50), (51, A51), (67, A67), (68, A68), (70, A70), (71, A71), (72, A72), (73, A73), (74, A74), (75, A75), (76, A76), (77, A77), (78, A78), (88, A88), (89, A89), (90, A90), (91, A91), (92, A92), (94, A94), (109, A109), (110, A110), (111, A111), (112, A112), (113, A113), (121, A121), (28, A28)]
theorem tab9_ok : tabOk Try.prog tab9 := ⟨c30, c31, c47, c48, c49, c50, c51, c67, c68, c70, c71, c72, c73, c74, c75, c76, c77, c78, c88, c89, c90, c91, c92, c94, c109, c110, c111, c112, c113, c121, c28, trivial⟩
theorem w30 {h : List AO} {K : ARes → List AO → Prop} (k : K (.ok (.bool true)) h) : W 30 [] h K :=
  WC_run mixed tab9_ok libPrim_ok 100000 (by kernel_rfl) k
end Go.Proofs.Ytjljhmeadfejhaa
