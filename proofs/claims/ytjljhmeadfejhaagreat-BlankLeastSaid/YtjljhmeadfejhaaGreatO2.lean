/- Functions of the library that are known otherwise, for closed runs too. -/
import Derived.Test.YtjljhmeadfejhaaGreatO1
import Derived.Test.YtjljhmeadfejhaaGreatSH
import Derived.Test.YtjljhmeadfejhaaGreatME4
set_option maxRecDepth 100000
set_option linter.unusedVariables false
set_option linter.unusedSimpArgs false
namespace Go.Proofs.YtjljhmeadfejhaaGreat
open Go.Eng
theorem info_of {P : Program} {t : TypeId} {sz bytes : Nat} (e : (match P.info? t with
    | some i => (match i.zero with
      | some z => decide (i.size = sz) && decide (i.bytes = bytes) && decide (z.cells.size = sz)
      | none => false)
    | none => false) = true) : ∃ i z, P.info? t = some i ∧ i.zero = some z ∧ i.size = sz ∧ i.bytes = bytes ∧ z.cells.size = sz := by
  split at e
  · rename_i i hi
    split at e
    · rename_i z hz
      simp only [Bool.and_eq_true, decide_eq_true_eq] at e
      exact ⟨i, z, hi, hz, e.1.1, e.1.2, e.2⟩
    · cases e
  · cases e
theorem wClone82 {es : List AV} (hs : ∀ x ∈ es, x.cells.length = 5) (hm : es.length ≤ maxLen) (hbig : es.length * 72 ≤ 140737488355328) {h : List AO} {K : ARes → List AO → Prop}
    (k : if es = [] then K (.ok (.rsl [])) h else K (.ok (.msl h.length 0 es.length es.length)) (h ++ [.box (cellsL es)])) : WO 82 [.rsl es] h K := by
  obtain ⟨i, z, h1, h2, h3, h4, h5⟩ := info_of (P := Tryz.prog) (t := 41) (sz := 5) (bytes := 72) (by kernel_rfl)
  exact WC_clone (P := intPg Tryz.prog 0 .i64) Tryz.laysClone82 rfl Tryz.func82 rfl (by kernel_rfl) h1 h2 h3 h4 h5 (by decide) Tryz.sizeOf41 hs hm hbig k
theorem wClone76 {es : List AV} (hs : ∀ x ∈ es, x.cells.length = 5) (hm : es.length ≤ maxLen) (hbig : es.length * 64 ≤ 140737488355328) {h : List AO} {K : ARes → List AO → Prop}
    (k : if es = [] then K (.ok (.rsl [])) h else K (.ok (.msl h.length 0 es.length es.length)) (h ++ [.box (cellsL es)])) : WO 76 [.rsl es] h K := by
  obtain ⟨i, z, h1, h2, h3, h4, h5⟩ := info_of (P := Tryz.prog) (t := 69) (sz := 5) (bytes := 64) (by kernel_rfl)
  exact WC_clone (P := intPg Tryz.prog 0 .i64) Tryz.laysClone76 rfl Tryz.func76 rfl (by kernel_rfl) h1 h2 h3 h4 h5 (by decide) Tryz.sizeOf69 hs hm hbig k
theorem wContains {h : List AO} {a b : ByteArray} {K : ARes → List AO → Prop} (hs : a.size < 4294967281) (k : K (.ok (.bool (Lib.contains a.data.toList b.data.toList))) h) : WO 201 [.str a, .str b] h K := by
  refine WC_same (v := .bool (Lib.contains a.data.toList b.data.toList)) (fun φ w S vs V R => ?_) k
  obtain ⟨_, m, hm⟩ := V
  rw [rels_str2 R]
  exact ⟨_, ⟨Tryz.call201 _ w, Any.strings_Contains Tryz.lays144 a b m w hs hm⟩, .bool true _⟩
theorem wIndexByte {h : List AO} {a : ByteArray} {c : Int} {K : ARes → List AO → Prop} (k : K (.ok (.int .i64 (Lib.indexByte a.data.toList c.toNat.toUInt8))) h) : WO 174 [.str a, .int .u8 c] h K := by
  refine WC_same (v := .int .i64 (Lib.indexByte a.data.toList c.toNat.toUInt8)) (fun φ w S vs V R => ?_) k
  rw [rels_strint R]
  exact ⟨_, ⟨Tryz.call174 _ w, Any.strings_IndexByte Tryz.lays137 a c w⟩, .int true _ _⟩
/-- These, for the kernel. -/
def oPrim : FuncId → List AV → List AO → Option (AV × List AO)
  | 201, [.str a, .str b], h => if a.size < 4294967281 then some (.bool (Lib.contains a.data.toList b.data.toList), h) else none
  | 174, [.str a, .int .u8 c], h => some (.int .i64 (Lib.indexByte a.data.toList c.toNat.toUInt8), h)
  | 82, [.rsl es], h => cloneX 5 72 es h
  | 76, [.rsl es], h => cloneX 5 64 es h
  | _, _, _ => none
theorem oPrim_ok : ∀ g xs h x h', oPrim g xs h = some (x, h') → WC (intPg Tryz.prog 0 .i64) g xs h fun r h2 => r = .ok x ∧ h2 = h' := by
  intro g xs h x h' e
  unfold oPrim at e
  split at e
  · split at e
    · injection e with e; injection e with e1 e2; subst e1 e2
      exact wContains (by assumption) ⟨rfl, rfl⟩
    · cases e
  · injection e with e; injection e with e1 e2; subst e1 e2
    exact wIndexByte ⟨rfl, rfl⟩
  · rename_i es h
    unfold cloneX at e
    split at e
    case isFalse => cases e
    rename_i hc
    obtain ⟨c1, c2, c3⟩ := hc
    simp only [List.all_eq_true, beq_iff_eq] at c1
    refine wClone82 c1 c2 c3 ?_
    split at e
    · injection e with e; injection e with e1 e2; subst e1 e2
      simp
    · rename_i hne
      rw [if_neg (fun h => hne h)]
      injection e with e; injection e with e1 e2; subst e1 e2
      exact ⟨rfl, rfl⟩
  · rename_i es h
    unfold cloneX at e
    split at e
    case isFalse => cases e
    rename_i hc
    obtain ⟨c1, c2, c3⟩ := hc
    simp only [List.all_eq_true, beq_iff_eq] at c1
    refine wClone76 c1 c2 c3 ?_
    split at e
    · injection e with e; injection e with e1 e2; subst e1 e2
      simp
    · rename_i hne
      rw [if_neg (fun h => hne h)]
      injection e with e; injection e with e1 e2; subst e1 e2
      exact ⟨rfl, rfl⟩
  · cases e
def oHp : CallT → FuncId → List AV → List AO → Option (AV × List AO)
  | rc, 80, [.ptr i o, f], h => onceX rc i o f h
  | _, _, _, _ => none
theorem oHp_ok : ∀ rc, SoundC (intPg Tryz.prog 0 .i64) rc → ∀ g xs h x h', oHp rc g xs h = some (x, h') → WC (intPg Tryz.prog 0 .i64) g xs h fun r h2 => r = .ok x ∧ h2 = h' := by
  intro rc hrc g xs h x h' e
  unfold oHp at e
  split at e
  case h_2 => cases e
  rename_i i o f h
  unfold onceX at e
  split at e
  case h_2 => cases e
  rename_i cs hb
  split at e
  case h_2 => cases e
  rename_i v s h2 h3
  split at e
  · rename_i hv
    injection e with e; injection e with e1 e2; subst e1 e2
    exact wDone hb h2 hv ⟨rfl, rfl⟩
  rename_i hv
  split at e
  · cases e
  rename_i hs
  have hv : v = 0 := Classical.not_not.1 hv
  have hs : s = 0 := Classical.not_not.1 hs
  subst hv hs
  split at e
  case h_2 => cases e
  rename_i y h'' hr
  obtain ⟨fid, first, caps, rfl, k⟩ := hrc _ _ _ _ _ hr
  split at e
  case h_2 => cases e
  rename_i cs' hb'
  split at e
  case h_2 => cases e
  rename_i v' s' h2' h3'
  split at e
  case isFalse => cases e
  rename_i hs'
  subst hs'
  injection e with e; injection e with e1 e2; subst e1 e2
  refine wDo hb h2 h3 ?_
  have en : nrmL first ++ (nrmL [] ++ nrmL caps) = nrmL first ++ nrmL caps := by simp [nrmL]
  rw [en] at k
  refine WC.mono k ?_
  rintro r h2 ⟨rfl, rfl⟩
  exact ⟨_, cs', v', rfl, hb', h2', h3', rfl, rfl⟩
end Go.Proofs.YtjljhmeadfejhaaGreat
