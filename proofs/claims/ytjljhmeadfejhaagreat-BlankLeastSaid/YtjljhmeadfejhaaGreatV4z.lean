/- The document's Row, Rows, walked. -/
import Derived.Test.YtjljhmeadfejhaaGreatPKz
set_option maxRecDepth 100000
set_option linter.unusedVariables false
set_option linter.unusedSimpArgs false
namespace Go.Proofs.YtjljhmeadfejhaaGreat
open Go.Eng
theorem find_fldAt (tag : Int) : ∀ l : List Fld, (l.find? fun f => decide (f.tag = tag)) = (fldAt tag l).bind fun i => l[i]?
  | [] => rfl
  | f :: l => by
    simp only [List.find?, fldAt]
    by_cases h : f.tag = tag
    · simp [h]
    · simp only [h, decide_false, if_false]
      rw [find_fldAt tag l]
      cases fldAt tag l <;> simp
theorem fldAt_lt' {tag : Int} : ∀ {l : List Fld} {n : Nat}, fldAt tag l = some n → n < l.length
  | [], n, e => by simp [fldAt] at e
  | f :: l, n, e => by
    simp only [fldAt] at e
    split at e
    · injection e with e; subst e; simp
    · obtain ⟨m, hm, rfl⟩ := Option.map_eq_some_iff.1 e
      have := fldAt_lt' hm
      simp; omega
def rowR (l : List Fld) (tag : Int) : AV := match l.find? fun f => decide (f.tag = tag) with
  | none => .tup [.agg [.int .i64 0, .str ⟨#[]⟩, .int .i64 0, .str ⟨#[]⟩, .esl], .bool false]
  | some f => .tup [f.av, .bool true]
theorem w119 {h : List AO} {ds : List Decl} {s : ByteArray} {tag : Int} (hl : ds.length < 1099511627776) (hok : ∀ d ∈ ds, d.ok) {K : ARes → List AO → Prop} (k : K (.ok (rowR (fldsOf ds s) tag)) h) : W 119 [.rsl (ds.map Decl.av), .str s, .int .i64 tag] h K := by
  refine W_of mixed c119 (by simp [A119]) ?_
  simp [A119]
  refine w99 (by omega) ?_
  cases hf : fnd s ds with
  | none =>
    simp [pl, fillA, setL]
    refine .inr ⟨h.length, 3, rowR (fldsOf ds s) tag, DropOk.app h _, by simp [out, rowR, fldsOf, hf], by simpa using k⟩
  | some n =>
    have hlt := fnd_lt hf
    have hd := hok _ (List.getElem_mem hlt)
    have e0 : fldsOf ds s = ds[n].fields := by simp [fldsOf, hf, hlt]
    rw [e0] at k
    unfold rowR at k
    rw [find_fldAt] at k
    simp [pl, hlt, Decl.av]
    refine w167 (d := ds[n]) hd.2.2.1 ?_
    cases hg : fldAt tag ds[n].fields with
    | none =>
      rw [hg] at k
      simp [pl, fillA, setL]
      exact .inr ⟨h.length, 3, _, DropOk.app h _, by simp [out]; rfl, by simpa using k⟩
    | some q =>
      have hq := fldAt_lt' hg
      rw [hg] at k
      simp [hq] at k
      simp [pl, hlt, hq, Decl.av, Fld.av]
      exact .inr ⟨h.length, 3, _, DropOk.app h _, by simp [out]; rfl, by simpa [Fld.av] using k⟩
end Go.Proofs.YtjljhmeadfejhaaGreat
