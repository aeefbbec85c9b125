/- names.Table.Find and the reference Find, about the engine. -/
import Derived.Test.YtjljhmeadfejhaaC0
import Derived.Test.YtjljhmeadfejhaaD0
import Derived.Test.YtjljhmeadfejhaaE26
set_option maxRecDepth 100000
set_option linter.unusedVariables false
set_option linter.unusedSimpArgs false
namespace Go.Proofs.Ytjljhmeadfejhaa
open Go.Eng
theorem mixed : Try.prog.follows .mixedOrders = true := by kernel_rfl
abbrev W := WC (intPg Try.prog 0 .i64)

theorem w12_nil {h : List AO} {s : ByteArray} {K : ARes → List AO → Prop} (k : K (.ok (.tup [.int .i64 0, .bool false])) h) : W 12 [.nilp, .str s] h K := by
  refine W_of mixed c12 (by simp [A12]) ?_
  simp [A12]
  exact .inl k
theorem w12 {h : List AO} {s : ByteArray} {K : ARes → List AO → Prop} {i j : Nat} {y : AV} {es : List (AV × AV)} (h1 : h[i]? = some (.box [.map j, y])) (h2 : h[j]? = some (.map es)) {r : Option AV} (h3 : findA (.str s) es = some r)
    (hr : ∀ x, r = some x → ∃ n, x = .int .i64 n) (k : K (.ok (.tup [r.getD (.int .i64 0), .bool r.isSome])) h) : W 12 [.ptr i 0, .str s] h K := by
  refine W_of mixed c12 (by simp [A12]) ?_
  cases r with
  | none =>
    simp [A12, h1, h2, h3]
    exact .inl k
  | some x =>
    simp [A12, h1, h2, h3]
    exact .inl k
/-- The first place of a name. -/
def fnd (s : ByteArray) : List Decl → Option Nat
  | [] => none
  | d :: l => if d.name = s then some 0 else (fnd s l).map (· + 1)
def pl : Option Nat → Int
  | none => -1
  | some i => i

theorem w13 {h : List AO} {ds : List Decl} {s : ByteArray} {K : ARes → List AO → Prop} (hl : ds.length < 4611686018427387904) (k : K (.ok (.int .i64 (pl (fnd s ds)))) h) : W 13 [.rsl (ds.map Decl.av), .str s] h K := by
  refine W_of mixed c13 (by simp [A13, A13_l0, A13_r0]) ?_
  simp [A13, A13_l0, A13_r0]
  refine lp_ind (ι := Nat) (fun i => i ≤ ds.length ∧ fnd s ds = (fnd s (ds.drop i)).map (· + i)) (fun i => ds.length - i) (fun i => [(0, .rsl (ds.map Decl.av)), (1, .str s), (5, .int .i64 (i : Int))]) (fun _ => h) ?_ 0 (by simp)
  intro i ⟨hi, hf⟩ ih
  have hw : IntKind.i64.wrap ((i : Int) + 1) = ((i + 1 : Nat) : Int) := by rw [wrap_i64 _ (by omega) (by omega)]; omega
  by_cases hlt : i < ds.length
  · have hd : ds.drop i = ds[i] :: ds.drop (i + 1) := List.drop_eq_getElem_cons hlt
    rw [hd] at hf
    simp [hlt, Decl.av]
    by_cases hn : ds[i].name = s
    · simp [hn, fnd] at hf ⊢
      rw [hf] at k
      exact .inl k
    · simp [hn, fnd, hw] at hf ⊢
      refine ih (i + 1) ⟨by omega, ?_⟩ (by omega)
      rw [hf]
      cases fnd s (ds.drop (i + 1)) <;> simp <;> omega
  · have : ds.drop i = [] := List.drop_eq_nil_of_le (by omega)
    rw [this] at hf
    simp [hlt]
    simp [fnd] at hf
    rw [hf] at k
    exact .inl k
end Go.Proofs.Ytjljhmeadfejhaa
