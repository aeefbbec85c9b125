/- names.Method and NamesParts, about the engine. -/
import Derived.Test.YtjljhmeadfejhaaT5
set_option maxRecDepth 100000
set_option linter.unusedVariables false
set_option linter.unusedSimpArgs false
namespace Go.Proofs.Ytjljhmeadfejhaa
open Go.Eng

def zMth : AO := .box [.int .i64 0, .str ⟨#[]⟩, .str ⟨#[]⟩, .str ⟨#[]⟩, .bool false]
theorem w20 {h : List AO} {ds : List Decl} {svc m : ByteArray} {K : ARes → List AO → Prop} (hl : ds.length < 2199023255552) (hok : ∀ d ∈ ds, d.ok) (k : K (.ok (mthR (mthAt svc m ds))) h) : W 20 [.rsl (ds.map Decl.av), .str svc, .str m] h K := by
  refine W_of mixed c20 (by simp [A20]) ?_
  simp [A20]
  refine w11t hl ?_
  simp
  refine w12t (ds := ds) ?_ ?_
  · have := isTab_app (h ++ [zMth]) [] ds
    simpa [zMth] using this
  simp [fndR]
  cases hf : fnd svc ds with
  | none =>
    simp [fillA]
    refine ret_pure (by simp) ?_
    simp [mthAt, hf, mthR, noMth, Mth.av] at k
    exact k
  | some q =>
    have hq := fnd_lt hf
    by_cases hk : ds[q].kind = 4
    · simp [hq, Decl.av, hk]
      have hlen : ds[q].methods.length < most := (hok _ (List.getElem_mem hq)).2.2.2.1
      simp only [most] at hlen
      have ka : mthAt svc m ds = ds[q].methods.find? (fun x => decide (x.name = m)) := by simp [mthAt, hf, hq, hk]
      rw [ka] at k
      refine lp_ind (ι := Nat) (fun i => i ≤ ds[q].methods.length ∧ ds[q].methods.find? (fun x => decide (x.name = m)) = (ds[q].methods.drop i).find? (fun x => decide (x.name = m))) (fun i => ds[q].methods.length - i)
        (fun i => [(2, .str m), (6, .ptr h.length 0), (34, .rsl (ds[q].methods.map Mth.av)), (35, .int .i64 (ds[q].methods.length : Int)), (36, .int .i64 (i : Int))])
        (fun i => h ++ (zMth :: ofT (h.length + 1) ds ds.length)) ?_ 0 ⟨by omega, by simp⟩
      intro i ⟨hi, hfi⟩ ih
      have hw : IntKind.i64.wrap ((i : Int) + 1) = ((i + 1 : Nat) : Int) := by rw [wrap_i64 _ (by omega) (by omega)]; omega
      by_cases hlt : i < ds[q].methods.length
      · obtain ⟨s1, s2⟩ := find_step hlt hfi
        by_cases hn : ds[q].methods[i].name = m
        · simp [A20_l0, hlt, Mth.av, hn, zMth]
          refine ret_pure (by simp) ?_
          rw [s1 hn] at k
          simp [mthR, Mth.av, hn] at k
          exact k
        · have tk : ∀ b, (zMth :: (ofT (h.length + 1) ds ds.length ++ [b])).take ((ofT (h.length + 1) ds ds.length).length + 1) = zMth :: ofT (h.length + 1) ds ds.length := fun b => by
            rw [List.take_succ_cons, List.take_left]
          simp [A20_l0, hlt, Mth.av, hn, hw]
          refine lp_cut (f' := [(2, .str m), (6, .ptr h.length 0), (34, .rsl (ds[q].methods.map Mth.av)), (35, .int .i64 (ds[q].methods.length : Int)), (36, .int .i64 ((i + 1 : Nat) : Int))]) ((ofT (h.length + 1) ds ds.length).length + 1) ?_ ?_ ?_
          · rw [tk]
            have := (ofT_bel (h.length + 1) ds ds.length).1
            simp only [List.all_cons, Bool.and_eq_true]
            refine ⟨rfl, ?_⟩
            rw [show h.length + ((ofT (h.length + 1) ds ds.length).length + 1) = h.length + 1 + (ofT (h.length + 1) ds ds.length).length by omega]
            exact this
          · simp
          · rw [tk]
            exact ih (i + 1) ⟨by omega, s2 hn⟩ (by omega)
      · have : ds[q].methods.drop i = [] := List.drop_eq_nil_of_le (by omega)
        rw [this] at hfi
        simp [A20_l0, A20_r0, hlt, fillA, zMth]
        refine ret_pure (by simp) ?_
        simp at hfi
        rw [List.find?_eq_none.2 (by simpa using hfi)] at k
        simp [mthR, noMth, Mth.av] at k
        exact k
    · simp [hq, Decl.av, hk, fillA]
      refine ret_pure (by simp) ?_
      simp [mthAt, hf, hq, hk, mthR, noMth, Mth.av] at k
      exact k

theorem fldAt_nat (o : Option Nat) : ((pl o ≥ 0) = (o.isSome = true)) ∧ (o.isSome = true → pl o = ((o.getD 0 : Nat) : Int)) := by
  cases o <;> simp [pl]
theorem w5 {h : List AO} {ds : List Decl} {tag : Int} {svc m : ByteArray} {K : ARes → List AO → Prop} (hl : ds.length < 2199023255552) (hok : ∀ d ∈ ds, d.ok) (k : K (.ok (.bool true)) h) :
    W 5 [.rsl (ds.map Decl.av), .agg [.int .i64 tag, .str svc, .str m]] h K := by
  refine W_of mixed c5 (by simp [A5]) ?_
  have fin : ∀ l, retK h K (.bool true) (h ++ l) := fun l => ret_pure (by simp) k
  simp [A5]
  by_cases h300 : (300 : Int) < ds.length
  · simp [h300]
    refine w16 ?_
    simp
    exact fin _
  · simp [h300]
    refine lp_ind (ι := Nat) (fun i => i ≤ ds.length) (fun i => ds.length - i)
      (fun i => [(0, .rsl (ds.map Decl.av)), (3, .ptr h.length 0), (5, .int .i64 (i : Int))])
      (fun i => h ++ [.box [.int .i64 tag, .str svc, .str m]]) ?_ 0 (by omega)
    intro i hi ih
    have hw : IntKind.i64.wrap ((i : Int) + 1) = ((i + 1 : Nat) : Int) := by rw [wrap_i64 _ (by omega) (by omega)]; omega
    by_cases hlt : i < ds.length
    · have hlen : ds[i].fields.length < most := (hok _ (List.getElem_mem hlt)).2.2.1
      have IH := ih (i + 1) (by omega) (by omega)
      simp [A5_l0, hlt, Decl.av]
      refine ⟨_, _, w18 hlen ⟨rfl, rfl⟩, ?_⟩
      simp [hlt, Decl.av]
      refine ⟨_, _, w19 hlen ⟨rfl, rfl⟩, ?_⟩
      cases hf : fldAt tag ds[i].fields with
      | none =>
        simp [hf, pl, hw]
        exact IH
      | some q =>
        simp [hf, pl, hw]
        exact IH
    · simp [A5_l0, A5_r0, hlt]
      refine w20 hl hok ?_
      simp [mthR, Mth.av]
      refine w21 hl hok ?_
      simp [mthR, Mth.av]
      refine w17 hl ?_
      simp
      refine w22 hl ?_
      simp
      refine w16 ?_
      simp
      exact fin _
end Go.Proofs.Ytjljhmeadfejhaa
