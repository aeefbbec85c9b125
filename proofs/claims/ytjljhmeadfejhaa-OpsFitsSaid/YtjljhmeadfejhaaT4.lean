/- Twice and NamesOwn, about the engine. -/
import Derived.Test.YtjljhmeadfejhaaT3
set_option maxRecDepth 100000
set_option linter.unusedVariables false
set_option linter.unusedSimpArgs false
namespace Go.Proofs.Ytjljhmeadfejhaa
open Go.Eng

/-- Behind what was there: the objects of a table. -/
def ofT (n0 : Nat) (ds : List Decl) : Nat → List AO
  | 0 => [.map [], .box [.map n0, .esl]]
  | i + 1 => [.map (mp ds (i + 1)), .box [.map n0, .osl (n0 + 3) (kinds (ds.take (i + 1)))], .box ((ds.head?.map fun d => d.av.cells).getD []), .tok 3 1 (i + 1)]
theorem ofH_eq (h : List AO) (ds : List Decl) (n : Nat) : ofH h ds n = h ++ ofT h.length ds n := by cases n <;> rfl
theorem ofT_bel (n0 : Nat) (ds : List Decl) (n : Nat) : (ofT n0 ds n).all (AO.bel (n0 + (ofT n0 ds n).length)) = true ∧ 2 ≤ (ofT n0 ds n).length := by
  cases n with
  | zero => simp [ofT, AO.bel, belL, AV.bel]
  | succ i =>
    simp [ofT, AO.bel, belL, AV.bel]
    constructor
    · intro a b hab
      obtain ⟨s, n, e⟩ := mp_str ds (i + 1) _ hab
      injection e with _ e; subst e; rfl
    · cases ds <;> simp [belL, AV.bel, Decl.av]
theorem lp_cut_of {h l : List AO} {ds : List Decl} {n : Nat} {res : List ARV} {K : ARes → List AO → Prop} {keep : List Nat} {a : AC} {k : List KI} {f f' : Fr}
    (hf : ∀ m, h.length + 2 ≤ m → ∀ h', outF m h' 3 (keepF keep f) = some f') (L : LP ⟨intPg Try.prog 0 .i64, h, res, K⟩ keep a k f' (ofH h ds n)) : LP ⟨intPg Try.prog 0 .i64, h, res, K⟩ keep a k f (ofH h ds n ++ l) := by
  rw [ofH_eq] at L ⊢
  obtain ⟨b1, b2⟩ := ofT_bel h.length ds n
  rw [List.append_assoc]
  refine lp_cut (ofT h.length ds n).length ?_ (hf _ (by omega) _) ?_
  · rw [List.take_left]; exact b1
  · rw [List.take_left]; exact L
theorem w12_of' {h l : List AO} {s : ByteArray} {ds : List Decl} {K : ARes → List AO → Prop} (k : K (.ok (fndR s ds)) (ofH h ds ds.length ++ l)) : W 12 [.ptr (h.length + 1) 0, .str s] (ofH h ds ds.length ++ l) K := by
  obtain ⟨y, h1, h2, h3⟩ := ofH_box h ds ds.length
  have e1 : (ofH h ds ds.length ++ l)[h.length + 1]? = some (.box [.map h.length, y]) := by
    rw [List.getElem?_append_left (List.getElem?_eq_some_iff.1 h1).1]; exact h1
  have e2 : (ofH h ds ds.length ++ l)[h.length]? = some (.map (mp ds ds.length)) := by
    rw [List.getElem?_append_left (List.getElem?_eq_some_iff.1 h2).1]; exact h2
  refine w12 e1 e2 (find_mp s ds) (fun x hx => ?_) ?_
  · cases hf : fnd s ds <;> rw [hf] at hx <;> simp at hx
    exact ⟨_, hx.symm⟩
  · simpa [fndR] using k
/-- What a function gives that keeps nothing. -/
theorem ret_pure {h l : List AO} {K : ARes → List AO → Prop} {x : AV} (hx : out h.length (h ++ l) 3 x = some x) (k : K (.ok x) h) : retK h K x (h ++ l) :=
  .inr ⟨h.length, 3, x, DropOk.app h l, hx, by rw [List.take_left]; exact k⟩
theorem ret_of {h l : List AO} {ds : List Decl} {n : Nat} {K : ARes → List AO → Prop} {x : AV} (hx : ∀ h', out h.length h' 3 x = some x) (k : K (.ok x) h) : retK h K x (ofH h ds n ++ l) := by
  rw [ofH_eq, List.append_assoc]
  exact ret_pure (hx _) k

theorem fnd_le {ds : List Decl} {i : Nat} (hi : i < ds.length) : ∃ k, fnd ds[i].name ds = some k ∧ k ≤ i := by
  induction ds generalizing i with
  | nil => simp at hi
  | cons d l ih =>
    cases i with
    | zero => exact ⟨0, by simp [fnd], by omega⟩
    | succ i =>
      obtain ⟨k, h1, h2⟩ := ih (i := i) (by simpa using hi)
      simp only [List.getElem_cons_succ, fnd]
      split
      · exact ⟨0, rfl, by omega⟩
      · exact ⟨k + 1, by rw [h1]; rfl, by omega⟩
def good (ds : List Decl) (i : Nat) : Bool := match ds[i]? with
  | some d => fnd d.name ds == some i
  | none => true
def twice (ds : List Decl) : Int := match (List.range ds.length).find? (fun i => !good ds i) with
  | some i => i
  | none => -1
theorem twice_at {ds : List Decl} {i : Nat} (hi : i < ds.length) (h1 : ∀ j, j < i → good ds j = true) (h2 : good ds i = false) : twice ds = i := by
  have : (List.range ds.length).find? (fun i => !good ds i) = some i := by
    rw [List.find?_range_eq_some]
    exact ⟨by simp [h2], by simpa using hi, fun j hj => by simp [h1 j hj]⟩
  simp [twice, this]
theorem twice_none {ds : List Decl} (h1 : ∀ j, j < ds.length → good ds j = true) : twice ds = -1 := by
  have : (List.range ds.length).find? (fun i => !good ds i) = none := by
    rw [List.find?_eq_none]
    intro j hj
    simp [h1 j (by simpa using hj)]
  simp [twice, this]

theorem w17 {h : List AO} {ds : List Decl} {K : ARes → List AO → Prop} (hl : ds.length < 2199023255552) (k : K (.ok (.int .i64 (twice ds))) h) : W 17 [.rsl (ds.map Decl.av)] h K := by
  refine W_of mixed c17 (by simp [A17]) ?_
  simp [A17]
  refine w11 hl ?_
  simp
  refine lp_ind (ι := Nat) (fun i => i ≤ ds.length ∧ ∀ j, j < i → good ds j = true) (fun i => ds.length - i) (fun i => [(3, .ptr (h.length + 1) 0), (10, .rsl (ds.map Decl.av)), (11, .int .i64 (ds.length : Int)), (12, .int .i64 (i : Int))])
    (fun i => ofH h ds ds.length) ?_ 0 ⟨by omega, fun j hj => by omega⟩
  intro i ⟨hi, hg⟩ ih
  have hw : IntKind.i64.wrap ((i : Int) + 1) = ((i + 1 : Nat) : Int) := by rw [wrap_i64 _ (by omega) (by omega)]; omega
  by_cases hlt : i < ds.length
  · simp [A17_l0, hlt, Decl.av]
    refine w12_of' ?_
    obtain ⟨q, hq, hqi⟩ := fnd_le hlt
    simp [fndR, hq]
    by_cases he : q = i
    · subst he
      simp [hw]
      refine lp_cut_of (fun m hm h' => by simp [show h.length + 1 < m by omega]) (ih (q + 1) ⟨by omega, fun j hj => ?_⟩ (by omega))
      by_cases hjq : j = q
      · subst hjq; simp [good, hlt, hq]
      · exact hg j (by omega)
    · have hne : ¬ ((q : Int) = (i : Int)) := by omega
      simp [hne]
      refine ret_of (fun h' => by simp) ?_
      rw [twice_at hlt hg (by simp [good, hlt, hq, he])] at k
      exact k
  · have : i = ds.length := by omega
    subst this
    simp [A17_l0, A17_r0]
    rw [twice_none hg] at k
    have := ret_of (h := h) (l := []) (ds := ds) (n := ds.length) (K := K) (x := .int .i64 (-1)) (fun h' => by simp) k
    simpa [Eng.Fin, packR] using this

theorem w4 {h : List AO} {ds : List Decl} {K : ARes → List AO → Prop} (hl : ds.length < 2199023255552) (k : K (.ok (.bool true)) h) : W 4 [.rsl (ds.map Decl.av)] h K := by
  refine W_of mixed c4 (by simp [A4]) ?_
  simp [A4]
  refine w11 hl ?_
  simp
  refine lp_ind (ι := Nat) (fun i => i ≤ ds.length) (fun i => ds.length - i) (fun i => [(0, .rsl (ds.map Decl.av)), (3, .ptr (h.length + 1) 0), (4, .bool ((List.range i).all (good ds))), (5, .int .i64 (i : Int))])
    (fun i => ofH h ds ds.length) ?_ 0 (by omega)
  intro i hi ih
  have hw : IntKind.i64.wrap ((i : Int) + 1) = ((i + 1 : Nat) : Int) := by rw [wrap_i64 _ (by omega) (by omega)]; omega
  by_cases hlt : i < ds.length
  · simp [A4_l0, hlt, Decl.av]
    refine w12_of ?_
    obtain ⟨q, hq, hqi⟩ := fnd_le hlt
    have h1 : ¬ ((q : Int) > (i : Int)) := by omega
    have IH := ih (i + 1) (by omega) (by omega)
    have hgood : good ds i = decide (q = i) := by simp [good, hlt, hq]; rfl
    rw [List.range_succ, List.all_append] at IH
    simp [hgood] at IH
    cases hb : (List.range i).all (good ds) with
    | true =>
      by_cases he : q = i
      · subst he
        simp [fndR, hq, h1, hb, hw] at IH ⊢
        exact IH
      · have hne : ¬ ((q : Int) = (i : Int)) := by omega
        simp [fndR, hq, h1, hb, hw, he, hne] at IH ⊢
        exact IH
    | false =>
      simp [fndR, hq, h1, hb, hw] at IH ⊢
      exact IH
  · have : i = ds.length := by omega
    subst this
    have fin : retK h K (.bool true) (ofH h ds ds.length) := by
      have := ret_of (h := h) (l := []) (ds := ds) (n := ds.length) (K := K) (x := .bool true) (fun h' => by simp) k
      simpa using this
    simp [A4_l0, A4_r0]
    refine w17 hl ?_
    by_cases hall : (List.range ds.length).all (good ds) = true
    · rw [twice_none (fun j hj => by simpa using (List.all_eq_true.1 hall) j (by simpa using hj))]
      simp only [hall]
      simp
      refine w16 ?_
      simp
      exact fin
    · have hall' : (List.range ds.length).all (good ds) = false := by simpa using hall
      have : 0 ≤ twice ds := by
        unfold twice
        split
        · omega
        · rename_i hn
          rw [List.find?_eq_none] at hn
          refine absurd (List.all_eq_true.2 fun j hj => ?_) hall
          simpa using hn j hj
      have hlt : ¬ twice ds < 0 := by omega
      simp only [hall']
      simp [hlt]
      refine w16 ?_
      simp
      exact fin
end Go.Proofs.Ytjljhmeadfejhaa
