/- small and Great, about the engine. -/
import Derived.Test.YtjljhmeadfejhaaGreatC0
import Derived.Test.YtjljhmeadfejhaaGreatD0
import Derived.Test.YtjljhmeadfejhaaGreatME4
set_option maxRecDepth 100000
set_option linter.unusedVariables false
set_option linter.unusedSimpArgs false
namespace Go.Proofs.YtjljhmeadfejhaaGreat
open Go.Eng
theorem mixed : Tryz.prog.follows .mixedOrders = true := by kernel_rfl
abbrev W := WC (intPg Tryz.prog 0 .i64)
theorem ret_pure {h l : List AO} {K : ARes → List AO → Prop} {x : AV} (hx : out h.length (h ++ l) 3 x = some x) (k : K (.ok x) h) : retK h K x (h ++ l) :=
  .inr ⟨h.length, 3, x, DropOk.app h l, hx, by rw [List.take_left]; exact k⟩
mutual
def Ty.small : Ty → Int → Bool
  | .mk _ _ l, d => !(decide (20 < d) || decide (3 < l.length)) && Ty.smallL l (d + 1)
def Ty.smallL : List Ty → Int → Bool
  | [], _ => true
  | t :: l, d => t.small d && Ty.smallL l (d + 2)
end
theorem Ty.small_eq (t : Ty) (d : Int) : t.small d = (!(decide (20 < d) || decide (3 < t.of.length)) && Ty.smallL t.of (d + 1)) := by cases t; rfl
theorem Ty.lt_of_mem {t u : Ty} (h : u ∈ t.of) : SizeOf.sizeOf u < SizeOf.sizeOf t := by
  cases t with
  | mk k s l =>
    have := List.sizeOf_lt_of_mem h
    simp only [Ty.of, Ty.mk.sizeOf_spec] at this ⊢
    omega
theorem smallL_step {l : List Ty} {i : Nat} (hi : i < l.length) {d : Int} : Ty.smallL (l.drop i) (d + 2 * i) = (l[i].small (d + 2 * i) && Ty.smallL (l.drop (i + 1)) (d + 2 * ((i + 1 : Nat) : Int))) := by
  rw [List.drop_eq_getElem_cons hi, Ty.smallL]
  congr 2
  omega

theorem w53 : ∀ (n : Nat) (t : Ty), SizeOf.sizeOf t ≤ n → ∀ (h : List AO) (deep : Int) (K : ARes → List AO → Prop), 0 ≤ deep → deep ≤ 100 → K (.ok (.bool (t.small deep))) h →
    W 53 [.agg [.int .i64 t.kind, .str t.name, .rsl (t.of.map Ty.av)], .int .i64 deep] h K := by
  intro n
  induction n with
  | zero => intro t ht; cases t; simp at ht
  | succ n IH =>
    intro t ht h deep K h0 h1 k
    have IHm : ∀ u ∈ t.of, SizeOf.sizeOf u ≤ n := fun u hu => by have := Ty.lt_of_mem hu; omega
    refine W_of mixed c53 (by simp [A53]) ?_
    by_cases hd : 20 < deep
    · simp [A53, hd]
      refine ret_pure (by simp) ?_
      rw [Ty.small_eq] at k
      simpa [hd] using k
    · by_cases hl : (3 : Int) < (t.of.length : Int)
      · have hl' : 3 < t.of.length := by omega
        simp [A53, hd, hl]
        refine ret_pure (by simp) ?_
        rw [Ty.small_eq] at k
        simpa [hd, hl'] using k
      · have hl' : ¬ 3 < t.of.length := by omega
        rw [Ty.small_eq] at k
        simp [hd, hl'] at k
        simp [A53, hd, hl]
        refine lp_ind (ι := Nat) (fun i => i ≤ t.of.length ∧ Ty.smallL t.of (deep + 1) = Ty.smallL (t.of.drop i) (deep + 1 + 2 * (i : Int))) (fun i => t.of.length - i) (fun i => [(1, .int .i64 deep), (2, .ptr h.length 0), (5, .int .i64 (i : Int))])
          (fun i => h ++ [.box [.int .i64 t.kind, .str t.name, .rsl (t.of.map Ty.av)]]) ?_ 0 ⟨by omega, by simp⟩
        intro i ⟨hi, hs⟩ ih
        have hw : IntKind.i64.wrap ((i : Int) + 1) = ((i + 1 : Nat) : Int) := by rw [wrap_i64 _ (by omega) (by omega)]; omega
        by_cases hlt : i < t.of.length
        · have w1 : IntKind.i64.wrap (deep + 1) = deep + 1 := wrap_i64 _ (by omega) (by omega)
          have w2 : IntKind.i64.wrap (2 * (i : Int)) = 2 * (i : Int) := wrap_i64 _ (by omega) (by omega)
          have w3 : IntKind.i64.wrap (deep + 1 + 2 * (i : Int)) = deep + 1 + 2 * (i : Int) := wrap_i64 _ (by omega) (by omega)
          simp [A53_l0, hlt, Ty.av, Ty.cells_eq, w1, w2, w3]
          refine IH t.of[i] (IHm _ (List.getElem_mem hlt)) _ _ _ (by omega) (by omega) ?_
          rw [smallL_step hlt] at hs
          cases hb : t.of[i].small (deep + 1 + 2 * (i : Int)) with
          | true =>
            rw [hb] at hs
            simp at hs
            simp [hw]
            exact ih (i + 1) ⟨by omega, by simpa using hs⟩ (by omega)
          | false =>
            rw [hb] at hs
            simp at hs
            simp
            refine ret_pure (by simp) ?_
            rw [hs] at k
            exact k
        · have : t.of.drop i = [] := List.drop_eq_nil_of_le (by omega)
          rw [this] at hs
          simp [A53_l0, A53_r0, hlt]
          refine ret_pure (by simp) ?_
          simp [Ty.smallL] at hs
          rw [hs] at k
          exact k

def fldsSmall : List Fld → Bool
  | [] => true
  | f :: l => f.ty.small 0 && fldsSmall l
def Decl.great (d : Decl) (i : Nat) : Bool := decide (20 < i) || decide (30 < d.fields.length) || decide (30 < d.methods.length) || !fldsSmall d.fields
def greatFrom : Nat → List Decl → Bool
  | _, [] => false
  | i, d :: l => d.great i || greatFrom (i + 1) l
theorem great_step {ds : List Decl} {i : Nat} (hi : i < ds.length) : greatFrom i (ds.drop i) = (ds[i].great i || greatFrom (i + 1) (ds.drop (i + 1))) := by
  rw [List.drop_eq_getElem_cons hi]; rfl
theorem flds_step {l : List Fld} {i : Nat} (hi : i < l.length) : fldsSmall (l.drop i) = (l[i].ty.small 0 && fldsSmall (l.drop (i + 1))) := by
  rw [List.drop_eq_getElem_cons hi]; rfl

theorem w17 {h : List AO} {ds : List Decl} {K : ARes → List AO → Prop} (hl : ds.length < 2199023255552) (hok : ∀ d ∈ ds, d.ok) (k : K (.ok (.bool (greatFrom 0 ds))) h) : W 17 [.rsl (ds.map Decl.av)] h K := by
  refine W_of mixed c17 (by simp [A17]) ?_
  simp [A17]
  refine lp_ind (ι := Nat) (fun i => i ≤ ds.length ∧ greatFrom 0 ds = greatFrom i (ds.drop i)) (fun i => ds.length - i) (fun i => [(0, .rsl (ds.map Decl.av)), (3, .int .i64 (i : Int))]) (fun i => h) ?_ 0 ⟨by omega, by simp⟩
  intro i ⟨hi, hg⟩ ih
  have hw : IntKind.i64.wrap ((i : Int) + 1) = ((i + 1 : Nat) : Int) := by rw [wrap_i64 _ (by omega) (by omega)]; omega
  by_cases hlt : i < ds.length
  · rw [great_step hlt] at hg
    obtain ⟨_, _, hf, hm, _⟩ := hok _ (List.getElem_mem hlt)
    simp only [most] at hf hm
    by_cases c1 : (20 : Int) < (i : Int)
    · have c1' : 20 < i := by omega
      simp [A17_l1, hlt, Decl.av, c1]
      simp [Decl.great, c1'] at hg
      rw [hg] at k
      exact .inl k
    · have c1' : ¬ 20 < i := by omega
      by_cases c2 : (30 : Int) < (ds[i].fields.length : Int)
      · have c2' : 30 < ds[i].fields.length := by omega
        simp [A17_l1, hlt, Decl.av, c1, c2]
        simp [Decl.great, c2'] at hg
        rw [hg] at k
        exact .inl k
      · have c2' : ¬ 30 < ds[i].fields.length := by omega
        by_cases c3 : (30 : Int) < (ds[i].methods.length : Int)
        · have c3' : 30 < ds[i].methods.length := by omega
          simp [A17_l1, hlt, Decl.av, c1, c2, c3]
          simp [Decl.great, c3'] at hg
          rw [hg] at k
          exact .inl k
        · have c3' : ¬ 30 < ds[i].methods.length := by omega
          simp [A17_l1, hlt, Decl.av, c1, c2, c3]
          have hgr : ds[i].great i = !fldsSmall ds[i].fields := by simp [Decl.great, c1', c2', c3']
          rw [hgr] at hg
          refine lp_ind (ι := Nat) (fun q => q ≤ ds[i].fields.length ∧ fldsSmall ds[i].fields = fldsSmall (ds[i].fields.drop q)) (fun q => ds[i].fields.length - q) (fun q => [(0, .rsl (ds.map Decl.av)), (3, .int .i64 (i : Int)), (4, .int .i64 (q : Int))]) (fun q => h) ?_ 0 ⟨by omega, by simp⟩
          intro q ⟨hq, hs⟩ ihq
          have hwq : IntKind.i64.wrap ((q : Int) + 1) = ((q + 1 : Nat) : Int) := by rw [wrap_i64 _ (by omega) (by omega)]; omega
          by_cases hql : q < ds[i].fields.length
          · rw [flds_step hql] at hs
            simp [A17_l0, hlt, hql, Decl.av, Fld.av]
            refine w53 _ ds[i].fields[q].ty (Nat.le_refl _) _ _ _ (by omega) (by omega) ?_
            cases hb : ds[i].fields[q].ty.small 0 with
            | true =>
              rw [hb] at hs
              simp at hs
              simp [hwq]
              exact ihq (q + 1) ⟨by omega, hs⟩ (by omega)
            | false =>
              rw [hb] at hs
              simp at hs
              simp
              simp [hs] at hg
              rw [hg] at k
              exact .inl k
          · have : ds[i].fields.drop q = [] := List.drop_eq_nil_of_le (by omega)
            rw [this] at hs
            simp [fldsSmall] at hs
            simp [hs] at hg
            simp [A17_l0, A17_r0, hlt, hql, Decl.av, hw]
            exact ih (i + 1) ⟨by omega, hg⟩ (by omega)
  · have : ds.drop i = [] := List.drop_eq_nil_of_le (by omega)
    rw [this] at hg
    simp [A17_l1, A17_r1, hlt]
    simp [greatFrom] at hg
    rw [hg] at k
    exact .inl k
end Go.Proofs.YtjljhmeadfejhaaGreat
