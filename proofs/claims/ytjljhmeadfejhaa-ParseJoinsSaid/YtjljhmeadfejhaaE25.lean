/- The engine, part 25: loops over a number; forgetting, more. -/
import Derived.Test.YtjljhmeadfejhaaE24
set_option linter.unusedVariables false
set_option linter.unusedSimpArgs false
namespace Go.Eng
mutual
theorem AV.bel_mono {n m : Nat} (hnm : n ≤ m) : ∀ (x : AV), x.bel n = true → x.bel m = true := by
  intro x e
  cases x with
  | agg l => simp only [AV.bel] at e ⊢; exact belL_mono hnm l e
  | tup l => simp only [AV.bel] at e ⊢; exact belL_mono hnm l e
  | iface t x => simp only [AV.bel] at e ⊢; exact AV.bel_mono hnm x e
  | fn g a b => simp only [AV.bel, Bool.and_eq_true] at e ⊢; exact ⟨belL_mono hnm a e.1, belL_mono hnm b e.2⟩
  | _ => simp_all [AV.bel] <;> omega
theorem belL_mono {n m : Nat} (hnm : n ≤ m) : ∀ (l : List AV), belL n l = true → belL m l = true := by
  intro l e
  cases l with
  | nil => rfl
  | cons x l => simp only [belL, Bool.and_eq_true] at e ⊢; exact ⟨AV.bel_mono hnm x e.1, belL_mono hnm l e.2⟩
end
theorem AO.bel_mono {n m : Nat} (hnm : n ≤ m) : ∀ (o : AO), o.bel n = true → o.bel m = true := by
  intro o e
  cases o with
  | box cs => exact belL_mono hnm cs e
  | map es => simp only [AO.bel, List.all_eq_true] at e ⊢; exact fun x hx => AV.bel_mono hnm _ (e x hx)
  | _ => rfl
theorem all_bel_mono {n m : Nat} (hnm : n ≤ m) {l : List AO} (e : l.all (AO.bel n) = true) : l.all (AO.bel m) = true := by
  rw [List.all_eq_true] at e ⊢
  exact fun o ho => AO.bel_mono hnm o (e o ho)

/-- A register is given another value, where it stands. -/
def setF : Fr → Nat → AV → Fr
  | [], _, _ => []
  | (j, y) :: f, i, x => if i = j then (j, x) :: f else (j, y) :: setF f i x
@[simp] theorem setF_nil {i : Nat} {x : AV} : setF [] i x = [] := rfl
@[simp] theorem setF_cons {i j : Nat} {x y : AV} {f : Fr} : setF ((j, y) :: f) i x = if i = j then (j, x) :: f else (j, y) :: setF f i x := rfl

section
variable {C : Ctx} {k : List KI} {keep : List Nat} {a : AC} {f : Fr} {h : List AO}
theorem lp_indE {ι : Type} (Inv : ι → Prop) (μ : ι → Nat) (F : ι → Fr) (H : ι → List AO)
    (step : ∀ i, Inv i → (∀ j, Inv j → μ j < μ i → LP C keep a k (F j) (H j)) → R C a (.lp keep a :: k) (keepF keep (F i)) (H i)) (i : ι) (hi : Inv i) (hf : F i = f) (hh : H i = h) : LP C keep a k f h := by
  subst hf hh
  exact lp_ind Inv μ F H step i hi
/-- A loop over a number that grows up to n. -/
theorem lp_for (n : Nat) (Inv : Nat → Prop) (G : Nat → Fr → Fr) (H : Nat → List AO)
    (step : ∀ i, i ≤ n → Inv i → (i + 1 ≤ n → Inv (i + 1) → LP C keep a k (G (i + 1) f) (H (i + 1))) → R C a (.lp keep a :: k) (keepF keep (G i f)) (H i)) (hi : Inv 0) (hf : G 0 f = f) (hh : H 0 = h) : LP C keep a k f h :=
  lp_indE (ι := Nat) (fun i => i ≤ n ∧ Inv i) (fun i => n - i) (fun i => G i f) H (fun i ⟨h1, h2⟩ ih => step i h1 h2 fun h3 h4 => ih (i + 1) ⟨h3, h4⟩ (by omega)) 0 ⟨by omega, hi⟩ hf hh
end
theorem lp_cutA {P : Pg} {h l A B : List AO} {res : List ARV} {K : ARes → List AO → Prop} {keep : List Nat} {a : AC} {k : List KI} {f f' : Fr} (e : l = A ++ B) (H : A.all (AO.bel (h.length + A.length)) = true)
    (hf : outF (h.length + A.length) (h ++ l) 3 (keepF keep f) = some f') (L : LP ⟨P, h, res, K⟩ keep a k f' (h ++ A)) : LP ⟨P, h, res, K⟩ keep a k f (h ++ l) := by
  subst e
  exact lp_cut A.length (by rw [List.take_left]; exact H) hf (by rw [List.take_left]; exact L)
/-- Code is opened where it is run, and nowhere else. -/
theorem uf {C : Ctx} {k : List KI} {f : Fr} {h : List AO} {c c' : AC} (e : c = c') : R C c k f h = R C c' k f h := by rw [e]
theorem wrap_succ {i : Nat} (hi : i < 9223372036854775807) : IntKind.i64.wrap ((i : Int) + 1) = ((i + 1 : Nat) : Int) := by
  rw [wrap_i64 _ (by omega) (by omega)]; omega
end Go.Eng
