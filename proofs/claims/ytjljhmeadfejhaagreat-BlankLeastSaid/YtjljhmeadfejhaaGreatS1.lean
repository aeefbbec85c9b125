/- The shapes of the arguments: values, texts. -/
import Derived.Test.YtjljhmeadfejhaaGreatS0
import Derived.Test.YtjljhmeadfejhaaGreatD1
import Derived.HandedShaped
set_option maxRecDepth 100000
set_option linter.unusedVariables false
set_option linter.unusedSimpArgs false
namespace Go.Proofs.YtjljhmeadfejhaaGreat
open Go.Eng Go.ChangeShapes Go.WideShapes Go.ChangeAt Go.RowKit
def tysV : List TypeId := [29, 36, 3, 9, 32, 34, 41, 69, 39, 37, 4, 47, 2, 44, 45]
theorem okTysV : okS Tryz.prog tysV = true := by kernel_rfl
theorem cells47 : Tryz.prog.cellsOf 47 = 5 := by kernel_rfl
theorem cells2 : Tryz.prog.cellsOf 2 = 1 := by kernel_rfl
theorem cells44 : Tryz.prog.cellsOf 44 = 1 := by kernel_rfl
theorem cells45 : Tryz.prog.cellsOf 45 = 1 := by kernel_rfl
theorem bytes47 : Tryz.prog.bytesOf 47 = 80 := by kernel_rfl
theorem bytes3 : Tryz.prog.bytesOf 3 = 8 := by kernel_rfl
theorem agg47 : aggT Tryz.prog 47 = true := by kernel_rfl
theorem agg3 : aggT Tryz.prog 3 = false := by kernel_rfl
theorem shp_int {n : Nat} {ys : List AV} (h : Shp Tryz.prog n 3 ys) : ∃ d : Int, packT Tryz.prog 3 ys = intA d ∧ I64 d := by
  cases n with
  | zero => exact h.elim
  | succ n =>
    simp only [Shp, Tryz.underlying3] at h
    obtain ⟨k, rfl, hk⟩ := h
    exact ⟨k, by simp only [packT, agg3]; rfl, i64_of hk⟩
theorem shp_val : ∀ (n : Nat) {xs : List AV}, Shp Tryz.prog n 47 xs → ∃ v : Val, xs = v.cells ∧ v.ok
  | 0, xs, h => h.elim
  | 1, xs, h => by
    simp only [Shp, Tryz.underlying47] at h
    simp only [ShpF, cells3, cells2, cells9, cells44, cells45] at h
    exact h.1.elim
  | 2, xs, h => by
    simp only [Shp, Tryz.underlying47] at h
    simp only [ShpF, cells3, cells2, cells9, cells44, cells45] at h
    obtain ⟨h1, h2, h3, h4, h5, h6⟩ := h
    simp only [Shp, Tryz.underlying3, Tryz.underlying2, Tryz.underlying9, Tryz.underlying44, Tryz.underlying45, bytes3] at h1 h2 h3 h4 h5
    obtain ⟨k, h1, hk⟩ := h1
    obtain ⟨m, h2, hm⟩ := h2
    obtain ⟨s, h3, hs⟩ := h3
    obtain ⟨es, h4, _, e4⟩ := h4
    obtain ⟨fs, h5, _, e5⟩ := h5
    have : es = [] := by
      cases es with
      | nil => rfl
      | cons y es => obtain ⟨_, _, _, f⟩ := e4 y (List.mem_cons_self); exact f.elim
    subst this
    have : fs = [] := by
      cases fs with
      | nil => rfl
      | cons y es => obtain ⟨_, _, _, f⟩ := e5 y (List.mem_cons_self); exact f.elim
    subst this
    refine ⟨.mk k m s [] [], ?_, i64_of hk, i64_of hm, hs, by simp [most], by simp, by simp [most], trivial⟩
    match xs, h1, h2, h3, h4, h5, h6 with
    | [a, b, c, d, e], h1, h2, h3, h4, h5, h6 => simp at h1 h2 h3 h4 h5; subst h1 h2 h3 h4 h5; rfl
    | a :: b :: c :: d :: e :: f :: r, _, _, _, _, _, h6 => simp at h6
  | n + 3, xs, h => by
    simp only [Shp, Tryz.underlying47] at h
    simp only [ShpF, cells3, cells2, cells9, cells44, cells45] at h
    obtain ⟨h1, h2, h3, h4, h5, h6⟩ := h
    simp only [Shp, Tryz.underlying3, Tryz.underlying2, Tryz.underlying9, Tryz.underlying44, Tryz.underlying45, bytes3, bytes47] at h1 h2 h3 h4 h5
    obtain ⟨k, h1, hk⟩ := h1
    obtain ⟨m, h2, hm⟩ := h2
    obtain ⟨s, h3, hs⟩ := h3
    obtain ⟨es, h4, b4, e4⟩ := h4
    obtain ⟨fs, h5, b5, e5⟩ := h5
    obtain ⟨ts, rfl, hts⟩ := shp_list (n := n + 1) (e := 3) (av := intA) (p := I64) (fun ys hs => shp_int hs) (by simpa only [Shp, Tryz.underlying3] using e4)
    obtain ⟨vs, rfl, hvs⟩ := shp_list (av := Val.av) (p := Val.ok) (fun ys hs => by
      obtain ⟨t, rfl, ht⟩ := shp_val (n + 1) hs
      exact ⟨t, by simp only [packT, agg47, if_true]; rfl, ht⟩) e5
    refine ⟨.mk k m s ts vs, ?_, i64_of hk, i64_of hm, hs, ?_, hts, ?_, (Val.okL_iff vs).2 hvs⟩
    · rw [Val.cells_eq]
      match xs, h1, h2, h3, h4, h5, h6 with
      | [a, b, c, d, e], h1, h2, h3, h4, h5, h6 => simp at h1 h2 h3 h4 h5; subst h1 h2 h3 h4 h5; rfl
      | a :: b :: c :: d :: e :: f :: r, _, _, _, _, _, h6 => simp at h6
    · simp only [List.length_map, reachBytes] at b4
      simp only [most]; omega
    · simp only [List.length_map, reachBytes] at b5
      simp only [most]; omega
theorem shp_value {n : Nat} {xs : List AV} (h : Shp Tryz.prog n 47 xs) : ∃ v : Val, packT Tryz.prog 47 xs = v.av ∧ v.ok := by
  obtain ⟨v, rfl, hv⟩ := shp_val n h
  exact ⟨v, by simp only [packT, agg47, if_true]; rfl, hv⟩
theorem shp_strR {n : Nat} {xs : List AV} (h : Shp Tryz.prog n 9 xs) : ∃ s, packT Tryz.prog 9 xs = .str s ∧ s.size ≤ reachBytes := by
  cases n with
  | zero => exact h.elim
  | succ n =>
    simp only [Shp, Tryz.underlying9] at h
    obtain ⟨s, rfl, hs⟩ := h
    exact ⟨s, by simp only [packT, show aggT Tryz.prog 9 = false by kernel_rfl]; rfl, hs⟩
theorem rels3 {φ : Nat → Eng.Loc} {w : World} {x y z : AV} {v u t : Value} (r : Rel [] φ w (Old w) false x v) (r' : Rel [] φ w (Old w) false y u) (r'' : Rel [] φ w (Old w) false z t) : Rels [] φ w (Old w) [x, y, z] #[v, u, t] :=
  ⟨rfl, fun j a b ha hb => by
    match j with
    | 0 => simp at ha hb; subst ha hb; exact r.up
    | 1 => simp at ha hb; subst ha hb; exact r'.up
    | 2 => simp at ha hb; subst ha hb; exact r''.up
    | j + 3 => simp at ha⟩
end Go.Proofs.YtjljhmeadfejhaaGreat
