/- The shapes of the arguments: declarations and texts. -/
import Derived.Test.YtjljhmeadfejhaaRows
import Derived.Test.YtjljhmeadfejhaaE23
import Derived.Test.YtjljhmeadfejhaaT0
set_option maxRecDepth 100000
set_option linter.unusedVariables false
set_option linter.unusedSimpArgs false
namespace Go.Proofs.Ytjljhmeadfejhaa
open Go.Eng Go.ChangeShapes Go.WideShapes Go.ChangeAt Go.RowKit
def tys : List TypeId := [22, 34, 3, 9, 31, 32, 76, 42, 74, 60, 4, 38]
theorem okTys : okS Try.prog tys = true := by kernel_rfl
theorem own : ownKnob Try.prog.godebug = none := by kernel_rfl
theorem laidOut : laidOutB Try.prog = true := by kernel_rfl
theorem cells34 : Try.prog.cellsOf 34 = 5 := by kernel_rfl
theorem cells3 : Try.prog.cellsOf 3 = 1 := by kernel_rfl
theorem cells9 : Try.prog.cellsOf 9 = 1 := by kernel_rfl
theorem cells31 : Try.prog.cellsOf 31 = 1 := by kernel_rfl
theorem cells32 : Try.prog.cellsOf 32 = 1 := by kernel_rfl
theorem bytes34 : Try.prog.bytesOf 34 = 80 := by kernel_rfl

theorem shp_decl {n : Nat} {xs : List AV} (h : Shp Try.prog n 34 xs) : ∃ d : Decl, packT Try.prog 34 xs = d.av := by
  cases n with
  | zero => exact h.elim
  | succ n =>
    simp only [Shp, Try.underlying34] at h
    simp only [ShpF, cells3, cells9, cells31, cells32] at h
    obtain ⟨h1, h2, h3, h4, h5, h6⟩ := h
    cases n with
    | zero => exact h1.elim
    | succ n =>
      simp only [Shp, Try.underlying3, Try.underlying9, Try.underlying31, Try.underlying32] at h1 h2 h3 h4 h5
      obtain ⟨k, h1, _⟩ := h1
      obtain ⟨s, h2, _⟩ := h2
      obtain ⟨fs, h3, _⟩ := h3
      obtain ⟨ms, h4, _⟩ := h4
      obtain ⟨e, h5, _⟩ := h5
      refine ⟨⟨k, s, fs, ms, e⟩, ?_⟩
      simp only [packT, show aggT Try.prog 34 = true by kernel_rfl, if_true, Decl.av]
      congr 1
      match xs, h1, h2, h3, h4, h5, h6 with
      | [a, b, c, d, f], h1, h2, h3, h4, h5, h6 => simp at h1 h2 h3 h4 h5; subst h1 h2 h3 h4 h5; rfl
      | a :: b :: c :: d :: f :: g :: r, _, _, _, _, _, h6 => simp at h6
theorem shp_decls {n : Nat} {xs : List AV} (h : Shp Try.prog n 22 xs) : ∃ ds : List Decl, packT Try.prog 22 xs = .rsl (ds.map Decl.av) ∧ ds.length < 2199023255552 := by
  cases n with
  | zero => exact h.elim
  | succ n =>
    simp only [Shp, Try.underlying22, bytes34] at h
    obtain ⟨es, rfl, h1, h2⟩ := h
    have : ∀ (es : List AV), (∀ y ∈ es, ∃ ys, y = packT Try.prog 34 ys ∧ ys.length = Try.prog.cellsOf 34 ∧ Shp Try.prog n 34 ys) → ∃ ds : List Decl, es = ds.map Decl.av := by
      intro es
      induction es with
      | nil => intro _; exact ⟨[], rfl⟩
      | cons y es ih =>
        intro H
        obtain ⟨ds, rfl⟩ := ih (fun z hz => H z (List.mem_cons_of_mem _ hz))
        obtain ⟨ys, rfl, _, hs⟩ := H y (List.mem_cons_self)
        obtain ⟨d, hd⟩ := shp_decl hs
        exact ⟨d :: ds, by rw [hd]; rfl⟩
    obtain ⟨ds, rfl⟩ := this es h2
    refine ⟨ds, by simp only [packT, show aggT Try.prog 22 = false by kernel_rfl]; rfl, ?_⟩
    simp only [List.length_map, reachBytes] at h1
    omega
theorem shp_str {n : Nat} {xs : List AV} (h : Shp Try.prog n 9 xs) : ∃ s, packT Try.prog 9 xs = .str s := by
  cases n with
  | zero => exact h.elim
  | succ n =>
    simp only [Shp, Try.underlying9] at h
    obtain ⟨s, rfl, _⟩ := h
    exact ⟨s, by simp only [packT, show aggT Try.prog 9 = false by kernel_rfl]; rfl⟩
end Go.Proofs.Ytjljhmeadfejhaa
