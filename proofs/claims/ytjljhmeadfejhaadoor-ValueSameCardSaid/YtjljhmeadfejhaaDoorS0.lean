/- The shapes of the arguments: values. -/
import Derived.Test.YtjljhmeadfejhaaDoorRows
import Derived.Test.YtjljhmeadfejhaaDoorE23
import Derived.Test.YtjljhmeadfejhaaDoorD0
import Derived.HandedShaped
set_option maxRecDepth 100000
set_option linter.unusedVariables false
set_option linter.unusedSimpArgs false
namespace Go.Proofs.YtjljhmeadfejhaaDoor
open Go.Eng Go.ChangeShapes Go.WideShapes Go.ChangeAt Go.RowKit
def tys : List TypeId := [25, 2, 3, 9, 22, 23]
theorem okTys : okS Tryd.prog tys = true := by kernel_rfl
theorem own : ownKnob Tryd.prog.godebug = none := by kernel_rfl
theorem laidOut : laidOutB Tryd.prog = true := by kernel_rfl
theorem cells25 : Tryd.prog.cellsOf 25 = 5 := by kernel_rfl
theorem cells2 : Tryd.prog.cellsOf 2 = 1 := by kernel_rfl
theorem cells3 : Tryd.prog.cellsOf 3 = 1 := by kernel_rfl
theorem cells9 : Tryd.prog.cellsOf 9 = 1 := by kernel_rfl
theorem cells22 : Tryd.prog.cellsOf 22 = 1 := by kernel_rfl
theorem cells23 : Tryd.prog.cellsOf 23 = 1 := by kernel_rfl
theorem bytes25 : Tryd.prog.bytesOf 25 = 80 := by kernel_rfl
theorem bytes3 : Tryd.prog.bytesOf 3 = 8 := by kernel_rfl
theorem agg25 : aggT Tryd.prog 25 = true := by kernel_rfl
theorem agg3 : aggT Tryd.prog 3 = false := by kernel_rfl
theorem i64_of {k : Int} (h : (Lit.int .i64 k).wf = true) : I64 k := by
  simp [Lit.wf, IntKind.min, IntKind.max, IntKind.signed, IntKind.bits] at h
  exact h
theorem shp_list {n : Nat} {e : TypeId} {α : Type} {av : α → AV} {p : α → Prop} {es : List AV} (each : ∀ ys, Shp Tryd.prog n e ys → ∃ d : α, packT Tryd.prog e ys = av d ∧ p d)
    (h : ∀ y ∈ es, ∃ ys, y = packT Tryd.prog e ys ∧ ys.length = Tryd.prog.cellsOf e ∧ Shp Tryd.prog n e ys) : ∃ ds : List α, es = ds.map av ∧ ∀ d ∈ ds, p d := by
  induction es with
  | nil => exact ⟨[], rfl, fun d hd => by simp at hd⟩
  | cons y es ih =>
    obtain ⟨ds, rfl, hds⟩ := ih (fun z hz => h z (List.mem_cons_of_mem _ hz))
    obtain ⟨ys, rfl, _, hs⟩ := h y (List.mem_cons_self)
    obtain ⟨d, hd, hp⟩ := each ys hs
    refine ⟨d :: ds, by rw [hd]; rfl, fun x hx => ?_⟩
    rcases List.mem_cons.1 hx with rfl | hx
    · exact hp
    · exact hds x hx
theorem shp_int {n : Nat} {ys : List AV} (h : Shp Tryd.prog n 3 ys) : ∃ d : Int, packT Tryd.prog 3 ys = intA d ∧ I64 d := by
  cases n with
  | zero => exact h.elim
  | succ n =>
    simp only [Shp, Tryd.underlying3] at h
    obtain ⟨k, rfl, hk⟩ := h
    exact ⟨k, by simp only [packT, agg3]; rfl, i64_of hk⟩
theorem shp_val : ∀ (n : Nat) {xs : List AV}, Shp Tryd.prog n 25 xs → ∃ v : Val, xs = v.cells ∧ v.ok
  | 0, xs, h => h.elim
  | 1, xs, h => by
    simp only [Shp, Tryd.underlying25] at h
    simp only [ShpF, cells3, cells2, cells9, cells22, cells23] at h
    exact h.1.elim
  | 2, xs, h => by
    simp only [Shp, Tryd.underlying25] at h
    simp only [ShpF, cells3, cells2, cells9, cells22, cells23] at h
    obtain ⟨h1, h2, h3, h4, h5, h6⟩ := h
    simp only [Shp, Tryd.underlying3, Tryd.underlying2, Tryd.underlying9, Tryd.underlying22, Tryd.underlying23, bytes3] at h1 h2 h3 h4 h5
    obtain ⟨k, h1, hk⟩ := h1
    obtain ⟨m, h2, hm⟩ := h2
    obtain ⟨s, h3, hs⟩ := h3
    obtain ⟨es, h4, _, e4⟩ := h4
    obtain ⟨fs, h5, _, e5⟩ := h5
    have : es = [] := by
      cases es with
      | nil => rfl
      | cons y es => obtain ⟨_, _, _, f⟩ := e4 y (List.mem_cons_self); exact f.elim
    subst this
    have : fs = [] := by
      cases fs with
      | nil => rfl
      | cons y es => obtain ⟨_, _, _, f⟩ := e5 y (List.mem_cons_self); exact f.elim
    subst this
    refine ⟨.mk k m s [] [], ?_, i64_of hk, i64_of hm, hs, by simp [most], by simp, by simp [most], trivial⟩
    match xs, h1, h2, h3, h4, h5, h6 with
    | [a, b, c, d, e], h1, h2, h3, h4, h5, h6 => simp at h1 h2 h3 h4 h5; subst h1 h2 h3 h4 h5; rfl
    | a :: b :: c :: d :: e :: f :: r, _, _, _, _, _, h6 => simp at h6
  | n + 3, xs, h => by
    simp only [Shp, Tryd.underlying25] at h
    simp only [ShpF, cells3, cells2, cells9, cells22, cells23] at h
    obtain ⟨h1, h2, h3, h4, h5, h6⟩ := h
    simp only [Shp, Tryd.underlying3, Tryd.underlying2, Tryd.underlying9, Tryd.underlying22, Tryd.underlying23, bytes3, bytes25] at h1 h2 h3 h4 h5
    obtain ⟨k, h1, hk⟩ := h1
    obtain ⟨m, h2, hm⟩ := h2
    obtain ⟨s, h3, hs⟩ := h3
    obtain ⟨es, h4, b4, e4⟩ := h4
    obtain ⟨fs, h5, b5, e5⟩ := h5
    obtain ⟨ts, rfl, hts⟩ := shp_list (n := n + 1) (e := 3) (av := intA) (p := I64) (fun ys hs => shp_int hs) (by simpa only [Shp, Tryd.underlying3] using e4)
    obtain ⟨vs, rfl, hvs⟩ := shp_list (av := Val.av) (p := Val.ok) (fun ys hs => by
      obtain ⟨t, rfl, ht⟩ := shp_val (n + 1) hs
      exact ⟨t, by simp only [packT, agg25, if_true]; rfl, ht⟩) e5
    refine ⟨.mk k m s ts vs, ?_, i64_of hk, i64_of hm, hs, ?_, hts, ?_, (Val.okL_iff vs).2 hvs⟩
    · rw [Val.cells_eq]
      match xs, h1, h2, h3, h4, h5, h6 with
      | [a, b, c, d, e], h1, h2, h3, h4, h5, h6 => simp at h1 h2 h3 h4 h5; subst h1 h2 h3 h4 h5; rfl
      | a :: b :: c :: d :: e :: f :: r, _, _, _, _, _, h6 => simp at h6
    · simp only [List.length_map, reachBytes] at b4
      simp only [most]; omega
    · simp only [List.length_map, reachBytes] at b5
      simp only [most]; omega
theorem shp_value {n : Nat} {xs : List AV} (h : Shp Tryd.prog n 25 xs) : ∃ v : Val, packT Tryd.prog 25 xs = v.av ∧ v.ok := by
  obtain ⟨v, rfl, hv⟩ := shp_val n h
  exact ⟨v, by simp only [packT, agg25, if_true]; rfl, hv⟩
end Go.Proofs.YtjljhmeadfejhaaDoor
