/- The shapes of the arguments: declarations and texts. -/
import Derived.Test.YtjljhmeadfejhaaRows
import Derived.Test.YtjljhmeadfejhaaE23
import Derived.Test.YtjljhmeadfejhaaT0
set_option maxRecDepth 100000
set_option linter.unusedVariables false
set_option linter.unusedSimpArgs false
namespace Go.Proofs.Ytjljhmeadfejhaa
open Go.Eng Go.ChangeShapes Go.WideShapes Go.ChangeAt Go.RowKit
def tys : List TypeId := [22, 34, 3, 9, 31, 32, 76, 42, 74, 60, 4, 38]
theorem okTys : okS Try.prog tys = true := by kernel_rfl
theorem own : ownKnob Try.prog.godebug = none := by kernel_rfl
theorem laidOut : laidOutB Try.prog = true := by kernel_rfl
theorem cells34 : Try.prog.cellsOf 34 = 5 := by kernel_rfl
theorem cells3 : Try.prog.cellsOf 3 = 1 := by kernel_rfl
theorem cells9 : Try.prog.cellsOf 9 = 1 := by kernel_rfl
theorem cells31 : Try.prog.cellsOf 31 = 1 := by kernel_rfl
theorem cells32 : Try.prog.cellsOf 32 = 1 := by kernel_rfl
theorem bytes34 : Try.prog.bytesOf 34 = 80 := by kernel_rfl

theorem cells4 : Try.prog.cellsOf 4 = 1 := by kernel_rfl
theorem cells60 : Try.prog.cellsOf 60 = 1 := by kernel_rfl
theorem cells74 : Try.prog.cellsOf 74 = 3 := by kernel_rfl
theorem aggs : aggT Try.prog 34 = true ∧ aggT Try.prog 76 = true ∧ aggT Try.prog 42 = true ∧ aggT Try.prog 74 = true := ⟨by kernel_rfl, by kernel_rfl, by kernel_rfl, by kernel_rfl⟩

theorem i64_of {k : Int} (h : (Lit.int .i64 k).wf = true) : I64 k := by
  simp [Lit.wf, IntKind.min, IntKind.max, IntKind.signed, IntKind.bits] at h
  exact h
theorem bytes76 : Try.prog.bytesOf 76 = 72 := by kernel_rfl
theorem bytes42 : Try.prog.bytesOf 42 = 64 := by kernel_rfl
theorem bytes74 : Try.prog.bytesOf 74 = 48 := by kernel_rfl
theorem shp_list {n : Nat} {e : TypeId} {α : Type} {av : α → AV} {p : α → Prop} {es : List AV} (each : ∀ ys, Shp Try.prog n e ys → ∃ d : α, packT Try.prog e ys = av d ∧ p d)
    (h : ∀ y ∈ es, ∃ ys, y = packT Try.prog e ys ∧ ys.length = Try.prog.cellsOf e ∧ Shp Try.prog n e ys) : ∃ ds : List α, es = ds.map av ∧ ∀ d ∈ ds, p d := by
  induction es with
  | nil => exact ⟨[], rfl, fun d hd => by simp at hd⟩
  | cons y es ih =>
    obtain ⟨ds, rfl, hds⟩ := ih (fun z hz => h z (List.mem_cons_of_mem _ hz))
    obtain ⟨ys, rfl, _, hs⟩ := h y (List.mem_cons_self)
    obtain ⟨d, hd, hp⟩ := each ys hs
    refine ⟨d :: ds, by rw [hd]; rfl, fun x hx => ?_⟩
    rcases List.mem_cons.1 hx with rfl | hx
    · exact hp
    · exact hds x hx
theorem shp_ty : ∀ (n : Nat) {xs : List AV}, Shp Try.prog n 74 xs → ∃ t : Ty, xs = t.cells ∧ t.ok
  | 0, xs, h => h.elim
  | 1, xs, h => by
    simp only [Shp, Try.underlying74] at h
    simp only [ShpF, cells3, cells9, cells60] at h
    exact h.1.elim
  | 2, xs, h => by
    simp only [Shp, Try.underlying74] at h
    simp only [ShpF, cells3, cells9, cells60] at h
    obtain ⟨h1, h2, h3, h4⟩ := h
    simp only [Shp, Try.underlying3, Try.underlying9, Try.underlying60] at h1 h2 h3
    obtain ⟨k, h1, hk⟩ := h1
    obtain ⟨s, h2, hs⟩ := h2
    obtain ⟨es, h3, _, h5⟩ := h3
    have : es = [] := by
      cases es with
      | nil => rfl
      | cons y es => obtain ⟨_, _, _, f⟩ := h5 y (List.mem_cons_self); exact f.elim
    subst this
    refine ⟨.mk k s [], ?_, i64_of hk, hs, by simp [most], trivial⟩
    match xs, h1, h2, h3, h4 with
    | [a, b, c], h1, h2, h3, h4 => simp at h1 h2 h3; subst h1 h2 h3; rfl
    | a :: b :: c :: d :: r, _, _, _, h4 => simp at h4
  | n + 3, xs, h => by
    simp only [Shp, Try.underlying74] at h
    simp only [ShpF, cells3, cells9, cells60] at h
    obtain ⟨h1, h2, h3, h4⟩ := h
    simp only [Shp, Try.underlying3, Try.underlying9, Try.underlying60, bytes74] at h1 h2 h3
    obtain ⟨k, h1, hk⟩ := h1
    obtain ⟨s, h2, hs⟩ := h2
    obtain ⟨es, h3, hb, h5⟩ := h3
    obtain ⟨ts, rfl, hts⟩ := shp_list (av := Ty.av) (p := Ty.ok) (fun ys hs => by
      obtain ⟨t, rfl, ht⟩ := shp_ty (n + 1) hs
      exact ⟨t, by simp only [packT, aggs.2.2.2, if_true]; rfl, ht⟩) h5
    refine ⟨.mk k s ts, ?_, i64_of hk, hs, ?_, (Ty.okL_iff ts).2 hts⟩
    · rw [Ty.cells_eq]
      match xs, h1, h2, h3, h4 with
      | [a, b, c], h1, h2, h3, h4 => simp at h1 h2 h3; subst h1 h2 h3; rfl
      | a :: b :: c :: d :: r, _, _, _, h4 => simp at h4
    · simp only [List.length_map, reachBytes] at hb
      simp only [most]; omega
theorem shp_fld {n : Nat} {xs : List AV} (h : Shp Try.prog n 76 xs) : ∃ f : Fld, packT Try.prog 76 xs = f.av ∧ f.ok := by
  match n, h with
  | 0, h => exact h.elim
  | 1, h =>
    simp only [Shp, Try.underlying76] at h
    simp only [ShpF, cells3, cells9, cells74] at h
    exact h.1.elim
  | n + 2, h =>
    simp only [Shp, Try.underlying76] at h
    simp only [ShpF, cells3, cells9, cells74] at h
    obtain ⟨h1, h2, h3, h4⟩ := h
    obtain ⟨t, g3, ht⟩ := shp_ty (n + 1) h3
    rw [Ty.cells_eq] at g3
    simp only [Shp, Try.underlying3, Try.underlying9] at h1 h2
    obtain ⟨k, g1, hk⟩ := h1
    obtain ⟨s, g2, hs⟩ := h2
    refine ⟨⟨k, s, t⟩, ?_, i64_of hk, hs, ht⟩
    simp only [packT, aggs.2.1, if_true, Fld.av]
    congr 1
    clear h3
    match xs, g1, g2, g3, h4 with
    | [a, b, c, d, e], g1, g2, g3, h4 =>
      simp at g1 g2 g3
      obtain ⟨rfl, rfl, rfl⟩ := g3
      subst g1 g2
      rfl
    | a :: b :: c :: d :: e :: f :: r, _, _, _, h4 => simp at h4
theorem shp_mth {n : Nat} {xs : List AV} (h : Shp Try.prog n 42 xs) : ∃ f : Mth, packT Try.prog 42 xs = f.av ∧ f.ok := by
  match n, h with
  | 0, h => exact h.elim
  | 1, h =>
    simp only [Shp, Try.underlying42] at h
    simp only [ShpF, cells3, cells9, cells4] at h
    exact h.1.elim
  | n + 2, h =>
    simp only [Shp, Try.underlying42] at h
    simp only [ShpF, cells3, cells9, cells4] at h
    obtain ⟨h1, h2, h3, h4, h5, h6⟩ := h
    simp only [Shp, Try.underlying3, Try.underlying9, Try.underlying4] at h1 h2 h3 h4 h5
    obtain ⟨k, h1, hk⟩ := h1
    obtain ⟨s, h2, hs⟩ := h2
    obtain ⟨i, h3, hi⟩ := h3
    obtain ⟨o, h4, ho⟩ := h4
    obtain ⟨b, h5⟩ := h5
    refine ⟨⟨k, s, i, o, b⟩, ?_, i64_of hk, hs, hi, ho⟩
    simp only [packT, aggs.2.2.1, if_true, Mth.av]
    congr 1
    match xs, h1, h2, h3, h4, h5, h6 with
    | [a, b, c, d, f], h1, h2, h3, h4, h5, h6 => simp at h1 h2 h3 h4 h5; subst h1 h2 h3 h4 h5; rfl
    | a :: b :: c :: d :: f :: g :: r, _, _, _, _, _, h6 => simp at h6
theorem shp_decl {n : Nat} {xs : List AV} (h : Shp Try.prog n 34 xs) : ∃ d : Decl, packT Try.prog 34 xs = d.av ∧ d.ok := by
  match n, h with
  | 0, h => exact h.elim
  | 1, h =>
    simp only [Shp, Try.underlying34] at h
    simp only [ShpF, cells3, cells9, cells31, cells32] at h
    exact h.1.elim
  | n + 2, h =>
    simp only [Shp, Try.underlying34] at h
    simp only [ShpF, cells3, cells9, cells31, cells32] at h
    obtain ⟨h1, h2, h3, h4, h5, h6⟩ := h
    simp only [Shp, Try.underlying3, Try.underlying9, Try.underlying31, Try.underlying32, bytes76, bytes42] at h1 h2 h3 h4 h5
    obtain ⟨k, h1, hk⟩ := h1
    obtain ⟨s, h2, hs⟩ := h2
    obtain ⟨fs, h3, hb3, h7⟩ := h3
    obtain ⟨ms, h4, hb4, h8⟩ := h4
    obtain ⟨e, h5, he⟩ := h5
    obtain ⟨fs, rfl, hfs⟩ := shp_list (fun ys hs => shp_fld hs) h7
    obtain ⟨ms, rfl, hms⟩ := shp_list (fun ys hs => shp_mth hs) h8
    simp only [List.length_map, reachBytes] at hb3 hb4
    refine ⟨⟨k, s, fs, ms, e⟩, ?_, i64_of hk, hs, by simp only [most]; omega, by simp only [most]; omega, i64_of he, hfs, hms⟩
    simp only [packT, aggs.1, if_true, Decl.av]
    congr 1
    match xs, h1, h2, h3, h4, h5, h6 with
    | [a, b, c, d, f], h1, h2, h3, h4, h5, h6 => simp at h1 h2 h3 h4 h5; subst h1 h2 h3 h4 h5; rfl
    | a :: b :: c :: d :: f :: g :: r, _, _, _, _, _, h6 => simp at h6
theorem shp_decls {n : Nat} {xs : List AV} (h : Shp Try.prog n 22 xs) : ∃ ds : List Decl, packT Try.prog 22 xs = .rsl (ds.map Decl.av) ∧ ds.length < 2199023255552 ∧ ∀ d ∈ ds, d.ok := by
  cases n with
  | zero => exact h.elim
  | succ n =>
    simp only [Shp, Try.underlying22, bytes34] at h
    obtain ⟨es, rfl, h1, h2⟩ := h
    obtain ⟨ds, rfl, hds⟩ := shp_list (fun ys hs => shp_decl hs) h2
    refine ⟨ds, by simp only [packT, show aggT Try.prog 22 = false by kernel_rfl]; rfl, ?_, hds⟩
    simp only [List.length_map, reachBytes] at h1
    omega
theorem shp_str {n : Nat} {xs : List AV} (h : Shp Try.prog n 9 xs) : ∃ s, packT Try.prog 9 xs = .str s := by
  cases n with
  | zero => exact h.elim
  | succ n =>
    simp only [Shp, Try.underlying9] at h
    obtain ⟨s, rfl, _⟩ := h
    exact ⟨s, by simp only [packT, show aggT Try.prog 9 = false by kernel_rfl]; rfl⟩
end Go.Proofs.Ytjljhmeadfejhaa
