/- The engine, part 28: atomic reads and writes; marks. -/
import Derived.Test.YtjljhmeadfejhaaE27
import Derived.Laws.LoneSync
set_option linter.unusedVariables false
set_option linter.unusedSimpArgs false
namespace Go.Eng
open Go.WideShapes Go.RowKit
section
variable {P : Pg} {g : FuncId} {fn : Func} {h : List AO} {K : ARes → List AO → Prop}
theorem box_cell {φ : Nat → Loc} {w : World} {S : Nat → Nat → Prop} (M : Sim h φ w S) {i o : Nat} {cs : List AV} {k : IntKind} {x : Int} (hb : h[i]? = some (.box cs)) (ho : cs[o]? = some (.int k x)) :
    w.cell? ⟨(φ i).blk, o, none⟩ = some (.int k x) ∧ w.frozen? ⟨(φ i).blk, o, none⟩ = false := by
  obtain ⟨arr, T, k1, k2, k3, k4, k5⟩ := M.obj i _ hb
  have hlt : o < arr.size := Nat.lt_of_lt_of_le (List.getElem?_eq_some_iff.1 ho).1 k2
  have hv : arr[o]? = some arr[o] := Array.getElem?_eq_getElem hlt
  have r := k4 o _ _ ho hv
  have e := rel_int_inv r
  refine ⟨?_, by simp [World.frozen?, k1]⟩
  simp only [World.cell?, k1]
  simp [hv, e]
theorem box_put {φ : Nat → Loc} {w : World} {S : Nat → Nat → Prop} (M : Sim h φ w S) {i o : Nat} {cs : List AV} (k : IntKind) (y : Int) (hb : h[i]? = some (.box cs)) (ho : o < cs.length) :
    Sim (h.set i (.box (cs.set o (.int k y)))) φ (w.setCell ⟨(φ i).blk, o, none⟩ (.int k y)) S ∧ Ext h φ w S (h.set i (.box (cs.set o (.int k y)))) φ (w.setCell ⟨(φ i).blk, o, none⟩ (.int k y)) S := by
  obtain ⟨arr, T, k1, k2, k3, k4, k5⟩ := M.obj i _ hb
  have hblk : (φ i).blk < w.heap.size := (Array.getElem?_eq_some_iff.1 k1).1
  have st := turn_step M (o' := .box (cs.set o (.int k y))) hb rfl rfl rfl k5 (w' := w.setCell ⟨(φ i).blk, o, none⟩ (.int k y))
    (fun b hne => by simp [World.setCell, Array.getElem?_modify, Ne.symm hne]) (by simp [World.setCell]) rfl rfl rfl
  have E := st.ext M (by simp)
  refine ⟨st.sim M (by simp) ⟨arr.setIfInBounds o (.int k y), T, ?_, by simpa using k2, fun j x hx => ?_, fun j x v hx hv => ?_, k5⟩, E⟩
  · simp [World.setCell, Array.getElem?_modify, k1]
  · rw [List.getElem?_set] at hx
    split at hx
    · injection hx with hx; subst hx; rfl
    · exact k3 j x hx
  · rw [List.getElem?_set] at hx
    rw [Array.getElem?_setIfInBounds] at hv
    split at hx
    · rename_i e
      subst e
      injection hx with hx
      subst hx
      rw [if_pos rfl, if_pos (by omega)] at hv
      injection hv with hv
      subst hv
      exact .int true k y
    · rename_i e
      rw [if_neg e] at hv
      exact (k4 j x v hx hv).mono E
theorem rels_ptr {φ : Nat → Loc} {w : World} {S : Nat → Nat → Prop} {i o : Nat} {l : List AV} {vs : Array Value} (R : Rels h φ w S (.ptr i o :: l) vs) : vs[0]? = some (.pointer (some ⟨(φ i).blk, o, none⟩)) := by
  obtain ⟨h1, h2⟩ := R
  have hlt : 0 < vs.size := by rw [← h1]; simp
  have hv : vs[0]? = some vs[0] := Array.getElem?_eq_getElem hlt
  have r := h2 0 _ _ rfl hv
  rw [hv]
  generalize vs[0] = u at r
  cases r
  rfl
theorem WC_load (hf : P.prog.funcs[g]? = some fn) (hname : (fn.name == "runtime.NumGoroutine") = false) (hb : fn.body.isNone = true) (hn : Extern.findNext fn = none) (k : IntKind) (he : Extern.find fn = some (Extern.Atomic.loadT (.int k)))
    {i o : Nat} {cs : List AV} {x : Int} (h1 : h[i]? = some (.box cs)) (h2 : cs[o]? = some (.int k x)) (kk : K (.ok (.int k x)) h) : WC P g [.ptr i o] h K := by
  intro φ w S vs V M R
  obtain ⟨c1, c2⟩ := box_cell M h1 h2
  have hv : vs = #[.pointer (some ⟨(φ i).blk, o, none⟩)] := by
    have e := rels_ptr R
    have hs := R.1
    match vs, hs, e with
    | ⟨[a]⟩, _, e => simp at e; rw [e]
  subst hv
  exact .inr ⟨_, _, run_call_load hf hname hb hn k he c1, _, h, φ, S, kk, M, Ext.refl _ _ _ _, .int true k x⟩
theorem WC_store (hf : P.prog.funcs[g]? = some fn) (hname : (fn.name == "runtime.NumGoroutine") = false) (hb : fn.body.isNone = true) (hn : Extern.findNext fn = none) (he : Extern.find fn = some Extern.Atomic.storeT)
    {i o : Nat} {cs : List AV} {k : IntKind} {x y : Int} (h1 : h[i]? = some (.box cs)) (h2 : cs[o]? = some (.int k x)) (kk : K (.ok (.tup [])) (h.set i (.box (cs.set o (.int k y))))) : WC P g [.ptr i o, .int k y] h K := by
  intro φ w S vs V M R
  obtain ⟨c1, c2⟩ := box_cell M h1 h2
  have hv : vs = #[.pointer (some ⟨(φ i).blk, o, none⟩), .int k y] := by
    have e := rels_ptr R
    obtain ⟨hs, hr⟩ := R
    match vs, hs, e, hr with
    | ⟨[a, b]⟩, _, e, hr =>
      simp at e
      have r := hr 1 _ b rfl rfl
      rw [e, rel_int_inv r]
  subst hv
  obtain ⟨M', E'⟩ := box_put M k y h1 (List.getElem?_eq_some_iff.1 h2).1
  exact .inr ⟨_, _, run_call_store hf hname hb hn he c1 c2, _, _, φ, S, kk, M', E', .tup true [] #[] rfl (fun j x v hx => by simp at hx)⟩
theorem WC_cas_hit (hf : P.prog.funcs[g]? = some fn) (hname : (fn.name == "runtime.NumGoroutine") = false) (hb : fn.body.isNone = true) (hn : Extern.findNext fn = none) (k : IntKind) (he : Extern.find fn = some (Extern.Atomic.casT (.int k)))
    {i o : Nat} {cs : List AV} {x y : Int} (h1 : h[i]? = some (.box cs)) (h2 : cs[o]? = some (.int k x)) (kk : K (.ok (.bool true)) (h.set i (.box (cs.set o (.int k y))))) : WC P g [.ptr i o, .int k x, .int k y] h K := by
  intro φ w S vs V M R
  obtain ⟨c1, c2⟩ := box_cell M h1 h2
  have hv : vs = #[.pointer (some ⟨(φ i).blk, o, none⟩), .int k x, .int k y] := by
    have e := rels_ptr R
    obtain ⟨hs, hr⟩ := R
    match vs, hs, e, hr with
    | ⟨[a, b, c]⟩, _, e, hr =>
      simp at e
      have r := hr 1 _ b rfl rfl
      have r2 := hr 2 _ c rfl rfl
      rw [e, rel_int_inv r, rel_int_inv r2]
  subst hv
  obtain ⟨M', E'⟩ := box_put M k y h1 (List.getElem?_eq_some_iff.1 h2).1
  exact .inr ⟨_, _, run_call_cas_hit hf hname hb hn k he c1 c2, _, _, φ, S, kk, M', E', .bool true true⟩
theorem WC_add (hf : P.prog.funcs[g]? = some fn) (hname : (fn.name == "runtime.NumGoroutine") = false) (hb : fn.body.isNone = true) (hn : Extern.findNext fn = none) (k : IntKind) (he : Extern.find fn = some (Extern.Atomic.update (Op.intArith .add) k true))
    {i o : Nat} {cs : List AV} {x y : Int} (h1 : h[i]? = some (.box cs)) (h2 : cs[o]? = some (.int k x)) (kk : K (.ok (.int k (k.wrap (x + y)))) (h.set i (.box (cs.set o (.int k (k.wrap (x + y))))))) : WC P g [.ptr i o, .int k y] h K := by
  intro φ w S vs V M R
  obtain ⟨c1, c2⟩ := box_cell M h1 h2
  have hv : vs = #[.pointer (some ⟨(φ i).blk, o, none⟩), .int k y] := by
    have e := rels_ptr R
    obtain ⟨hs, hr⟩ := R
    match vs, hs, e, hr with
    | ⟨[a, b]⟩, _, e, hr =>
      simp at e
      have r := hr 1 _ b rfl rfl
      rw [e, rel_int_inv r]
  subst hv
  obtain ⟨M', E'⟩ := box_put M k (k.wrap (x + y)) h1 (List.getElem?_eq_some_iff.1 h2).1
  exact .inr ⟨_, _, run_call_add hf hname hb hn k he c1 c2 (by simp [Op.intArith]), _, _, φ, S, kk, M', E', .int true _ _⟩
theorem WC_mark0 (hf : P.prog.funcs[g]? = some fn) (hname : (fn.name == "runtime.NumGoroutine") = false) (hb : fn.body.isNone = true) (hn : Extern.findNext fn = none) (m : Mark)
    (he : Extern.find fn = some (fun _ => do mark m; pure Extern.Race.none_)) (kk : K (.ok (.tup [])) h) : WC P g [] h K := by
  intro φ w S vs V M R
  have hv : vs = #[] := by
    have hs := R.1
    match vs, hs with
    | ⟨[]⟩, _ => rfl
  subst hv
  exact .inr ⟨_, _, run_call_mark0 hf hname hb hn m he w, _, h, φ, S, kk, M, Ext.refl _ _ _ _, .tup true [] #[] rfl (fun j x v hx => by simp at hx)⟩
theorem WC_marked (hf : P.prog.funcs[g]? = some fn) (hname : (fn.name == "runtime.NumGoroutine") = false) (hb : fn.body.isNone = true) (hn : Extern.findNext fn = none) (m : Addr → Mark)
    (he : Extern.find fn = some (Extern.Race.marked m)) {i o : Nat} (kk : K (.ok (.tup [])) h) : WC P g [.ptr i o] h K := by
  intro φ w S vs V M R
  have hv : vs = #[.pointer (some ⟨(φ i).blk, o, none⟩)] := by
    have e := rels_ptr R
    have hs := R.1
    match vs, hs, e with
    | ⟨[a]⟩, _, e => simp at e; rw [e]
  subst hv
  exact .inr ⟨_, _, run_call_marked hf hname hb hn m he _ w, _, h, φ, S, kk, M, Ext.refl _ _ _ _, .tup true [] #[] rfl (fun j x v hx => by simp at hx)⟩
end
end Go.Eng
