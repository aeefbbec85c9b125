/- Functions of the library that are known by their contracts; the example of chapter 15, run by the kernel. -/
import Derived.Test.YtjljhmeadfejhaaDoorC0
import Derived.Test.YtjljhmeadfejhaaDoorSH
import Derived.Test.YtjljhmeadfejhaaDoorE27
set_option maxRecDepth 100000
set_option linter.unusedVariables false
namespace Go.Proofs.YtjljhmeadfejhaaDoor
open Go.Eng
theorem mixed : Tryd.prog.follows .mixedOrders = true := by kernel_rfl
abbrev W := WC (noPg Tryd.prog)
def joinA (xs : List ByteArray) (sep : ByteArray) : ByteArray := ⟨(Lib.join (xs.map (·.data.toList)) sep.data.toList).toArray⟩
theorem w67 {h : List AO} {xs : List ByteArray} {sep : ByteArray} {K : ARes → List AO → Prop} (hN : xs.length ≤ 140737488355328) (hlen : (Lib.join (xs.map (·.data.toList)) sep.data.toList).length ≤ 140737488355328)
    (k : K (.ok (.str (joinA xs sep))) h) : W 67 [.rsl (xs.map .str), .str sep] h K := by
  refine WC_below (v := .str (joinA xs sep)) (fun φ w S vs V M R => ?_) k
  obtain ⟨A, c, rfl, hc, hcell⟩ := rels_strs R
  refine ⟨.string (joinA xs sep), ⟨Tryd.call67 _ w, ?_⟩, fun w' => .str true _⟩
  cases xs with
  | nil =>
    refine (Tryd.strings_Join_none A c sep w).mono ?_
    rintro e w' ⟨rfl, rfl⟩
    exact ⟨rfl, below_refl _⟩
  | cons x r =>
    obtain ⟨bk, o, rfl, hb, hj⟩ := hcell (by simp)
    exact Tryd.strings_Join bk o c (x :: r) sep w hj hb hN hc hlen
def strsOf : List AV → Option (List ByteArray)
  | [] => some []
  | .str s :: l => (strsOf l).map (s :: ·)
  | _ => none
theorem strsOf_eq : ∀ {l : List AV} {xs : List ByteArray}, strsOf l = some xs → l = xs.map .str
  | [], xs, e => by injection e with e; subst e; rfl
  | x :: l, xs, e => by
    cases x <;> simp only [strsOf] at e <;> first | (cases e; done) | skip
    obtain ⟨ys, h1, rfl⟩ := Option.map_eq_some_iff.1 e
    rw [strsOf_eq h1]; rfl
def libPrim : FuncId → List AV → List AO → Option (AV × List AO)
  | 67, [.rsl l, .str sep], h => match strsOf l with
    | some xs => if xs.length ≤ 140737488355328 ∧ (Lib.join (xs.map (·.data.toList)) sep.data.toList).length ≤ 140737488355328 then some (.str (joinA xs sep), h) else none
    | none => none
  | _, _, _ => none
theorem libPrim_ok : ∀ g xs h x h', libPrim g xs h = some (x, h') → WC (noPg Tryd.prog) g xs h fun r h2 => r = .ok x ∧ h2 = h' := by
  intro g xs h x h' e
  unfold libPrim at e
  split at e
  · split at e
    · rename_i hs
      split at e
      · rename_i hc
        injection e with e; injection e with e1 e2; subst e1 e2
        rw [strsOf_eq hs]
        exact w67 hc.1 hc.2 ⟨rfl, rfl⟩
      · cases e
    · cases e
  · cases e
def tab15 : List (FuncId × AFun) := [(10, A10), (11, A11), (13, A13), (15, A15), (29, A29), (32, A32), (34, A34), (40, A40), (41, A41), (47, A47), (63, A63), (66, A66), (70, A70), (96, A96), (101, A101), (162, A162), (163, A163), (169, A169), (171, A171)]
theorem tab15_ok : tabOk Tryd.prog tab15 := ⟨c10, c11, c13, c15, c29, c32, c34, c40, c41, c47, c63, c66, c70, c96, c101, c162, c163, c169, c171, trivial⟩
theorem w10 {h : List AO} {K : ARes → List AO → Prop} (k : K (.ok (.bool true)) h) : W 10 [] h K :=
  WC_run mixed tab15_ok libPrim_ok 100000 (by kernel_rfl) k
end Go.Proofs.YtjljhmeadfejhaaDoor
